import Derived.Test.YtlonpljlojgclaaSt15
set_option linter.unusedSimpArgs false
set_option linter.unusedVariables false
set_option maxRecDepth 1000000
namespace Go.Proofs.Ytlonpljlojgclaa
open Go Go.Av

theorem refs_none (H : Heap) : RefsAt H none 0 0 [] := ⟨rfl, Nat.le_refl _, rfl⟩

theorem k119n (id : Int) (a : Nat) (sa : Bool) (G : Heap) (ha : G[a]? = some (.cells 3 [.int .i64 id] sa)) :
    CallRuns Try.prog 119 [.sl none 0 0, .fn (.func 120) [] [.ptr (some (a, [0], 3))]] G (.ret (.sl none 0 0)) G := by
  rcases k132 (l := []) id a sa G ha (refs_none G) (by simp) with ⟨d1, d2⟩ | ⟨i, d1, d2, d3⟩
  · refine callRuns_eq (run119 (by simp) ?_)
    simp -implicitDefEqProofs
    refine callK_ret d1 ?_
    simp -implicitDefEqProofs
  · simp at d2

set_option maxHeartbeats 4000000 in
theorem k89 {p : Option (Nat × List Nat × Nat × TypeId)} {n c : Nat} {l : List Int} (ra : List Rg) (sa : List Sl) (ga ia id : Int) (H F : Heap) (hra : ra.length = 11) (hsa : sa.length = 64) (h : Owns (H ++ F) H.length p n c l) (hl : l.length < 2 ^ 44) :
    ∃ n' c' D, CallRuns Try.prog 89 [eSt ra sa ga (.sl p n c) ia, .int .i64 id] (H ++ F) (.ret (eSt ra sa ga (.sl p n' c') ia)) (H ++ D) ∧ RefsAt (H ++ D) p n' c' (noId id l) := by
  obtain ⟨rfl, hc, hp⟩ := h
  cases p with
  | none =>
    simp only at hp
    subst hp
    have hl0 : l = [] := List.eq_nil_of_length_eq_zero (by omega)
    subst hl0
    have d := k119n id (H ++ F).length false (H ++ F ++ [.cells 3 [.int .i64 id] false]) (by simp)
    refine ⟨0, 0, F ++ [.cells 3 [.int .i64 id] false], callRuns_eq (run89 (by simp) ?_), refs_none _⟩
    simp -implicitDefEqProofs [-z35_S, z35', hra, hsa]
    refine callK_ret (by simpa using d) ?_
    simp -implicitDefEqProofs [-z35_S, z35', hra, hsa]
  | some q =>
    obtain ⟨k, qq, s, e⟩ := q
    obtain ⟨rfl, rfl, rfl, q4, q5, row, sl, q6, q7, q8⟩ := hp
    have hne : k ≠ List.length (H ++ F) := by omega
    obtain ⟨row', d, d2⟩ := k119 (c := c) id (List.length (H ++ F)) false (H ++ F ++ [.cells 3 [.int .i64 id] false]) (by simp) hne (by rw [List.getElem?_append_left q5]; exact q6) q7 hc q8 hl
    obtain ⟨j, rfl⟩ := Nat.exists_eq_add_of_le q4
    have hjF : j < F.length := by simp at q5; omega
    have e1 : (H ++ F ++ [Blk.cells 3 [.int .i64 id] false]).set (H.length + j) (.cells 3 row' sl) = H ++ (F.set j (.cells 3 row' sl) ++ [.cells 3 [.int .i64 id] false]) := by
      rw [List.append_assoc, List.set_append_right _ _ (by omega)]
      simp only [Nat.add_sub_cancel_left]
      rw [List.set_append_left _ _ hjF]
    rw [e1] at d
    refine ⟨(noId id l).length, c, F.set j (.cells 3 row' sl) ++ [.cells 3 [.int .i64 id] false], callRuns_eq (run89 (by simp) ?_), rfl, by have := noId_len id l; omega, rfl, rfl, rfl, by simp; omega, .inr ⟨.cells 3 row' sl, row', ?_, rfl, d2⟩⟩
    · simp -implicitDefEqProofs [-z35_S, z35', hra, hsa]
      refine callK_ret (by simpa using d) ?_
      simp -implicitDefEqProofs [-z35_S, z35', hra, hsa]
    · rw [List.getElem?_append_right (by omega)]
      simp [List.getElem?_append, hjF]

theorem k92 (r : Rg) (H : Heap) : CallRuns Try.prog 92 [eR r] H (.ret (eR (loseF (-1) r))) H := by
  refine callRuns_eq (run92 (by simp) ?_)
  by_cases h1 : r.kind = 4
  · simp -implicitDefEqProofs [h1, loseF, goneB, rz, eR_def]
  · by_cases h2 : r.kind = 5 <;> simp -implicitDefEqProofs [h1, h2, loseF, goneB, rz, eR_def]

theorem k94 (r : Rg) (id : Int) (hid : ¬ id < 0) (a : Nat) (sa : Bool) (H : Heap) (ha : H[a]? = some (.cells 3 [.int .i64 id] sa)) : CallRuns Try.prog 94 [eR r, .ptr (some (a, [0], 3))] H (.ret (eR (loseF id r))) H := by
  refine callRuns_eq (run94 (by simp) ?_)
  by_cases h1 : r.kind = 9
  · by_cases h2 : r.id = id <;> simp -implicitDefEqProofs [h1, h2, ha, hid, loseF, goneB, rz, eR_def]
  · simp -implicitDefEqProofs [h1, ha, hid, loseF, goneB, rz, eR_def]

set_option maxHeartbeats 4000000 in
theorem k42 {p : Option (Nat × List Nat × Nat × TypeId)} {n c : Nat} {l : List Int} (ra : List Rg) (sa : List Sl) (ga ia : Int) (H : Heap) (hra : ra.length = 11) (hsa : sa.length = 64) (r : RefsAt H p n c l) (hl : l.length < 2 ^ 44) :
    ∃ p' c' D, CallRuns Try.prog 42 [eSt ra sa ga (.sl p n c) ia] H (.ret (eSt (ra.map (loseF (-1))) (sa.map (eachS (loseF (-1)))) 0 (.sl p' n c') ia)) (H ++ D) ∧ RefsAt (H ++ D) p' n c' l := by
  obtain ⟨p', c', D, h1, h2⟩ := k86 ra sa ga ia H hra hsa r hl 92 [] (loseF (-1)) (fun x D => k92 x _)
  refine ⟨p', c', D, callRuns_eq (run42 (by simp) ?_), h2.refs⟩
  simp -implicitDefEqProofs [-z35_S, z35', hra, hsa]
  refine callK_ret h1 ?_
  simp -implicitDefEqProofs [-z35_S, -List.map_map, z35', hra, hsa]

set_option maxHeartbeats 4000000 in
theorem k40 {p : Option (Nat × List Nat × Nat × TypeId)} {n c : Nat} {l : List Int} (ra : List Rg) (sa : List Sl) (ga ia id : Int) (null : Bool) (H : Heap) (hra : ra.length = 11) (hsa : sa.length = 64) (r : RefsAt H p n c l) (hl : l.length < 2 ^ 44) :
    ∃ p' n' c' D, CallRuns Try.prog 40 [eSt ra sa ga (.sl p n c) ia, .int .i64 id, .bool null] H (.ret (eSt (ra.map (nullF id null)) (sa.map (eachS (nullF id null))) ga (.sl p' n' c') ia)) (H ++ D) ∧ RefsAt (H ++ D) p' n' c' (if null then noId id l else l) := by
  obtain ⟨p', c', D, h1, h2⟩ := k86 ra sa ga ia (H ++ [.cells 3 [.int .i64 id] false, .cells 4 [.bool null] false]) hra hsa r.append hl 87 [.ptr (some (H.length, [0], 3)), .ptr (some (H.length + 1, [0], 4))] (nullF id null)
    (fun x D => k87 x id null H.length (H.length + 1) false false _ (by simp) (by simp))
  cases null
  · refine ⟨p', n, c', [.cells 3 [.int .i64 id] false, .cells 4 [.bool false] false] ++ D, callRuns_eq (run40 (by simp) ?_), ?_⟩
    · simp -implicitDefEqProofs [-z35_S, z35', hra, hsa]
      refine callK_ret (by rw [List.append_assoc]; exact h1) ?_
      simp -implicitDefEqProofs [-z35_S, -List.map_map, z35', hra, hsa]
    · rw [← List.append_assoc]
      exact h2.refs
  · have hra' : (ra.map (nullF id true)).length = 11 := by simpa using hra
    have hsa' : (sa.map (eachS (nullF id true))).length = 64 := by simpa using hsa
    obtain ⟨n', c2, D2, h3, h4⟩ := k89 (ra.map (nullF id true)) (sa.map (eachS (nullF id true))) ga ia id (H ++ [.cells 3 [.int .i64 id] false, .cells 4 [.bool true] false]) D hra' hsa' h2 hl
    refine ⟨p', n', c2, [.cells 3 [.int .i64 id] false, .cells 4 [.bool true] false] ++ D2, callRuns_eq (run40 (by simp) ?_), ?_⟩
    · simp -implicitDefEqProofs [-z35_S, z35', hra, hsa]
      refine callK_ret (by rw [List.append_assoc]; exact h1) ?_
      simp -implicitDefEqProofs [-z35_S, -List.map_map, z35', hra, hsa]
      refine callK_ret (by simpa [-List.map_map] using h3) ?_
      simp -implicitDefEqProofs [-z35_S, -List.map_map, z35', hra, hsa]
    · rw [← List.append_assoc]
      exact h4

set_option maxHeartbeats 4000000 in
theorem k44 {p : Option (Nat × List Nat × Nat × TypeId)} {n c : Nat} {l : List Int} (ra : List Rg) (sa : List Sl) (ga ia id : Int) (hid : ¬ id < 0) (H : Heap) (hra : ra.length = 11) (hsa : sa.length = 64) (r : RefsAt H p n c l) (hl : l.length < 2 ^ 44) :
    ∃ p' n' c' D, CallRuns Try.prog 44 [eSt ra sa ga (.sl p n c) ia, .int .i64 id] H (.ret (eSt (ra.map (loseF id)) (sa.map (eachS (loseF id))) ga (.sl p' n' c') ia)) (H ++ D) ∧ RefsAt (H ++ D) p' n' c' (noId id l) := by
  obtain ⟨p', c', D, h1, h2⟩ := k86 ra sa ga ia (H ++ [.cells 3 [.int .i64 id] false]) hra hsa r.append hl 94 [.ptr (some (H.length, [0], 3))] (loseF id)
    (fun x D => k94 x id hid H.length false _ (by simp))
  have hra' : (ra.map (loseF id)).length = 11 := by simpa using hra
  have hsa' : (sa.map (eachS (loseF id))).length = 64 := by simpa using hsa
  obtain ⟨n', c2, D2, h3, h4⟩ := k89 (ra.map (loseF id)) (sa.map (eachS (loseF id))) ga ia id (H ++ [.cells 3 [.int .i64 id] false]) D hra' hsa' h2 hl
  refine ⟨p', n', c2, [.cells 3 [.int .i64 id] false] ++ D2, callRuns_eq (run44 (by simp) ?_), ?_⟩
  · simp -implicitDefEqProofs [-z35_S, z35', hra, hsa]
    refine draws_run [H.length] rfl ?_
    simp -implicitDefEqProofs [-z35_S, z35', hra, hsa]
    refine callK_ret (by simpa using h1) ?_
    simp -implicitDefEqProofs [-z35_S, -List.map_map, z35', hra, hsa]
    refine callK_ret (by simpa [-List.map_map] using h3) ?_
    simp -implicitDefEqProofs [-z35_S, -List.map_map, z35', hra, hsa]
  · rw [← List.append_assoc]
    exact h4

end Go.Proofs.Ytlonpljlojgclaa
