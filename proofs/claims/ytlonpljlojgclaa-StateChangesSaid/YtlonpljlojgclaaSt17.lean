import Derived.Test.YtlonpljlojgclaaSt16
set_option linter.unusedSimpArgs false
set_option linter.unusedVariables false
set_option maxRecDepth 1000000
namespace Go.Proofs.Ytlonpljlojgclaa
open Go Go.Av

theorem null_rz {id : Int} {null : Bool} {r : Rg} (h : nullF id null r = rz) : r = rz := by
  unfold nullF at h
  split at h
  · exact h
  · split at h
    · simp [rz] at h
    · split at h <;> simp [rz] at h

theorem each_null (id : Int) (null : Bool) (x : Sl) : eachS (nullF id null) x = if x.kind = 2 then ⟨x.kind, x.known, nullF id null x.reg⟩ else x := by
  unfold eachS
  split
  · rw [if_neg]
    rintro ⟨h1, h2⟩
    exact h2 (by rw [h1]; exact null_rz h1)
  · rfl

theorem each_lose (id : Int) : eachS (loseF id) = loseS id := by
  funext x
  unfold eachS loseS
  by_cases h : x.kind = 2
  · simp only [h, if_true, true_and]
    cases hg : goneB id x.reg
    · have e : loseF id x.reg = x.reg := by simp [loseF, hg]
      rw [e]
      simp
      cases x; simp_all
    · have e : loseF id x.reg = rz := by simp [loseF, hg]
      have ne : x.reg ≠ rz := by
        intro e2
        rw [e2] at hg
        unfold goneB at hg
        split at hg <;> simp [rz] at hg
      rw [e]
      simp [ne]
  · simp [h]

set_option maxHeartbeats 4000000 in
theorem k43 {p : Option (Nat × List Nat × Nat × TypeId)} {n c : Nat} {l : List Int} (ra : List Rg) (sa : List Sl) (ga ia : Int) (H : Heap) (hra : ra.length = 11) (hsa : sa.length = 64) (r : RefsAt H p n c l) (hl : l.length < 2 ^ 44) :
    ∃ p' c' D, CallRuns Try.prog 43 [eSt ra sa ga (.sl p n c) ia] H (.ret (eSt (ra.map (loseF (-1))) (sa.map (loseS (-1))) 0 (.sl p' n c') ia)) (H ++ D) ∧ RefsAt (H ++ D) p' n c' l := by
  obtain ⟨p', c', D, h1, h2⟩ := k93 ra sa ga ia (-1) H hra hsa r hl
  refine ⟨p', c', D, callRuns_eq (run43 (by simp) ?_), h2.refs⟩
  simp -implicitDefEqProofs [-z35_S, z35', hra, hsa]
  refine callK_ret h1 ?_
  simp -implicitDefEqProofs [-z35_S, -List.map_map, z35', hra, hsa]

set_option maxHeartbeats 4000000 in
theorem k45 {p : Option (Nat × List Nat × Nat × TypeId)} {n c : Nat} {l : List Int} (ra : List Rg) (sa : List Sl) (ga ia id : Int) (hid : ¬ id < 0) (H : Heap) (hra : ra.length = 11) (hsa : sa.length = 64) (r : RefsAt H p n c l) (hl : l.length ≤ 17592186043904) :
    ∃ p' n' c' D, CallRuns Try.prog 45 [eSt ra sa ga (.sl p n c) ia, .int .i64 id] H (.ret (eSt (ra.map (loseF id)) (sa.map (loseS id)) ga (.sl p' n' c') ia)) (H ++ D) ∧ RefsAt (H ++ D) p' n' c' (noId id l) := by
  obtain ⟨p1, c1, D1, h1, h2⟩ := k93 ra sa ga ia id H hra hsa r (by omega)
  have hra' : (ra.map (loseF id)).length = 11 := by simpa using hra
  have hsa' : (sa.map (loseS id)).length = 64 := by simpa using hsa
  obtain ⟨p2, c2, D2, h3, h4⟩ := k38 (ra.map (loseF id)) (sa.map (loseS id)) ga ia (H ++ D1) hra' hsa' h2.refs (by omega)
  obtain ⟨p3, n3, c3, D3, h5, h6⟩ := k91 id (H ++ D1 ++ D2) h4.refs hl
  have hid' : 0 ≤ id := by omega
  refine ⟨p3, n3, c3, D1 ++ D2 ++ D3, callRuns_eq (run45 (by simp) ?_), by simpa using h6.refs⟩
  simp -implicitDefEqProofs [-z35_S, z35', hra, hsa, hid']
  refine callK_ret h1 ?_
  simp -implicitDefEqProofs [-z35_S, -List.map_map, z35', hra, hsa]
  refine callK_ret h3 ?_
  simp -implicitDefEqProofs [-z35_S, -List.map_map, z35', hra, hsa]
  refine callK_ret (by simpa using h5) ?_
  simp -implicitDefEqProofs [-z35_S, -List.map_map, z35', hra, hsa]

set_option maxHeartbeats 8000000 in
theorem k41 {p : Option (Nat × List Nat × Nat × TypeId)} {n c : Nat} {l : List Int} (ra : List Rg) (sa : List Sl) (ga ia id : Int) (null : Bool) (H : Heap) (hra : ra.length = 11) (hsa : sa.length = 64) (r : RefsAt H p n c l) (hl : l.length ≤ 17592186043904) :
    ∃ p' n' c' D, CallRuns Try.prog 41 [eSt ra sa ga (.sl p n c) ia, .int .i64 id, .bool null] H (.ret (eSt (ra.map (nullF id null)) (sa.map (eachS (nullF id null))) ga (.sl p' n' c') ia)) (H ++ D) ∧ RefsAt (H ++ D) p' n' c' (if null then noId id l else l) := by
  obtain ⟨p1, c1, D1, h1, h2⟩ := k38 ra sa ga ia H hra hsa r (by omega)
  obtain ⟨p3, n3, c3, D3, h5, h6⟩ := k91 id (H ++ D1) h2.refs hl
  have fin : (∃ out E, CallRuns Try.prog 41 [eSt ra sa ga (.sl p n c) ia, .int .i64 id, .bool null] H out E ∧ (∃ p' n' c' D, out = .ret (eSt (ra.map (nullF id null)) (sa.map (eachS (nullF id null))) ga (.sl p' n' c') ia) ∧ E = H ++ D ∧ RefsAt (H ++ D) p' n' c' (if null then noId id l else l))) →
      ∃ p' n' c' D, CallRuns Try.prog 41 [eSt ra sa ga (.sl p n c) ia, .int .i64 id, .bool null] H (.ret (eSt (ra.map (nullF id null)) (sa.map (eachS (nullF id null))) ga (.sl p' n' c') ia)) (H ++ D) ∧ RefsAt (H ++ D) p' n' c' (if null then noId id l else l) := by
    rintro ⟨out, E, h1, p', n', c', D, rfl, rfl, h2⟩
    exact ⟨p', n', c', D, h1, h2⟩
  refine fin (run41 (by simp) ?_)
  clear fin
  simp -implicitDefEqProofs [-z35_S, z35', hra, hsa]
  refine callK_ret h1 ?_
  simp -implicitDefEqProofs [-z35_S, z35', hra, hsa]
  refine loop_inv [1, 2, 3, 6, 7] [3, 6] (fun i : Nat => ⟨[(1, .int .i64 id), (2, .bool null), (3, .loc 3 [0] 35), (6, .loc 6 [0] 35), (7, .int .i64 i)],
      [(3, 35, [eSt (part (nullF id null) ra i) sa ga (.sl p1 n c1) ia]), (6, 35, [eSt rz11 lz64 0 (.sl none 0 0) 0])], H ++ D1⟩)
    (fun i => i ≤ 11) (fun i => 11 - i) 0 (by simp -implicitDefEqProofs [St.keep, part_zero]) (by simp -implicitDefEqProofs [tidy]) (by omega) ?_
  intro i hi
  by_cases hlt : i < 11
  · obtain ⟨x, hx⟩ := getElem?_of_lt (show i < ra.length by omega)
    have hx2 := part_now (f := nullF id null) hx
    have hpl : (part (nullF id null) ra i).length = 11 := by rw [part_len, hra]
    have hi' : ((i : Nat) : Int) < 11 := by omega
    have hw := wrap_succ (show i < 2 ^ 60 by omega)
    obtain ⟨b, hb⟩ := k90 x id null (H ++ D1)
    have e := part_set (f := nullF id null) hx
    simp -implicitDefEqProofs [hi', hx2, hpl]
    refine callK_ret hb ?_
    simp -implicitDefEqProofs [hi', hx2, hpl, hw]
    exact headK_of (i + 1) (by simp -implicitDefEqProofs [St.keep, ← e, List.map_set]) (by omega) (by omega)
  have hi0 : i = 11 := by omega
  subst hi0
  rw [part_end (by omega)]
  simp -implicitDefEqProofs [-List.map_map]
  clear hi hlt
  refine loop_inv [1, 2, 3, 6, 8] [3, 6] (fun i : Nat => ⟨[(1, .int .i64 id), (2, .bool null), (3, .loc 3 [0] 35), (6, .loc 6 [0] 35), (8, .int .i64 i)],
      [(3, 35, [eSt (ra.map (nullF id null)) (part (eachS (nullF id null)) sa i) ga (.sl p1 n c1) ia]), (6, 35, [eSt rz11 lz64 0 (.sl none 0 0) 0])], H ++ D1⟩)
    (fun i => i ≤ 64) (fun i => 64 - i) 0 (by simp -implicitDefEqProofs [-List.map_map, St.keep, part_zero]) (by simp -implicitDefEqProofs [tidy]) (by omega) ?_
  intro i hi
  by_cases hlt : i < 64
  · obtain ⟨x, hx⟩ := getElem?_of_lt (show i < sa.length by omega)
    have hx2 := part_now (f := eachS (nullF id null)) hx
    have hpl : (part (eachS (nullF id null)) sa i).length = 64 := by rw [part_len, hsa]
    have hi' : ((i : Nat) : Int) < 64 := by omega
    have hw := wrap_succ (show i < 2 ^ 60 by omega)
    by_cases c1 : x.kind = 2
    rotate_left
    · have e := part_skip (f := eachS (nullF id null)) hx (by simp [each_null, c1])
      simp -implicitDefEqProofs [-List.map_map, hi', hx2, hpl, c1, hw]
      exact headK_of (i + 1) (by simp -implicitDefEqProofs [-List.map_map, St.keep, e]) (by omega) (by omega)
    obtain ⟨b, hb⟩ := k90 x.reg id null (H ++ D1)
    have e := part_set (f := eachS (nullF id null)) hx
    rw [each_null, if_pos c1] at e
    simp -implicitDefEqProofs [-List.map_map, hi', hx2, hpl, c1]
    refine callK_ret hb ?_
    simp -implicitDefEqProofs [-List.map_map, hi', hx2, hpl, c1, hw]
    exact headK_of (i + 1) (by simp -implicitDefEqProofs [-List.map_map, St.keep, ← e, List.map_set, eL_def, c1]) (by omega) (by omega)
  have hi0 : i = 64 := by omega
  subst hi0
  rw [part_end (by omega)]
  cases null
  · simp -implicitDefEqProofs [-List.map_map, -z35_S, z35', hra, hsa]
    exact ⟨_, _, _, ⟨rfl, rfl, rfl⟩, h2.refs⟩
  · simp -implicitDefEqProofs [-List.map_map, -z35_S, z35', hra, hsa]
    refine callK_ret h5 ?_
    simp -implicitDefEqProofs [-List.map_map, -z35_S, z35', hra, hsa]
    exact ⟨_, _, _, ⟨rfl, rfl, rfl⟩, by simpa using h6.refs⟩

end Go.Proofs.Ytlonpljlojgclaa
