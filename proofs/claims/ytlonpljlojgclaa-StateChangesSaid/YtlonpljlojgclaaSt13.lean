import Derived.Test.YtlonpljlojgclaaSt12
set_option linter.unusedSimpArgs false
set_option linter.unusedVariables false
set_option maxRecDepth 1000000
namespace Go.Proofs.Ytlonpljlojgclaa
open Go Go.Av

/-- A slice of numbers that is built, behind H. -/
def OutAt (H E : Heap) (v : Option (Nat × List Nat × Nat × TypeId)) (m : List Int) : Prop :=
  (∃ F, E = H ++ F) ∧ ((m = [] ∧ v = none) ∨ ∃ k, H.length ≤ k ∧ k < E.length ∧ v = some (k, [], 0, 3) ∧ E[k]? = some (.cells 3 (m.map fun x => AV.int .i64 x) true))

theorem OutAt.owns {H E : Heap} {v : Option (Nat × List Nat × Nat × TypeId)} {m : List Int} (h : OutAt H E v m) : Owns E H.length v m.length m.length m := by
  obtain ⟨_, ⟨rfl, rfl⟩ | ⟨k, h1, h2, rfl, h3⟩⟩ := h
  · exact ⟨rfl, Nat.le_refl _, rfl⟩
  · exact ⟨rfl, Nat.le_refl _, rfl, rfl, rfl, h1, h2, _, true, h3, by rw [List.take_of_length_le (by simp)], by simp⟩

def noId (id : Int) (l : List Int) : List Int := l.filter (fun x => decide (x ≠ id))
theorem noId_len (id : Int) (l : List Int) : (noId id l).length ≤ l.length := List.length_filter_le _ _
theorem noId_snoc {id x : Int} {l : List Int} {i : Nat} (h : l[i]? = some x) : noId id (l.take (i + 1)) = if x = id then noId id (l.take i) else noId id (l.take i) ++ [x] := by
  have hi : i < l.length := (List.getElem?_eq_some_iff.1 h).1
  have e : l[i] = x := (List.getElem?_eq_some_iff.1 h).2
  rw [List.take_succ_eq_append_getElem hi, e]
  unfold noId
  rw [List.filter_append]
  by_cases hx : x = id <;> simp [hx]

theorem set_pre {H F : Heap} {k : Nat} {b : Blk} (h : H.length ≤ k) : ∃ F', (H ++ F).set k b = H ++ F' := by
  obtain ⟨j, rfl⟩ : ∃ j, k = H.length + j := ⟨k - H.length, by omega⟩
  exact ⟨F.set j b, by simp⟩

set_option maxHeartbeats 8000000 in
theorem k91 {p : Option (Nat × List Nat × Nat × TypeId)} {n c : Nat} {l : List Int} (id : Int) (H : Heap) (r : RefsAt H p n c l) (hl : l.length ≤ 17592186043904) :
    ∃ p' n' c' D, CallRuns Try.prog 91 [.sl p n c, .int .i64 id] H (.ret (.sl p' n' c')) (H ++ D) ∧ Owns (H ++ D) H.length p' n' c' (noId id l) := by
  have fin : (∃ out E, CallRuns Try.prog 91 [.sl p n c, .int .i64 id] H out E ∧ (∃ p', out = .ret (.sl p' (noId id l).length (noId id l).length) ∧ OutAt H E p' (noId id l))) →
      ∃ p' n' c' D, CallRuns Try.prog 91 [.sl p n c, .int .i64 id] H (.ret (.sl p' n' c')) (H ++ D) ∧ Owns (H ++ D) H.length p' n' c' (noId id l) := by
    rintro ⟨out, E, h1, p', rfl, h2⟩
    obtain ⟨F, rfl⟩ := h2.1
    exact ⟨p', _, _, F, h1, h2.owns⟩
  refine fin (run91 (by simp) ?_)
  clear fin
  obtain ⟨rfl, _⟩ := _root_.id r
  simp -implicitDefEqProofs
  refine loop_inv [0, 1, 4, 5, 6] [] (fun x : Nat × Option (Nat × List Nat × Nat × TypeId) × Heap => ⟨[(0, .sl p l.length c), (1, .int .i64 id), (4, .sl none 0 0), (5, .sl x.2.1 (noId id (l.take x.1)).length (noId id (l.take x.1)).length), (6, .int .i64 x.1)], [], x.2.2⟩)
    (fun x => x.1 ≤ l.length ∧ OutAt H x.2.2 x.2.1 (noId id (l.take x.1))) (fun x => l.length - x.1) (0, none, H) (by simp -implicitDefEqProofs [St.keep, noId]) (by simp -implicitDefEqProofs [tidy]) ⟨by simp, ⟨[], by simp⟩, .inl ⟨by simp [noId], rfl⟩⟩ ?_
  rintro ⟨i, q, E⟩ ⟨hi, hO⟩
  simp only at hi hO
  by_cases hlt : i < l.length
  · obtain ⟨x, hx⟩ := getElem?_of_lt hlt
    have hi' : ((i : Nat) : Int) < l.length := by omega
    have hw := wrap_succ (show i < 2 ^ 60 by omega)
    obtain ⟨⟨F, rfl⟩, hO'⟩ := _root_.id hO
    obtain ⟨a1, b1, w1, x', rfl, q1, q2, q3, q4, q5⟩ := (r.append (D := F)).get hlt
    rw [hx] at q5; cases q5
    have hsn := noId_snoc (id := id) hx
    have hlen : (noId id (l.take i)).length ≤ i := Nat.le_trans (noId_len _ _) (by simp; omega)
    by_cases hxi : x = id
    · simp only [hxi, if_true] at hsn
      simp -implicitDefEqProofs [-Blk.row?, hi', q2, q3, q4, hxi, hw]
      exact headK_of (i + 1, q, H ++ F) (by simp -implicitDefEqProofs [St.keep, hsn]) ⟨by simp; omega, by simp only [hsn]; exact hO⟩ (by simp; omega)
    · simp only [hxi, if_false] at hsn
      generalize hM : noId id (l.take i) = M at hsn hO hO' hlen
      rcases hO' with ⟨rfl, rfl⟩ | ⟨k, k1, k2, rfl, k3⟩
      · simp -implicitDefEqProofs [-Blk.row?, hi', q2, q3, q4, hxi, hw, appendA, elemsA, growA, sizeOK]
        refine headK_of (i + 1, some ((H ++ F).length, [], 0, 3), H ++ F ++ [.cells 3 [.int .i64 x] true]) (by simp -implicitDefEqProofs [St.keep, hsn]) ⟨by simp; omega, ⟨F ++ [.cells 3 [.int .i64 x] true], by simp⟩, .inr ⟨(H ++ F).length, by simp, by simp, rfl, by simp [hsn]⟩⟩ (by simp; omega)
      · have z1 : (M.length + 1) * 8 ≤ 140737488355328 := by omega
        have z2 : M.length + 1 ≤ 140737488355328 := by omega
        have z3 : ¬ (M.length + 1 ≤ M.length) := by omega
        have t1 : List.take M.length (M.map fun x => AV.int .i64 x) = M.map fun x => AV.int .i64 x := List.take_of_length_le (by simp)
        simp -implicitDefEqProofs [-Blk.row?, hi', q2, q3, q4, hxi, hw, appendA, elemsA, growA, sizeOK, k3, z1, z2, z3, t1]
        obtain ⟨F', hF'⟩ := set_pre (F := F) (b := .dead) k1
        refine headK_of (i + 1, some ((H ++ F).length, [], 0, 3), (H ++ F).set k .dead ++ [.cells 3 ((M ++ [x]).map fun x => AV.int .i64 x) true]) (by simp -implicitDefEqProofs [St.keep, hsn]) ⟨by simp; omega, ⟨F' ++ [.cells 3 ((M ++ [x]).map fun x => AV.int .i64 x) true], by simp [hF']⟩, .inr ⟨(H ++ F).length, by simp, by simp, rfl, ?_⟩⟩ (by simp; omega)
        have hL : ((H ++ F).set k .dead).length = (H ++ F).length := by simp
        simp only [hsn]
        rw [← hL]; simp
  have hi' : ¬ (((i : Nat) : Int) < l.length) := by omega
  rw [List.take_of_length_le (by omega)] at hO
  have e : List.take i l = l := List.take_of_length_le (by omega)
  simp -implicitDefEqProofs [hi', e]
  exact hO

set_option maxHeartbeats 8000000 in
theorem k93 {p : Option (Nat × List Nat × Nat × TypeId)} {n c : Nat} {l : List Int} (ra : List Rg) (sa : List Sl) (ga ia id : Int) (H : Heap) (hra : ra.length = 11) (hsa : sa.length = 64) (r : RefsAt H p n c l) (hl : l.length < 2 ^ 44) :
    ∃ p' c' D, CallRuns Try.prog 93 [eSt ra sa ga (.sl p n c) ia, .int .i64 id] H (.ret (eSt (ra.map (loseF id)) (sa.map (loseS id)) ga (.sl p' n c') ia)) (H ++ D) ∧ Owns (H ++ D) H.length p' n c' l := by
  obtain ⟨p', c', D, h1, h2⟩ := k38 ra sa ga ia H hra hsa r hl
  refine ⟨p', c', D, callRuns_eq (run93 (by simp) ?_), h2⟩
  simp -implicitDefEqProofs [-z35_S, z35', hra, hsa]
  refine callK_ret h1 ?_
  simp -implicitDefEqProofs [-z35_S, z35', hra, hsa]
  refine loop_inv [1, 2, 4, 5] [2, 4] (fun i : Nat => ⟨[(1, .int .i64 id), (2, .loc 2 [0] 35), (4, .loc 4 [0] 35), (5, .int .i64 i)],
      [(2, 35, [eSt (part (loseF id) ra i) sa ga (.sl p' n c') ia]), (4, 35, [eSt rz11 lz64 0 (.sl none 0 0) 0])], H ++ D⟩)
    (fun i => i ≤ 11) (fun i => 11 - i) 0 (by simp -implicitDefEqProofs [St.keep, part_zero]) (by simp -implicitDefEqProofs [tidy]) (by omega) ?_
  intro i hi
  by_cases hlt : i < 11
  · obtain ⟨x, hx⟩ := getElem?_of_lt (show i < ra.length by omega)
    have hx2 := part_now (f := loseF id) hx
    have hpl : (part (loseF id) ra i).length = 11 := by rw [part_len, hra]
    have hi' : ((i : Nat) : Int) < 11 := by omega
    have hw := wrap_succ (show i < 2 ^ 60 by omega)
    simp -implicitDefEqProofs [hi', hx2, hpl]
    refine callK_ret (k121 x id _) ?_
    cases hg : goneB id x
    · have e := part_skip (f := loseF id) hx (by simp [loseF, hg])
      simp -implicitDefEqProofs [hg, hw]
      exact headK_of (i + 1) (by simp -implicitDefEqProofs [St.keep, e]) (by omega) (by omega)
    · have e := part_set (f := loseF id) hx
      rw [show loseF id x = rz by simp [loseF, hg]] at e
      simp -implicitDefEqProofs [hi', hx2, hpl, hg, hw]
      exact headK_of (i + 1) (by simp -implicitDefEqProofs [St.keep, ← e, List.map_set, rz, eR_def]) (by omega) (by omega)
  have hi0 : i = 11 := by omega
  subst hi0
  rw [part_end (by omega)]
  simp -implicitDefEqProofs [-List.map_map]
  clear hi hlt
  refine loop_inv [1, 2, 4, 6] [2, 4] (fun i : Nat => ⟨[(1, .int .i64 id), (2, .loc 2 [0] 35), (4, .loc 4 [0] 35), (6, .int .i64 i)],
      [(2, 35, [eSt (ra.map (loseF id)) (part (loseS id) sa i) ga (.sl p' n c') ia]), (4, 35, [eSt rz11 lz64 0 (.sl none 0 0) 0])], H ++ D⟩)
    (fun i => i ≤ 64) (fun i => 64 - i) 0 (by simp -implicitDefEqProofs [-List.map_map, St.keep, part_zero]) (by simp -implicitDefEqProofs [tidy]) (by omega) ?_
  intro i hi
  by_cases hlt : i < 64
  · obtain ⟨x, hx⟩ := getElem?_of_lt (show i < sa.length by omega)
    have hx2 := part_now (f := loseS id) hx
    have hpl : (part (loseS id) sa i).length = 64 := by rw [part_len, hsa]
    have hi' : ((i : Nat) : Int) < 64 := by omega
    have hw := wrap_succ (show i < 2 ^ 60 by omega)
    by_cases c1 : x.kind = 2
    rotate_left
    · have e := part_skip (f := loseS id) hx (by simp [loseS, c1])
      simp -implicitDefEqProofs [-List.map_map, hi', hx2, hpl, c1, hw]
      exact headK_of (i + 1) (by simp -implicitDefEqProofs [-List.map_map, St.keep, e]) (by omega) (by omega)
    simp -implicitDefEqProofs [-List.map_map, hi', hx2, hpl, c1]
    refine callK_ret (k121 x.reg id _) ?_
    cases hg : goneB id x.reg
    · have e := part_skip (f := loseS id) hx (by simp [loseS, hg])
      simp -implicitDefEqProofs [-List.map_map, hg, hw]
      exact headK_of (i + 1) (by simp -implicitDefEqProofs [-List.map_map, St.keep, e]) (by omega) (by omega)
    · have e := part_set (f := loseS id) hx
      rw [show loseS id x = lz by simp [loseS, hg, c1]] at e
      simp -implicitDefEqProofs [-List.map_map, hi', hx2, hpl, c1, hg, hw]
      exact headK_of (i + 1) (by simp -implicitDefEqProofs [-List.map_map, St.keep, ← e, List.map_set, lz, rz, eL_def, eR_def]) (by omega) (by omega)
  have hi0 : i = 64 := by omega
  subst hi0
  rw [part_end (by omega)]
  simp -implicitDefEqProofs [-List.map_map, -z35_S, z35', hra, hsa]

end Go.Proofs.Ytlonpljlojgclaa
