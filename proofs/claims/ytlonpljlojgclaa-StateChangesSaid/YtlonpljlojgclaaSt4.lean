import Derived.Test.YtlonpljlojgclaaSt3
set_option linter.unusedSimpArgs false
set_option linter.unusedVariables false
set_option maxRecDepth 1000000
namespace Go.Proofs.Ytlonpljlojgclaa
open Go Go.Av

theorem drop_eq_step {α : Type} {l m : List α} {i : Nat} {x y : α} (hx : l[i]? = some x) (hy : m[i]? = some y) : (l.drop i = m.drop i) ↔ (x = y ∧ l.drop (i + 1) = m.drop (i + 1)) := by
  have h1 : i < l.length := (List.getElem?_eq_some_iff.1 hx).1
  have h2 : i < m.length := (List.getElem?_eq_some_iff.1 hy).1
  have e1 : l[i] = x := (List.getElem?_eq_some_iff.1 hx).2
  have e2 : m[i] = y := (List.getElem?_eq_some_iff.1 hy).2
  rw [List.drop_eq_getElem_cons h1, List.drop_eq_getElem_cons h2, e1, e2]
  simp

set_option maxHeartbeats 4000000 in
theorem k63 {p1 p2 : Option (Nat × List Nat × Nat × TypeId)} {n1 c1 n2 c2 : Nat} {l m : List Int} (H : Heap) (r1 : RefsAt H p1 n1 c1 l) (r2 : RefsAt H p2 n2 c2 m) (hl : l.length < 2 ^ 60) :
    CallRuns Try.prog 63 [.sl p1 n1 c1, .sl p2 n2 c2] H (.ret (.bool (decide (l = m)))) H := by
  obtain ⟨res, hres⟩ : ∃ r, decide (l = m) = r := ⟨_, rfl⟩
  rw [hres]
  obtain ⟨rfl, _⟩ := id r1
  obtain ⟨rfl, _⟩ := id r2
  refine callRuns_eq (run63 (by simp) ?_)
  by_cases h0 : l.length = m.length
  rotate_left
  · have h0' : ¬ ((l.length : Int) = m.length) := by omega
    have : ¬ l = m := fun e => h0 (by rw [e])
    simp [this] at hres
    subst hres
    simp -implicitDefEqProofs [h0']
  simp -implicitDefEqProofs [h0]
  refine loop_inv [0, 1, 4, 12, 13] [] (fun i : Nat => ⟨[(0, .sl p1 m.length c1), (1, .sl p2 m.length c2), (4, .bool false), (12, .int .i64 m.length), (13, .int .i64 i)], [], H⟩)
    (fun i => i ≤ m.length ∧ decide (l.drop i = m.drop i) = res) (fun i => m.length - i) 0 (by simp -implicitDefEqProofs [St.keep, h0]) (by simp -implicitDefEqProofs [tidy]) ⟨by simp, by simpa using hres⟩ ?_
  clear hres
  rintro i ⟨hi, hs⟩
  by_cases hlt : i < m.length
  · obtain ⟨x, hx⟩ := getElem?_of_lt (show i < l.length by omega)
    obtain ⟨y, hy⟩ := getElem?_of_lt hlt
    obtain ⟨a1, b1, w1, x', rfl, q1, q2, q3, q4, q5⟩ := r1.get (show i < l.length by omega)
    obtain ⟨a2, b2, w2, y', rfl, t1, t2, t3, t4, t5⟩ := r2.get hlt
    rw [hx] at q5; cases q5
    rw [hy] at t5; cases t5
    have hi' : ((i : Nat) : Int) < m.length := by omega
    have e := drop_eq_step hx hy
    have hw := wrap_succ (show i < 2 ^ 60 by omega)
    by_cases hxy : x = y
    · simp only [e, hxy, true_and] at hs
      simp -implicitDefEqProofs [-Blk.row?, hi', q2, q3, q4, t2, t3, t4, hxy, hw]
      exact headK_of (i + 1) (by simp -implicitDefEqProofs [St.keep]) ⟨by omega, hs⟩ (by omega)
    · simp only [e, hxy, false_and, decide_false] at hs
      subst hs
      simp -implicitDefEqProofs [-Blk.row?, hi', q2, q3, q4, t2, t3, t4, hxy, hw]
  · have hi' : ¬ (((i : Nat) : Int) < m.length) := by omega
    rw [List.drop_eq_nil_of_le (by omega), List.drop_eq_nil_of_le (by omega)] at hs
    simp at hs
    subst hs
    simp -implicitDefEqProofs [hi']

set_option maxHeartbeats 4000000 in
theorem k19 {p1 p2 : Option (Nat × List Nat × Nat × TypeId)} {n1 c1 n2 c2 : Nat} {l m : List Int} (ra rb : List Rg) (sa sb : List Sl) (ga gb ia ib : Int) (H : Heap)
    (hra : ra.length = 11) (hrb : rb.length = 11) (hsa : sa.length = 64) (hsb : sb.length = 64) (r1 : RefsAt H p1 n1 c1 l) (r2 : RefsAt H p2 n2 c2 m) (hl : l.length < 2 ^ 60) :
    CallRuns Try.prog 19 [eSt ra sa ga (.sl p1 n1 c1) ia, eSt rb sb gb (.sl p2 n2 c2) ib] H (.ret (.bool (decide (ra = rb ∧ sa = sb ∧ ga = gb ∧ ia = ib ∧ l = m)))) H := by
  refine callRuns_eq (run19 (by simp) ?_)
  by_cases h1 : ra = rb
  rotate_left
  · simp -implicitDefEqProofs [eqL_regs, eqL_slots, hra, hrb, hsa, hsb, h1]
  by_cases h2 : sa = sb
  rotate_left
  · simp -implicitDefEqProofs [eqL_regs, eqL_slots, hra, hrb, hsa, hsb, h1, h2]
  by_cases h3 : ga = gb
  rotate_left
  · simp -implicitDefEqProofs [eqL_regs, eqL_slots, hra, hrb, hsa, hsb, h1, h2, h3]
  by_cases h4 : ia = ib
  rotate_left
  · simp -implicitDefEqProofs [eqL_regs, eqL_slots, hra, hrb, hsa, hsb, h1, h2, h3, h4]
  simp -implicitDefEqProofs [eqL_regs, eqL_slots, hra, hrb, hsa, hsb, h1, h2, h3, h4]
  refine callK_ret (k63 H r1 r2 hl) ?_
  simp -implicitDefEqProofs [h1, h2, h3, h4]

set_option maxHeartbeats 4000000 in
theorem k55 {p : Option (Nat × List Nat × Nat × TypeId)} {n c : Nat} {l : List Int} (H : Heap) (r : RefsAt H p n c l) (hl : l.length < 2 ^ 44) :
    ∃ p' c' D, CallRuns Try.prog 55 [.sl p n c] H (.ret (.sl p' n c')) (H ++ D) ∧ Owns (H ++ D) H.length p' n c' l := by
  rcases r.sl with ⟨rfl, rfl, rfl, rfl⟩ | ⟨k, rfl, hk, rfl, hc, hr⟩
  · refine ⟨none, 0, [], callRuns_eq (run55 (by simp) ?_), rfl, Nat.le_refl _, rfl⟩
    simp -implicitDefEqProofs
  · rcases hr with rfl | ⟨b, row, b1, b2, b3⟩
    · refine ⟨some (H.length, [], 0, 3), 0, [.cells 3 [] false], callRuns_eq (run55 (by simp) ?_), rfl, Nat.le_refl _, rfl, rfl, rfl, Nat.le_refl _, by simp, [], false, by simp, rfl, by simp⟩
      simp -implicitDefEqProofs [appendA, elemsA]
    · by_cases h0 : l = []
      · subst h0
        refine ⟨some (H.length, [], 0, 3), 0, [.cells 3 [] false], callRuns_eq (run55 (by simp) ?_), rfl, Nat.le_refl _, rfl, rfl, rfl, Nat.le_refl _, by simp, [], false, by simp, rfl, by simp⟩
        simp -implicitDefEqProofs [appendA, elemsA]
      have hpos : l.length ≠ 0 := fun e => h0 (List.eq_nil_of_length_eq_zero e)
      have hrl : l.length ≤ row.length := by
        have := congrArg List.length b3
        simp at this; omega
      refine ⟨some (H.length + 1, [], 0, 3), l.length, [.cells 3 [] false, .cells 3 (l.map fun x => AV.int .i64 x) true], callRuns_eq (run55 (by simp) ?_), rfl, Nat.le_refl _, rfl, rfl, rfl, by simp, by simp, l.map (fun x => AV.int .i64 x), true, by simp, by rw [List.take_of_length_le (by simp)], by simp⟩
      have z1 : l.length * 8 ≤ 140737488355328 := by omega
      have z2 : l.length ≤ 140737488355328 := by omega
      simp -implicitDefEqProofs [-Blk.row?, appendA, elemsA, growA, sizeOK, List.getElem?_append_left hk, b1, b2, b3, hpos, hrl, h0, z1, z2]

theorem k16 {p : Option (Nat × List Nat × Nat × TypeId)} {n c : Nat} {l : List Int} (ra : List Rg) (sa : List Sl) (ga ia : Int) (H : Heap) (hra : ra.length = 11) (hsa : sa.length = 64) (r : RefsAt H p n c l) (hl : l.length < 2 ^ 44) :
    ∃ p' c' D, CallRuns Try.prog 16 [eSt ra sa ga (.sl p n c) ia] H (.ret (eSt ra sa ga (.sl p' n c') ia)) (H ++ D) ∧ Owns (H ++ D) H.length p' n c' l := by
  obtain ⟨p', c', D, h1, h2⟩ := k55 H r hl
  refine ⟨p', c', D, callRuns_eq (run16 (by simp) ?_), h2⟩
  simp -implicitDefEqProofs [hra, hsa]
  refine callK_ret h1 ?_
  simp -implicitDefEqProofs [hra, hsa]

end Go.Proofs.Ytlonpljlojgclaa
