import Derived.Test.YtlonpljlojgclaaSt1
set_option linter.unusedSimpArgs false
set_option linter.unusedVariables false
set_option maxRecDepth 1000000
namespace Go.Proofs.Ytlonpljlojgclaa
open Go Go.Av

theorem eqL28 (a b : Rg) : binA Try.prog .eql 28 (eR a) (eR b) = some (.bool (decide (a = b))) := by
  have h := eqA_eR a b
  rw [eR_def, eR_def, eqA_ag] at h
  rw [eR_def, eR_def, ag_eql, eq28, ← eR_def, ← eR_def, wtR, wtR]
  simp only [Bool.and_self, if_true]
  rw [h]; rfl
theorem neL28 (a b : Rg) : binA Try.prog .neq 28 (eR a) (eR b) = some (.bool (decide (a ≠ b))) := by
  have h := eqA_eR a b
  rw [eR_def, eR_def, eqA_ag] at h
  rw [eR_def, eR_def, ag_neq, eq28, ← eR_def, ← eR_def, wtR, wtR]
  simp only [Bool.and_self, if_true]
  rw [h]; simp
theorem eqL31 (a b : Sl) : binA Try.prog .eql 31 (eL a) (eL b) = some (.bool (decide (a = b))) := by
  have h := eqA_eL a b
  rw [eL_def, eL_def, eqA_ag] at h
  rw [eL_def, eL_def, ag_eql, eq31, ← eL_def, ← eL_def, wtL, wtL]
  simp only [Bool.and_self, if_true]
  rw [h]; rfl
@[simp] theorem eqz28 (a : Rg) : binA Try.prog .eql 28 (eR a) (.ag [.int .i64 0, .ag [.ag [u64 0#64, u64 0#64], u64 0#64, u64 0#64], .int .i64 0, .int .i64 0, .int .i64 0]) = some (.bool (decide (a = rz))) := eqL28 a rz
@[simp] theorem nez28 (a : Rg) : binA Try.prog .neq 28 (eR a) (.ag [.int .i64 0, .ag [.ag [u64 0#64, u64 0#64], u64 0#64, u64 0#64], .int .i64 0, .int .i64 0, .int .i64 0]) = some (.bool (decide (a ≠ rz))) := neL28 a rz
@[simp] theorem eqz31 (a : Sl) : binA Try.prog .eql 31 (eL a) (.ag [.int .i64 0, .int .i64 0, .ag [.int .i64 0, .ag [.ag [u64 0#64, u64 0#64], u64 0#64, u64 0#64], .int .i64 0, .int .i64 0, .int .i64 0]]) = some (.bool (decide (a = lz))) := eqL31 a lz
attribute [simp] eqL28 neL28 eqL31

set_option maxHeartbeats 4000000 in
theorem k57 (a b : Sl) (p : Prs) (H : Heap) : CallRuns Try.prog 57 [.ptr (some (H.length + 2, [0], 82)), eL a, eL b] (eP H 82 p) (.ret (.bool (pSlot p a b).1)) (eP H 82 (pSlot p a b).2) := by
  obtain ⟨res, hres⟩ : ∃ r, pSlot p a b = r := ⟨_, rfl⟩
  rw [hres]
  refine callRuns_eq (run57 (by simp) ?_)
  by_cases h0 : a = lz
  · simp [pSlot, h0] at hres
    subst hres
    simp -implicitDefEqProofs [h0]
  by_cases h1 : a.kind = 0
  · simp [pSlot, h0, h1] at hres
    subst hres
    simp -implicitDefEqProofs [h0, h1]
  by_cases h2 : a.kind = 1
  · simp only [pSlot, h0, h1, h2, or_self, if_false, if_true] at hres
    subst hres
    by_cases h3 : a.known = 0
    · by_cases h4 : b.kind = 2 <;> simp -implicitDefEqProofs [h0, h1, h2, h3, h4]
    · by_cases h4 : b.kind = 2
      · by_cases h5 : b.reg.kind = 1 <;> simp -implicitDefEqProofs [h0, h1, h2, h3, h4, h5]
      · by_cases h5 : b.kind = 1
        · simp -implicitDefEqProofs [h0, h1, h2, h3, h4, h5]
          rfl
        · simp -implicitDefEqProofs [h0, h1, h2, h3, h4, h5]
  by_cases h3 : b.kind = 2
  · simp [pSlot, h0, h1, h2, h3] at hres
    simp -implicitDefEqProofs [h0, h1, h2, h3]
    refine callK_ret (k56 _ _ _ _) ?_
    simp -implicitDefEqProofs [h0, h1, h2, h3, hres]
  · simp [pSlot, h0, h1, h2, h3] at hres
    subst hres
    simp -implicitDefEqProofs [h0, h1, h2, h3]

set_option maxHeartbeats 4000000 in
theorem k58 {p1 p2 : Option (Nat × List Nat × Nat × TypeId)} {n1 c1 n2 c2 : Nat} {l m : List Int} (H : Heap) (r1 : RefsAt H p1 n1 c1 l) (r2 : RefsAt H p2 n2 c2 m) (hl : l.length < 2 ^ 60) (p : Prs) :
    CallRuns Try.prog 58 [.sl p1 n1 c1, .sl p2 n2 c2, .fn (.func 59) [.ptr (some (H.length + 2, [0], 82))] []] (eP H 82 p) (.ret (.bool (pRefs p l m).1)) (eP H 82 (pRefs p l m).2) := by
  obtain ⟨res, hres⟩ : ∃ r, pRefs p l m = r := ⟨_, rfl⟩
  rw [hres]
  obtain ⟨rfl, _⟩ := id r1
  obtain ⟨rfl, _⟩ := id r2
  refine callRuns_eq (run58 (by simp) ?_)
  by_cases h0 : l.length = m.length
  rotate_left
  · have h0' : ¬ ((l.length : Int) = m.length) := by omega
    simp [pRefs, h0] at hres
    subst hres
    simp -implicitDefEqProofs [h0']
  simp only [pRefs, h0, if_true] at hres
  simp -implicitDefEqProofs [h0]
  refine loop_inv [1, 2, 6, 15, 16, 17] [] (fun x : Nat × Prs => ⟨[(1, .sl p2 m.length c2), (2, .fn (.func 59) [.ptr (some (H.length + 2, [0], 82))] []), (6, .bool false), (15, .sl p1 m.length c1), (16, .int .i64 m.length), (17, .int .i64 x.1)], [], eP H 82 x.2⟩)
    (fun x => x.1 ≤ m.length ∧ pAll pm x.2 (l.drop x.1) (m.drop x.1) = res) (fun x => m.length - x.1) (0, p) (by simp -implicitDefEqProofs [St.keep]) (by simp -implicitDefEqProofs [tidy]) ⟨by simp, by simpa using hres⟩ ?_
  clear hres
  rintro ⟨i, q⟩ ⟨hi, hs⟩
  simp only at hi hs
  by_cases hlt : i < m.length
  · obtain ⟨x, hx⟩ := getElem?_of_lt (show i < l.length by omega)
    obtain ⟨y, hy⟩ := getElem?_of_lt hlt
    obtain ⟨a1, b1, w1, x', rfl, q1, q2, q3, q4, q5⟩ := r1.get (show i < l.length by omega)
    obtain ⟨a2, b2, w2, y', rfl, t1, t2, t3, t4, t5⟩ := r2.get hlt
    rw [hx] at q5; cases q5
    rw [hy] at t5; cases t5
    have hi' : ((i : Nat) : Int) < m.length := by omega
    have e := pAll_step (f := pm) (p := q) hx hy
    rw [hs] at e
    have hw := wrap_succ (show i < 2 ^ 60 by omega)
    simp -implicitDefEqProofs [-Blk.row?, hi', List.getElem?_append_left q1, List.getElem?_append_left t1, q2, q3, q4, t2, t3, t4]
    refine callK_ret (k59 _ _ _ _) ?_
    cases hb : (pm q x y).1
    · rw [hb] at e
      simp -implicitDefEqProofs [hb]
      subst e
      simp
    · rw [hb] at e
      simp -implicitDefEqProofs [hb, hw]
      refine headK_of (i + 1, (pm q x y).2) (by simp -implicitDefEqProofs [St.keep]) ⟨by omega, e.symm⟩ (by simp; omega)
  · have hi' : ¬ (((i : Nat) : Int) < m.length) := by omega
    rw [pAll_end (by omega)] at hs
    subst hs
    simp -implicitDefEqProofs [hi']

end Go.Proofs.Ytlonpljlojgclaa
