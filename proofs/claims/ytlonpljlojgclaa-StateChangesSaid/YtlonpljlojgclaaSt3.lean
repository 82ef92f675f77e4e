import Derived.Test.YtlonpljlojgclaaSt2
set_option linter.unusedSimpArgs false
set_option linter.unusedVariables false
set_option maxRecDepth 1000000
namespace Go.Proofs.Ytlonpljlojgclaa
open Go Go.Av

set_option maxHeartbeats 8000000 in
theorem k17 {p1 p2 : Option (Nat × List Nat × Nat × TypeId)} {n1 c1 n2 c2 : Nat} {l m : List Int} (ra rb : List Rg) (sa sb : List Sl) (ga gb ia ib : Int) (H : Heap)
    (hra : ra.length = 11) (hrb : rb.length = 11) (hsa : sa.length = 64) (hsb : sb.length = 64) (r1 : RefsAt H p1 n1 c1 l) (r2 : RefsAt H p2 n2 c2 m) (hl : l.length < 2 ^ 60) :
    CallRuns Try.prog 17 [eSt ra sa ga (.sl p1 n1 c1) ia, eSt rb sb gb (.sl p2 n2 c2) ib] H (.ret (.bool (inF ra rb sa sb l m ga gb))) H := by
  obtain ⟨res, hres⟩ : ∃ r, inF ra rb sa sb l m ga gb = r := ⟨_, rfl⟩
  rw [hres]
  refine callRuns_trim (run17 (by simp) ?_) (by simp [clo, Out.val])
  simp -implicitDefEqProofs [hra, hrb, hsa, hsb]
  obtain ⟨R1, hR1⟩ : ∃ r, pAll pReg ⟨[], []⟩ ra rb = r := ⟨_, rfl⟩
  unfold inF at hres
  rw [hR1] at hres
  refine loop_inv [2, 3, 4, 5, 12] [2, 3] (fun x : Nat × Prs => ⟨[(2, .loc 2 [0] 35), (3, .loc 3 [0] 35), (4, .bool false), (5, .ptr (some (H.length + 2, [0], 82))), (12, .int .i64 x.1)],
      [(2, 35, [eSt ra sa ga (.sl p1 n1 c1) ia]), (3, 35, [eSt rb sb gb (.sl p2 n2 c2) ib])], eP H 82 x.2⟩)
    (fun x => x.1 ≤ 11 ∧ pAll pReg x.2 (ra.drop x.1) (rb.drop x.1) = R1) (fun x => 11 - x.1) (0, ⟨[], []⟩) (by simp -implicitDefEqProofs [St.keep, encM]) (by simp -implicitDefEqProofs [tidy]) ⟨by simp, by simpa using hR1⟩ ?_
  clear hR1
  rintro ⟨i, q⟩ ⟨hi, hs⟩
  simp only at hi hs
  by_cases hlt : i < 11
  · obtain ⟨x, hx⟩ := getElem?_of_lt (show i < ra.length by omega)
    obtain ⟨y, hy⟩ := getElem?_of_lt (show i < rb.length by omega)
    have hi' : ((i : Nat) : Int) < 11 := by omega
    have e := pAll_step (f := pReg) (p := q) hx hy
    rw [hs] at e
    have hw := wrap_succ (show i < 2 ^ 60 by omega)
    simp -implicitDefEqProofs [hi', hx, hy]
    refine callK_ret (k56 _ _ _ _) ?_
    cases hb : (pReg q x y).1
    · rw [hb] at e
      simp at e
      subst e
      simp at hres
      subst hres
      simp -implicitDefEqProofs [hb]
    · rw [hb] at e
      simp -implicitDefEqProofs [hb, hw]
      exact headK_of (i + 1, (pReg q x y).2) (by simp -implicitDefEqProofs [St.keep]) ⟨by omega, e.symm⟩ (by simp; omega)
  have hi0 : i = 11 := by omega
  subst hi0
  rw [pAll_end (by omega)] at hs
  subst hs
  simp only [Bool.true_and] at hres
  simp -implicitDefEqProofs
  obtain ⟨R2, hR2⟩ : ∃ r, pAll pSlot q sa sb = r := ⟨_, rfl⟩
  rw [hR2] at hres
  refine loop_inv [2, 3, 4, 5, 27] [2, 3] (fun x : Nat × Prs => ⟨[(2, .loc 2 [0] 35), (3, .loc 3 [0] 35), (4, .bool false), (5, .ptr (some (H.length + 2, [0], 82))), (27, .int .i64 x.1)],
      [(2, 35, [eSt ra sa ga (.sl p1 n1 c1) ia]), (3, 35, [eSt rb sb gb (.sl p2 n2 c2) ib])], eP H 82 x.2⟩)
    (fun x => x.1 ≤ 64 ∧ pAll pSlot x.2 (sa.drop x.1) (sb.drop x.1) = R2) (fun x => 64 - x.1) (0, q) (by simp -implicitDefEqProofs [St.keep]) (by simp -implicitDefEqProofs [tidy]) ⟨by simp, by simpa using hR2⟩ ?_
  clear hR2
  rintro ⟨i, q⟩ ⟨hi, hs⟩
  simp only at hi hs
  by_cases hlt : i < 64
  · obtain ⟨x, hx⟩ := getElem?_of_lt (show i < sa.length by omega)
    obtain ⟨y, hy⟩ := getElem?_of_lt (show i < sb.length by omega)
    have hi' : ((i : Nat) : Int) < 64 := by omega
    have e := pAll_step (f := pSlot) (p := q) hx hy
    rw [hs] at e
    have hw := wrap_succ (show i < 2 ^ 60 by omega)
    simp -implicitDefEqProofs [hi', hx, hy]
    refine callK_ret (k57 _ _ _ _) ?_
    cases hb : (pSlot q x y).1
    · rw [hb] at e
      simp at e
      subst e
      simp at hres
      subst hres
      simp -implicitDefEqProofs [hb]
    · rw [hb] at e
      simp -implicitDefEqProofs [hb, hw]
      exact headK_of (i + 1, (pSlot q x y).2) (by simp -implicitDefEqProofs [St.keep]) ⟨by omega, e.symm⟩ (by simp; omega)
  have hi0 : i = 64 := by omega
  subst hi0
  rw [pAll_end (by omega)] at hs
  subst hs
  simp only [Bool.true_and] at hres
  simp -implicitDefEqProofs
  refine callK_ret (k58 H r1 r2 hl q) ?_
  cases hb : (pRefs q l m).1
  · simp [hb] at hres
    subst hres
    simp -implicitDefEqProofs [hb]
  · simp [hb] at hres
    subst hres
    simp -implicitDefEqProofs [hb]

end Go.Proofs.Ytlonpljlojgclaa
