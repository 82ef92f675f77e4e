import Derived.Test.YtlonpljlojgclaaCodeS
import Derived.Test.YtlonpljlojgclaaBr1
import Derived.Test.YtlonpljlojgclaaAvState
set_option linter.unusedSimpArgs false
set_option linter.unusedVariables false
set_option maxRecDepth 1000000
namespace Go.Proofs.Ytlonpljlojgclaa
open Go Go.Av

@[simp] theorem wtR (r : Rg) : wt Try.prog (eR r) 28 = true := by rw [eR_def]; simp
@[simp] theorem wtL (s : Sl) : wt Try.prog (eL s) 31 = true := by rw [eL_def]; simp
@[simp] theorem wtRs (l : List Rg) : wtA Try.prog (l.map eR) 28 = true := wtA_map wtR l
@[simp] theorem wtLs (l : List Sl) : wtA Try.prog (l.map eL) 31 = true := wtA_map wtL l

theorem k118 (n : BitVec 64) (H : Heap) : CallRuns Try.prog 118 [u64 n] H (.ret (.ag [u64 n, u64 0#64])) H := by
  refine callRuns_eq (run118 (by simp) ?_)
  simp -implicitDefEqProofs
  refine callK_ret (k109 _ _ _) ?_
  have e : n &&& 18446744073709551615#64 = n := by show n &&& BitVec.allOnes 64 = n; exact BitVec.and_allOnes
  simp -implicitDefEqProofs [kn, e]

theorem k88 (n : BitVec 64) (H : Heap) : CallRuns Try.prog 88 [u64 n] H (.ret (eS (scConst n))) H := by
  refine callRuns_eq (run88 (by simp) ?_)
  simp -implicitDefEqProofs
  refine callK_ret (k118 _ _) ?_
  simp -implicitDefEqProofs [scConst]

theorem k133 (v m x : BitVec 64) (H : Heap) : CallRuns Try.prog 133 [.ag [u64 v, u64 m], u64 x] H (.ret (.bool (decide (x &&& ~~~m = v &&& ~~~m)))) H :=
  callRuns_eq (run133 (by simp) (by simp -implicitDefEqProofs))

theorem k122 (v m v' m' : BitVec 64) (H : Heap) : CallRuns Try.prog 122 [.ag [u64 v, u64 m], .ag [u64 v', u64 m']] H (.ret (.bool (tIn ⟨v, m⟩ ⟨v', m'⟩))) H := by
  refine callRuns_eq (run122 (by simp) ?_)
  by_cases h : m ||| m' = m
  · simp -implicitDefEqProofs [h]
    refine callK_ret (k133 _ _ _ _) ?_
    simp -implicitDefEqProofs [h, tIn]
  · simp -implicitDefEqProofs [h, tIn]

theorem k105 (v m lo hi v' m' lo' hi' : BitVec 64) (H : Heap) : CallRuns Try.prog 105 [.ag [.ag [u64 v, u64 m], u64 lo, u64 hi], .ag [.ag [u64 v', u64 m'], u64 lo', u64 hi']] H (.ret (.bool (scIn ⟨⟨v, m⟩, lo, hi⟩ ⟨⟨v', m'⟩, lo', hi'⟩))) H := by
  refine callRuns_eq (run105 (by simp) ?_)
  by_cases h : lo ≤ lo'
  · by_cases h2 : hi' ≤ hi
    · simp -implicitDefEqProofs [h, h2]
      refine callK_ret (k122 _ _ _ _ _) ?_
      simp -implicitDefEqProofs [h, h2, scIn]
    · simp -implicitDefEqProofs [h, h2, scIn]
  · simp -implicitDefEqProofs [h, scIn]

set_option maxHeartbeats 4000000 in
theorem k59 (a b : Int) (p : Prs) (H : Heap) : CallRuns Try.prog 59 [.ptr (some (H.length + 2, [0], 82)), .int .i64 a, .int .i64 b] (eP H 82 p) (.ret (.bool (pm p a b).1)) (eP H 82 (pm p a b).2) := by
  obtain ⟨res, hres⟩ : ∃ r, pm p a b = r := ⟨_, rfl⟩
  rw [hres]
  refine callRuns_eq (run59 (by simp) ?_)
  simp -implicitDefEqProofs [find_enc]
  cases h1 : lk a p.there with
  | none =>
    cases h2 : lk b p.back with
    | none =>
      simp [pm, h1, h2] at hres
      subst hres
      simp -implicitDefEqProofs [h1, h2, find_enc, mapEntryA, entryStoreA, born_enc0, modify_enc, eP, encM_snoc]
    | some y =>
      simp [pm, h1, h2] at hres
      subst hres
      simp -implicitDefEqProofs [h1, h2, find_enc]
  | some x =>
    cases h2 : lk b p.back with
    | none =>
      simp [pm, h1, h2] at hres
      subst hres
      simp -implicitDefEqProofs [h1, h2, find_enc]
    | some y =>
      simp [pm, h1, h2] at hres
      subst hres
      by_cases hx : x = b <;> simp -implicitDefEqProofs [h1, h2, find_enc, hx]

theorem pReg_ne (p : Prs) {a b : Rg} (h0 : ¬ a.kind = 0) (h : a.kind ≠ b.kind ∨ a.mp ≠ b.mp ∨ a.sz ≠ b.sz ∨ scIn a.num b.num = false) : pReg p a b = (false, p) := by
  simp only [pReg, h0, if_false, h, if_true]

set_option maxHeartbeats 4000000 in
theorem k56 (a b : Rg) (p : Prs) (H : Heap) : CallRuns Try.prog 56 [.ptr (some (H.length + 2, [0], 82)), eR a, eR b] (eP H 82 p) (.ret (.bool (pReg p a b).1)) (eP H 82 (pReg p a b).2) := by
  obtain ⟨res, hres⟩ : ∃ r, pReg p a b = r := ⟨_, rfl⟩
  rw [hres]
  refine callRuns_eq (run56 (by simp) ?_)
  by_cases h0 : a.kind = 0
  · simp [pReg, h0] at hres
    subst hres
    simp -implicitDefEqProofs [h0]
  by_cases h1 : a.kind = b.kind
  rotate_left
  · rw [pReg_ne p h0 (.inl h1)] at hres
    subst hres
    simp -implicitDefEqProofs [h0, h1]
  by_cases h2 : a.mp = b.mp
  rotate_left
  · rw [pReg_ne p h0 (.inr (.inl h2))] at hres
    subst hres
    simp -implicitDefEqProofs [h0, h1, h2, h1 ▸ h0]
  by_cases h3 : a.sz = b.sz
  rotate_left
  · rw [pReg_ne p h0 (.inr (.inr (.inl h3)))] at hres
    subst hres
    simp -implicitDefEqProofs [h0, h1, h2, h3, h1 ▸ h0]
  simp -implicitDefEqProofs [h0, h1, h2, h3, h1 ▸ h0]
  refine callK_ret (k105 _ _ _ _ _ _ _ _ _) ?_
  cases h4 : scIn a.num b.num
  · rw [pReg_ne p h0 (.inr (.inr (.inr h4)))] at hres
    subst hres
    simp -implicitDefEqProofs [h0, h1, h2, h3, h4, h1 ▸ h0]
  have e : pReg p a b = if a.kind = 8 ∨ a.kind = 9 ∨ a.kind = 10 then pm p a.id b.id else (true, p) := by
    simp only [pReg, h0, h1, h2, h3, h4, if_false]
    simp [h1 ▸ h0]
  rw [e] at hres
  rw [h1] at hres
  by_cases h5 : b.kind = 8
  · simp [h5] at hres
    simp -implicitDefEqProofs [h0, h1, h2, h3, h4, h5]
    refine callK_ret (k59 _ _ _ _) ?_
    simp -implicitDefEqProofs [hres]
  by_cases h6 : b.kind = 9
  · simp [h6] at hres
    simp -implicitDefEqProofs [h0, h1, h2, h3, h4, h5, h6]
    refine callK_ret (k59 _ _ _ _) ?_
    simp -implicitDefEqProofs [hres]
  by_cases h7 : b.kind = 10
  · simp [h7] at hres
    simp -implicitDefEqProofs [h0, h1, h2, h3, h4, h5, h6, h7]
    refine callK_ret (k59 _ _ _ _) ?_
    simp -implicitDefEqProofs [hres]
  simp [h5, h6, h7] at hres
  subst hres
  simp -implicitDefEqProofs [h0, h1, h2, h3, h4, h5, h6, h7]

end Go.Proofs.Ytlonpljlojgclaa
