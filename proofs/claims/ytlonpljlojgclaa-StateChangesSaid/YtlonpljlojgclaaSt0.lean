import Derived.Test.YtlonpljlojgclaaBr4
set_option linter.unusedSimpArgs false
set_option linter.unusedVariables false
set_option maxRecDepth 1000000
namespace Go.Proofs.Ytlonpljlojgclaa
open Go Go.Av

theorem k20 (H : Heap) : CallRuns Try.prog 20 [] H (.ret (eS scUnknown)) H :=
  callRuns_eq (run20 (by simp) (by simp -implicitDefEqProofs [scUnknown]))

set_option maxHeartbeats 2000000 in
theorem k103 (v m : BitVec 64) (bits : Int) (H : Heap) : CallRuns Try.prog 103 [.ag [u64 v, u64 m], .int .i64 bits] H (.ret (eT (tCast ⟨v, m⟩ bits))) H := by
  refine callRuns_eq (run103 (by simp) ?_)
  by_cases h8 : bits = 8
  · subst h8; simp -implicitDefEqProofs [tCast, castM]
  by_cases h16 : bits = 16
  · subst h16; simp -implicitDefEqProofs [tCast, castM]
  by_cases h32 : bits = 32
  · subst h32; simp -implicitDefEqProofs [tCast, castM]
  simp -implicitDefEqProofs [tCast, h8, h16, h32]

theorem k104 (v m lo hi : BitVec 64) (H : Heap) : CallRuns Try.prog 104 [.ag [.ag [u64 v, u64 m], u64 lo, u64 hi]] H (.ret (eS ((scTight ⟨⟨v, m⟩, lo, hi⟩).getD sz))) H := by
  refine callRuns_eq (run104 (by simp) ?_)
  simp -implicitDefEqProofs
  refine callK_ret (k64 _ _ _ _ _) ?_
  simp -implicitDefEqProofs

set_option maxHeartbeats 4000000 in
theorem k53 (v m lo hi : BitVec 64) (bits : Int) (H : Heap) : CallRuns Try.prog 53 [.ag [.ag [u64 v, u64 m], u64 lo, u64 hi], .int .i64 bits] H (.ret (eS (scCast ⟨⟨v, m⟩, lo, hi⟩ bits))) H := by
  refine callRuns_eq (run53 (by simp) ?_)
  by_cases h8 : bits = 8
  · subst h8
    by_cases c : 255#64 < hi <;> simp -implicitDefEqProofs [c] <;> refine callK_ret (k103 _ _ _ _) ?_ <;> simp -implicitDefEqProofs <;> refine callK_ret (k104 _ _ _ _ _) ?_ <;> simp -implicitDefEqProofs [scCast, castM, c]
  by_cases h16 : bits = 16
  · subst h16
    by_cases c : 65535#64 < hi <;> simp -implicitDefEqProofs [c] <;> refine callK_ret (k103 _ _ _ _) ?_ <;> simp -implicitDefEqProofs <;> refine callK_ret (k104 _ _ _ _ _) ?_ <;> simp -implicitDefEqProofs [scCast, castM, c]
  by_cases h32 : bits = 32
  · subst h32
    by_cases c : 4294967295#64 < hi <;> simp -implicitDefEqProofs [c] <;> refine callK_ret (k103 _ _ _ _) ?_ <;> simp -implicitDefEqProofs <;> refine callK_ret (k104 _ _ _ _ _) ?_ <;> simp -implicitDefEqProofs [scCast, castM, c]
  simp -implicitDefEqProofs [scCast, h8, h16, h32]

end Go.Proofs.Ytlonpljlojgclaa
