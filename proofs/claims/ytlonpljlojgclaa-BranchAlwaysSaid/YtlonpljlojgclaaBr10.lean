import Derived.Test.YtlonpljlojgclaaBr9
set_option linter.unusedSimpArgs false
set_option linter.unusedVariables false
set_option maxRecDepth 1000000
namespace Go.Proofs.Ytlonpljlojgclaa
open Go Go.Av

def awB : Sc := scCast scUnknown 8

theorem awB_eq : awB = ⟨⟨0#64, 255#64⟩, 0#64, 255#64⟩ := by decide +kernel
theorem aw1 : scRefine 32 true ⟨⟨0#64, 255#64⟩, 0#64, 255#64⟩ ⟨⟨7#64, 0#64⟩, 7#64, 7#64⟩ = (⟨⟨0#64, 255#64⟩, 8#64, 255#64⟩, ⟨⟨7#64, 0#64⟩, 7#64, 7#64⟩, true) := by decide +kernel
theorem aw2 : scRefine 16 true ⟨⟨0#64, 255#64⟩, 0#64, 255#64⟩ ⟨⟨3#64, 0#64⟩, 3#64, 3#64⟩ = (⟨⟨3#64, 0#64⟩, 3#64, 3#64⟩, ⟨⟨3#64, 0#64⟩, 3#64, 3#64⟩, true) := by decide +kernel
theorem aw3 : (scRefine 64 true ⟨⟨0#64, 255#64⟩, 0#64, 255#64⟩ ⟨⟨128#64, 0#64⟩, 128#64, 128#64⟩).1.lo = 128#64 ∧ (scRefine 64 true ⟨⟨0#64, 255#64⟩, 0#64, 255#64⟩ ⟨⟨128#64, 0#64⟩, 128#64, 128#64⟩).2.2 = true := by decide +kernel
theorem aw4 : scAlways 160 true ⟨⟨0#64, 255#64⟩, 0#64, 255#64⟩ ⟨⟨256#64, 0#64⟩, 256#64, 256#64⟩ = (true, true) := by decide +kernel

set_option maxHeartbeats 8000000 in
theorem k28 (H : Heap) : CallRuns Try.prog 28 [] H (.ret (.bool true)) H := by
  refine callRuns_eq (run28 (by simp) ?_)
  simp -implicitDefEqProofs
  refine callK_ret (k20 _) ?_
  simp -implicitDefEqProofs [scUnknown]
  refine callK_ret (k53 _ _ _ _ _ _) ?_
  have e : scCast ⟨⟨0#64, 18446744073709551615#64⟩, 0#64, 18446744073709551615#64⟩ 8 = ⟨⟨0#64, 255#64⟩, 0#64, 255#64⟩ := awB_eq
  simp -implicitDefEqProofs [e]
  refine callK_ret (k54 _ _) ?_
  simp -implicitDefEqProofs
  refine callK_ret (k22 _ _ _ _ _ _ _ _ _ _ _) ?_
  simp -implicitDefEqProofs [aw1]
  refine callK_ret (k54 _ _) ?_
  simp -implicitDefEqProofs
  refine callK_ret (k22 _ _ _ _ _ _ _ _ _ _ _) ?_
  simp -implicitDefEqProofs [aw2]
  refine callK_ret (k54 _ _) ?_
  simp -implicitDefEqProofs
  refine callK_ret (k22 _ _ _ _ _ _ _ _ _ _ _) ?_
  simp -implicitDefEqProofs [aw3.1, aw3.2]
  refine callK_ret (k54 _ _) ?_
  simp -implicitDefEqProofs
  refine callK_ret (k24 _ _ _ _ _ _ _ _ _ _ _) ?_
  simp -implicitDefEqProofs [aw4, aw3.1, aw3.2]
  refine callK_ret (k54 _ _) ?_
  simp -implicitDefEqProofs [aw4, aw3.1, aw3.2]
  refine callK_ret (k26 _ _) ?_
  simp -implicitDefEqProofs [aw4, aw3.1, aw3.2, notF]
  refine callK_ret (k26 _ _) ?_
  simp -implicitDefEqProofs [notF]

end Go.Proofs.Ytlonpljlojgclaa
