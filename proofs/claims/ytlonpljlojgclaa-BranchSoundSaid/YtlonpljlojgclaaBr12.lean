import Derived.Test.YtlonpljlojgclaaBr11
set_option linter.unusedSimpArgs false
set_option linter.unusedVariables false
set_option maxRecDepth 1000000
namespace Go.Proofs.Ytlonpljlojgclaa
open Go Go.Av

set_option maxHeartbeats 8000000 in
theorem k8 (op : Int) (wide : Bool) (s0 s1 : Sc) (H : Heap) : CallRuns Try.prog 8 [.int .i64 op, .bool wide, .ag [eS s0, eS s1]] H (.ret (.bool true)) H := by
  refine callRuns_eq (run8 (by simp) ?_)
  simp -implicitDefEqProofs
  refine callK_ret (k21 _ _ _ _ _) ?_
  simp -implicitDefEqProofs
  refine callK_ret (k21 _ _ _ _ _) ?_
  simp -implicitDefEqProofs
  refine callK_ret (k22 _ _ _ _ _ _ _ _ _ _ _) ?_
  have hn := scRefine_in op wide (scWide s0) (scWide s1)
  simp -implicitDefEqProofs
  refine callK_ret (k26 _ _) ?_
  by_cases h1 : 0 ≤ notF op
  · simp -implicitDefEqProofs [h1]
    refine callK_ret (k26 _ _) ?_
    have h2 := notF_notF op h1
    cases h3 : (scRefine op wide (scWide s0) (scWide s1)).2.2
    · simp -implicitDefEqProofs [h1, h2, h3]
      refine callK_ret (k28 _) ?_
      simp -implicitDefEqProofs
    · obtain ⟨⟨a1, a2⟩, a3, a4⟩ := hn h3
      simp -implicitDefEqProofs [h1, h2, h3, a1, a2, a3, a4]
      refine callK_ret (k28 _) ?_
      simp -implicitDefEqProofs
  · cases h3 : (scRefine op wide (scWide s0) (scWide s1)).2.2
    · simp -implicitDefEqProofs [h1, h3]
      refine callK_ret (k28 _) ?_
      simp -implicitDefEqProofs
    · obtain ⟨⟨a1, a2⟩, a3, a4⟩ := hn h3
      simp -implicitDefEqProofs [h1, h3, a1, a2, a3, a4]
      refine callK_ret (k28 _) ?_
      simp -implicitDefEqProofs

end Go.Proofs.Ytlonpljlojgclaa
