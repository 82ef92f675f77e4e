/- For any test and any two scalars made whole: where the test of any numbers of them is true, they are among what is told then, and that may be. Of the function of the given program as it is translated, for every input. -/
import Derived.Test.YtlonpljlojgclaaBs4
import Derived.Test.YtlonpljlojgclaaRows
import Derived.WalkKit
import Derived.ProofKit
import Derived.OpenShut
set_option linter.unusedSimpArgs false
set_option linter.unusedVariables false
set_option maxRecDepth 1000000
namespace Go.Proofs.Ytlonpljlojgclaa
open Go Go.Av Go.ChangeShapes Go.WideShapes Go.ChangeAt Go.RowKit

theorem own6 : ownKnob Try.prog.godebug = none := by kernel_rfl
theorem laidOut6 : laidOutB Try.prog = true := by kernel_rfl

theorem lifted6 (os : Os) (started : os.Started) (H : Type) (enc : TypeId × Value → H) :
    ReturnsInHanded {} Try.checked os 6 .any (Rows.branchSoundSpec.pre6 enc Try.prog Try.f6 Rows.branchSoundRow.domain false) (Rows.branchSoundSpec.post enc Try.prog Try.f6 false true false false) := by
  refine law_lifted (C := Try.checked) (d := 8) own6 started (by kernel_rfl) Try.func6
    (ChangeSpec.witness6 (enc := enc) (C := Try.checked) false ⟨#[], #[.int .i64 0, .bool false, .agg #[.int .u64 0, .int .u64 0, .int .u64 0, .int .u64 0, .int .u64 0, .int .u64 0, .int .u64 0, .int .u64 0]], []⟩ 6 (by kernel_rfl) (by kernel_rfl) (by kernel_rfl) (by kernel_rfl))
    laidOut6 (by kernel_rfl) ?_ ⟨4, by kernel_rfl, Try.underlying4⟩ rfl ?_ ?_
  · intro t ht
    have e : Try.f6.params.toList = [3, 4, 42] := by kernel_rfl
    rw [e] at ht
    simp at ht
    rcases ht with rfl | rfl | rfl <;> exact ⟨by kernel_rfl, of_decide_eq_true (by kernel_rfl)⟩
  · intro ds hds
    have e : Try.f6.params.size = 3 := by kernel_rfl
    rw [e] at hds
    match ds, hds with
    | [a, b, c], _ => exact ⟨rfl, rfl, rfl⟩
  · have e : Try.f6.params.toList = [3, 4, 42] := by kernel_rfl
    show LawA Try.prog 6 Try.f6.params.toList
    rw [e]
    exact law6

theorem row6 : Rows.branchSoundRow.holds Try.pinned (OpenSpec.ofChange Rows.branchSoundSpec) :=
  OpenClaim.holds_of_wide 6 Try.f6 rfl rfl rfl rfl rfl rfl rfl ⟨rfl, rfl, rfl, rfl, rfl⟩ rfl rfl rfl rfl rfl (by kernel_rfl) Try.func6 (by kernel_rfl)
    (of_decide_eq_true (by kernel_rfl)) (by unfold Func.isWrapper; first | (rw [if_pos (by decide +kernel)]; kernel_rfl) | (rw [if_neg (by decide +kernel)]; exact ⟨rfl, rfl⟩))
    (fun os started H enc _ => lifted6 os started H enc)

theorem branchSoundProved : Rows.BranchSoundSaid := row6
#print axioms branchSoundProved
end Go.Proofs.Ytlonpljlojgclaa
