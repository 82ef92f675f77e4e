/- For any test and any two scalars made whole: what is told of them is never wider than what was known, and the opposite of a test's opposite is the test. Of the function of the given program as it is translated, for every input. -/
import Derived.Test.YtlonpljlojgclaaBr13
import Derived.Test.YtlonpljlojgclaaRows
import Derived.WalkKit
import Derived.ProofKit
import Derived.OpenShut
set_option linter.unusedSimpArgs false
set_option linter.unusedVariables false
set_option maxRecDepth 1000000
namespace Go.Proofs.Ytlonpljlojgclaa
open Go Go.Av Go.ChangeShapes Go.WideShapes Go.ChangeAt Go.RowKit

theorem own8 : ownKnob Try.prog.godebug = none := by kernel_rfl
theorem laidOut8 : laidOutB Try.prog = true := by kernel_rfl

theorem lifted8 (os : Os) (started : os.Started) (H : Type) (enc : TypeId × Value → H) :
    ReturnsInHanded {} Try.checked os 8 .any (Rows.branchNarrowsSpec.pre6 enc Try.prog Try.f8 Rows.branchNarrowsRow.domain false) (Rows.branchNarrowsSpec.post enc Try.prog Try.f8 false true false false) := by
  refine law_lifted (C := Try.checked) (d := 8) own8 started (by kernel_rfl) Try.func8
    (ChangeSpec.witness6 (enc := enc) (C := Try.checked) false ⟨#[], #[.int .i64 0, .bool false, .agg #[.int .u64 0, .int .u64 0, .int .u64 0, .int .u64 0, .int .u64 0, .int .u64 0, .int .u64 0, .int .u64 0]], []⟩ 8 (by kernel_rfl) (by kernel_rfl) (by kernel_rfl) (by kernel_rfl))
    laidOut8 (by kernel_rfl) ?_ ⟨4, by kernel_rfl, Try.underlying4⟩ rfl ?_ ?_
  · intro t ht
    have e : Try.f8.params.toList = [3, 4, 42] := by kernel_rfl
    rw [e] at ht
    simp at ht
    rcases ht with rfl | rfl | rfl <;> exact ⟨by kernel_rfl, of_decide_eq_true (by kernel_rfl)⟩
  · intro ds hds
    have e : Try.f8.params.size = 3 := by kernel_rfl
    rw [e] at hds
    match ds, hds with
    | [a, b, c], _ => exact ⟨rfl, rfl, rfl⟩
  · have e : Try.f8.params.toList = [3, 4, 42] := by kernel_rfl
    show LawA Try.prog 8 Try.f8.params.toList
    rw [e]
    exact law8

theorem row8 : Rows.branchNarrowsRow.holds Try.pinned (OpenSpec.ofChange Rows.branchNarrowsSpec) :=
  OpenClaim.holds_of_wide 8 Try.f8 rfl rfl rfl rfl rfl rfl rfl ⟨rfl, rfl, rfl, rfl, rfl⟩ rfl rfl rfl rfl rfl (by kernel_rfl) Try.func8 (by kernel_rfl)
    (of_decide_eq_true (by kernel_rfl)) (by unfold Func.isWrapper; first | (rw [if_pos (by decide +kernel)]; kernel_rfl) | (rw [if_neg (by decide +kernel)]; exact ⟨rfl, rfl⟩))
    (fun os started H enc _ => lifted8 os started H enc)

theorem branchNarrowsProved : Rows.BranchNarrowsSaid := row8
#print axioms branchNarrowsProved
end Go.Proofs.Ytlonpljlojgclaa
