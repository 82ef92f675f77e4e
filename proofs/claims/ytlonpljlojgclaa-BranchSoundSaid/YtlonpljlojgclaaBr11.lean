import Derived.Test.YtlonpljlojgclaaBr10
import Derived.Test.YtlonpljlojgclaaAvScalLaw
set_option linter.unusedSimpArgs false
set_option linter.unusedVariables false
set_option maxRecDepth 1000000
namespace Go.Proofs.Ytlonpljlojgclaa
open Go Go.Av

theorem wt22 {v : AV} (h : wt Try.prog v 22 = true) (hk : okI v = true) : ∃ x, v = u64 x := by
  cases v with
  | ag l => simp [wt] at h
  | _ => exact u64_of_leaf (P := Try.prog) (t := 22) (by simpa only [wt] using h) Try.underlying22 hk

theorem tn_of {v : AV} (h : wt Try.prog v 24 = true) (hk : okI v = true) : ∃ t : Tn, v = eT t := by
  cases v with
  | ag l =>
    simp only [wt, Try.underlying24] at h
    match l, h, hk with
    | [a, b], h, hk =>
      simp only [wtF, Bool.and_eq_true, beq_iff_eq] at h
      simp only [okI, okIL, Bool.and_eq_true] at hk
      obtain ⟨x, rfl⟩ := wt22 h.1.2 hk.1
      obtain ⟨y, rfl⟩ := wt22 h.2.1.2 hk.2.1
      exact ⟨⟨x, y⟩, rfl⟩
    | [], h, hk => simp [wtF] at h
    | [_], h, hk => simp [wtF] at h
    | _ :: _ :: _ :: _, h, hk => simp [wtF] at h
  | _ => simp [wt, leafT] at h

theorem sc_of {v : AV} (h : wt Try.prog v 26 = true) (hk : okI v = true) : ∃ s : Sc, v = eS s := by
  cases v with
  | ag l =>
    simp only [wt, Try.underlying26] at h
    match l, h, hk with
    | [a, b, c], h, hk =>
      simp only [wtF, Bool.and_eq_true, beq_iff_eq] at h
      simp only [okI, okIL, Bool.and_eq_true] at hk
      obtain ⟨t, rfl⟩ := tn_of h.1.2 hk.1
      obtain ⟨x, rfl⟩ := wt22 h.2.1.2 hk.2.1
      obtain ⟨y, rfl⟩ := wt22 h.2.2.1.2 hk.2.2.1
      exact ⟨⟨t, x, y⟩, rfl⟩
    | [], h, hk => simp [wtF] at h
    | [_], h, hk => simp [wtF] at h
    | [_, _], h, hk => simp [wtF] at h
    | _ :: _ :: _ :: _ :: _, h, hk => simp [wtF] at h
  | _ => simp [wt, leafT] at h
end Go.Proofs.Ytlonpljlojgclaa
