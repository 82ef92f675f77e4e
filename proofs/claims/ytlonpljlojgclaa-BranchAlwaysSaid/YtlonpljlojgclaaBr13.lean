import Derived.Test.YtlonpljlojgclaaBr12
set_option linter.unusedSimpArgs false
set_option linter.unusedVariables false
set_option maxRecDepth 1000000
namespace Go.Proofs.Ytlonpljlojgclaa
open Go Go.Av

theorem wt3 {v : AV} (h : wt Try.prog v 3 = true) (hk : okI v = true) : ∃ n : Int, v = .int .i64 n ∧ -9223372036854775808 ≤ n ∧ n ≤ 9223372036854775807 := by
  cases v with
  | ag l => simp [wt] at h
  | _ => exact i64_of_leaf (P := Try.prog) (t := 3) (by simpa only [wt] using h) Try.underlying3 hk
theorem wt4 {v : AV} (h : wt Try.prog v 4 = true) : ∃ b, v = .bool b := by
  cases v with
  | ag l => simp [wt] at h
  | _ => exact bool_of_leaf (P := Try.prog) (t := 4) (by simpa only [wt] using h) Try.underlying4
theorem two_of {v : AV} (h : wt Try.prog v 42 = true) (hk : okI v = true) : ∃ s0 s1 : Sc, v = .ag [eS s0, eS s1] := by
  cases v with
  | ag l =>
    simp only [wt, Try.underlying42] at h
    match l, h, hk with
    | [a, b], h, hk =>
      simp only [wtA, Bool.and_eq_true] at h
      simp only [okI, okIL, Bool.and_eq_true] at hk
      obtain ⟨x, rfl⟩ := sc_of h.2.1 hk.1
      obtain ⟨y, rfl⟩ := sc_of h.2.2.1 hk.2.1
      exact ⟨x, y, rfl⟩
    | [], h, hk => simp at h
    | [_], h, hk => simp at h
    | _ :: _ :: _ :: _, h, hk => simp at h
  | _ => simp [wt, leafT] at h

theorem law8 : LawA Try.prog 8 [3, 4, 42] := by
  intro H vs h
  match vs, h.len, h.wt, h.ok with
  | [x, y, z], _, hw, hk =>
    simp only [okIL, Bool.and_eq_true] at hk
    obtain ⟨op, rfl, _⟩ := wt3 (hw 0 x 3 rfl rfl) hk.1
    obtain ⟨wide, rfl⟩ := wt4 (hw 1 y 4 rfl rfl)
    obtain ⟨s0, s1, rfl⟩ := two_of (hw 2 z 42 rfl rfl) hk.2.2.1
    exact ⟨H, k8 op wide s0 s1 H⟩
end Go.Proofs.Ytlonpljlojgclaa
