import Derived.Test.YtlonpljlojgclaaBr7
set_option linter.unusedSimpArgs false
set_option linter.unusedVariables false
set_option maxRecDepth 1000000
namespace Go.Proofs.Ytlonpljlojgclaa
open Go Go.Av

set_option maxHeartbeats 8000000 in
theorem k22 (op : Int) (wide : Bool) (v m lo hi v' m' lo' hi' : BitVec 64) (H : Heap) : CallRuns Try.prog 22 [.int .i64 op, .bool wide, .ag [.ag [u64 v, u64 m], u64 lo, u64 hi], .ag [.ag [u64 v', u64 m'], u64 lo', u64 hi']] H (.ret (e3 (scRefine op wide ⟨⟨v, m⟩, lo, hi⟩ ⟨⟨v', m'⟩, lo', hi'⟩))) H := by
  obtain ⟨res, hres⟩ : ∃ res, scRefine op wide ⟨⟨v, m⟩, lo, hi⟩ ⟨⟨v', m'⟩, lo', hi'⟩ = res := ⟨_, rfl⟩
  rw [hres]
  refine callRuns_trim (run22 (by simp) ?_) (by simp [clo, cloL, Out.val, u64])
  simp -implicitDefEqProofs [-SWp_label]
  refine scope_run 1 ?_
  simp -implicitDefEqProofs [-SWp_label]
  have early : ∀ h : scIdle op wide ⟨⟨v, m⟩, lo, hi⟩ ⟨⟨v', m'⟩, lo', hi'⟩ = true, res = (⟨⟨v, m⟩, lo, hi⟩, ⟨⟨v', m'⟩, lo', hi'⟩, true) := fun h => by rw [← hres, scRefine, if_pos h]
  have late : ∀ h : scIdle op wide ⟨⟨v, m⟩, lo, hi⟩ ⟨⟨v', m'⟩, lo', hi'⟩ = false, res = scMain (plainF op) ⟨⟨v, m⟩, lo, hi⟩ ⟨⟨v', m'⟩, lo', hi'⟩ := fun h => by rw [← hres, scRefine, h]; rfl
  simp only [scIdle] at early late
  clear hres
  cases wide
  case false =>
    by_cases c1 : (hi ||| hi') >>> 32 = 0#64
    case neg => simp -implicitDefEqProofs [-SWp_label, c1]; have := early (by simp [c1]); subst this; simp
    simp -implicitDefEqProofs [-SWp_label, c1]
    refine callK_ret (k26 _ _) ?_
    by_cases c2 : notF op < 0
    · simp -implicitDefEqProofs [-SWp_label, c1, c2]
      have := early (by simp [c1, c2]); subst this; simp
    simp -implicitDefEqProofs [-SWp_label, c1, c2]
    refine callK_ret (k66 _ _) ?_
    by_cases c3 : plainF op = op
    · simp -implicitDefEqProofs [-SWp_label, c1, c2, c3]
      refine callK_ret (k66 _ _) ?_
      simp -implicitDefEqProofs [-SWp_label, c1, c2, c3]
      have hl := late (by simp [c1, c2, c3])
      rw [SWp_label, thenK_normal]
      rw [c3] at hl
      refine main22 op v m lo hi v' m' lo' hi' _ _ _ _ (by simp) (by simp) (by simp) (by simp) (by simp) (by simp) (by simp) (by simp) (by simp) (by simp) (by simp) (by simp) (by simp) ?_
      intro D
      exact ⟨by rw [hl], D, rfl⟩
    by_cases c4 : 2147483648#64 ≤ hi
    · simp -implicitDefEqProofs [-SWp_label, c1, c2, c3, c4]
      have := early (by simp [c1, c2, c3, c4]); subst this; simp
    by_cases c5 : 2147483648#64 ≤ hi'
    · simp -implicitDefEqProofs [-SWp_label, c1, c2, c3, c4, c5]
      have := early (by simp [c1, c2, c3, c4, c5]); subst this; simp
    simp -implicitDefEqProofs [-SWp_label, c1, c2, c3, c4, c5]
    refine callK_ret (k66 _ _) ?_
    simp -implicitDefEqProofs [-SWp_label, c1, c2, c3, c4, c5]
    have hl := late (by simp [c1, c2, c3, c4, c5])
    rw [SWp_label, thenK_normal]
    refine main22 (plainF op) v m lo hi v' m' lo' hi' _ _ _ _ (by simp) (by simp) (by simp) (by simp) (by simp) (by simp) (by simp) (by simp) (by simp) (by simp) (by simp) (by simp) (by simp) ?_
    intro D
    exact ⟨by rw [hl], D, rfl⟩
  case true =>
    simp -implicitDefEqProofs [-SWp_label]
    refine callK_ret (k26 _ _) ?_
    by_cases c2 : notF op < 0
    · simp -implicitDefEqProofs [-SWp_label, c2]
      have := early (by simp [c2]); subst this; simp
    simp -implicitDefEqProofs [-SWp_label, c2]
    refine callK_ret (k66 _ _) ?_
    by_cases c3 : plainF op = op
    · simp -implicitDefEqProofs [-SWp_label, c2, c3]
      refine callK_ret (k66 _ _) ?_
      simp -implicitDefEqProofs [-SWp_label, c2, c3]
      have hl := late (by simp [c2, c3])
      rw [SWp_label, thenK_normal]
      rw [c3] at hl
      refine main22 op v m lo hi v' m' lo' hi' _ _ _ _ (by simp) (by simp) (by simp) (by simp) (by simp) (by simp) (by simp) (by simp) (by simp) (by simp) (by simp) (by simp) (by simp) ?_
      intro D
      exact ⟨by rw [hl], D, rfl⟩
    by_cases c4 : 9223372036854775808#64 ≤ hi
    · simp -implicitDefEqProofs [-SWp_label, c2, c3, c4]
      have := early (by simp [c2, c3, c4]); subst this; simp
    by_cases c5 : 9223372036854775808#64 ≤ hi'
    · simp -implicitDefEqProofs [-SWp_label, c2, c3, c4, c5]
      have := early (by simp [c2, c3, c4, c5]); subst this; simp
    simp -implicitDefEqProofs [-SWp_label, c2, c3, c4, c5]
    refine callK_ret (k66 _ _) ?_
    simp -implicitDefEqProofs [-SWp_label, c2, c3, c4, c5]
    have hl := late (by simp [c2, c3, c4, c5])
    rw [SWp_label, thenK_normal]
    refine main22 (plainF op) v m lo hi v' m' lo' hi' _ _ _ _ (by simp) (by simp) (by simp) (by simp) (by simp) (by simp) (by simp) (by simp) (by simp) (by simp) (by simp) (by simp) (by simp) ?_
    intro D
    exact ⟨by rw [hl], D, rfl⟩

end Go.Proofs.Ytlonpljlojgclaa
