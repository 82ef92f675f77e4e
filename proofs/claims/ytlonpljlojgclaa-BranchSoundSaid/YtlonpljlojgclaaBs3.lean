import Derived.Test.YtlonpljlojgclaaBs2
import Derived.Test.YtlonpljlojgclaaBr13
set_option linter.unusedSimpArgs false
set_option linter.unusedVariables false
set_option maxRecDepth 1000000
namespace Go.Proofs.Ytlonpljlojgclaa
open Go Go.Av

set_option maxHeartbeats 8000000 in
theorem k5 (op : Int) (wide : Bool) (v m lo hi v' m' lo' hi' : BitVec 64) (H : Heap) : CallRuns Try.prog 5 [.int .i64 op, .bool wide, .ag [.ag [.ag [u64 v, u64 m], u64 lo, u64 hi], .ag [.ag [u64 v', u64 m'], u64 lo', u64 hi']]] H (.ret (.bool true)) H := by
  obtain ⟨⟨⟨av, am⟩, al, ah⟩, hA⟩ : ∃ A, scWide ⟨⟨v, m⟩, lo, hi⟩ = A := ⟨_, rfl⟩
  obtain ⟨⟨⟨bv, bm⟩, bl, bh⟩, hB⟩ : ∃ B, scWide ⟨⟨v', m'⟩, lo', hi'⟩ = B := ⟨_, rfl⟩
  refine callRuns_eq (run5 (by simp) ?_)
  simp -implicitDefEqProofs
  refine callK_ret (k21 _ _ _ _ _) ?_
  simp -implicitDefEqProofs [hA]
  refine callK_ret (k21 _ _ _ _ _) ?_
  simp -implicitDefEqProofs [hA, hB]
  refine callK_ret (k22 _ _ _ _ _ _ _ _ _ _ _) ?_
  simp -implicitDefEqProofs
  refine callK_ret (k23' _ _ _ _ _ _ _ _ _ _ _) ?_
  simp -implicitDefEqProofs
  refine callK_ret (k24 _ _ _ _ _ _ _ _ _ _ _) ?_
  simp -implicitDefEqProofs
  refine callK_ret (k25 _ _ _ _ _ _ _ _ _ _ _) ?_
  simp -implicitDefEqProofs
  refine callK_ret (k26 _ _) ?_
  simp -implicitDefEqProofs
  refine callK_ret (k27 _ _) ?_
  simp -implicitDefEqProofs
  refine callK_ret (k28 _) ?_
  simp -implicitDefEqProofs

set_option maxHeartbeats 8000000 in
theorem k7 (op : Int) (wide : Bool) (v m lo hi v' m' lo' hi' : BitVec 64) (H : Heap) : CallRuns Try.prog 7 [.int .i64 op, .bool wide, .ag [.ag [.ag [u64 v, u64 m], u64 lo, u64 hi], .ag [.ag [u64 v', u64 m'], u64 lo', u64 hi']]] H (.ret (.bool true)) H := by
  have ma := scWide_may ⟨⟨v, m⟩, lo, hi⟩
  have mb := scWide_may ⟨⟨v', m'⟩, lo', hi'⟩
  obtain ⟨⟨⟨av, am⟩, al, ah⟩, hA⟩ : ∃ A, scWide ⟨⟨v, m⟩, lo, hi⟩ = A := ⟨_, rfl⟩
  obtain ⟨⟨⟨bv, bm⟩, bl, bh⟩, hB⟩ : ∃ B, scWide ⟨⟨v', m'⟩, lo', hi'⟩ = B := ⟨_, rfl⟩
  rw [hA] at ma
  rw [hB] at mb
  refine callRuns_eq (run7 (by simp) ?_)
  simp -implicitDefEqProofs
  refine callK_ret (k21 _ _ _ _ _) ?_
  simp -implicitDefEqProofs [hA]
  refine callK_ret (k21 _ _ _ _ _) ?_
  simp -implicitDefEqProofs [hA, hB]
  refine callK_ret (k24 _ _ _ _ _ _ _ _ _ _ _) ?_
  simp -implicitDefEqProofs
  refine callK_ret (k29 _ _ _ _ _ _) ?_
  simp -implicitDefEqProofs
  refine callK_ret (k29 _ _ _ _ _ _) ?_
  cases hk : (scAlways op wide ⟨⟨av, am⟩, al, ah⟩ ⟨⟨bv, bm⟩, bl, bh⟩).2
  · have hv := scAlways_unknown hk
    simp -implicitDefEqProofs [hk, hv]
    refine callK_ret (k28 _) ?_
    simp -implicitDefEqProofs
  cases hx : scOne ⟨⟨av, am⟩, al, ah⟩ lo' with
  | none =>
    simp -implicitDefEqProofs [hk, hx]
    refine callK_ret (k28 _) ?_
    simp -implicitDefEqProofs
  | some x =>
    cases hy : scOne ⟨⟨bv, bm⟩, bl, bh⟩ hi with
    | none =>
      simp -implicitDefEqProofs [hk, hx, hy]
      refine callK_ret (k28 _) ?_
      simp -implicitDefEqProofs
    | some y =>
      simp -implicitDefEqProofs [hk, hx, hy]
      refine callK_ret (k30 _ _ _ _ _) ?_
      have ht := scAlways_has ma mb (scOne_has hx) (scOne_has hy) hk
      simp -implicitDefEqProofs [ht]
      refine callK_ret (k28 _) ?_
      simp -implicitDefEqProofs

theorem law5 : LawA Try.prog 5 [3, 4, 42] := by
  intro H vs h
  match vs, h.len, h.wt, h.ok with
  | [x, y, z], _, hw, hk =>
    simp only [okIL, Bool.and_eq_true] at hk
    obtain ⟨op, rfl, _⟩ := wt3 (hw 0 x 3 rfl rfl) hk.1
    obtain ⟨wide, rfl⟩ := wt4 (hw 1 y 4 rfl rfl)
    obtain ⟨⟨⟨a, b⟩, c, d⟩, ⟨⟨a', b'⟩, c', d'⟩, rfl⟩ := two_of (hw 2 z 42 rfl rfl) hk.2.2.1
    exact ⟨H, k5 op wide a b c d a' b' c' d' H⟩

theorem law7 : LawA Try.prog 7 [3, 4, 42] := by
  intro H vs h
  match vs, h.len, h.wt, h.ok with
  | [x, y, z], _, hw, hk =>
    simp only [okIL, Bool.and_eq_true] at hk
    obtain ⟨op, rfl, _⟩ := wt3 (hw 0 x 3 rfl rfl) hk.1
    obtain ⟨wide, rfl⟩ := wt4 (hw 1 y 4 rfl rfl)
    obtain ⟨⟨⟨a, b⟩, c, d⟩, ⟨⟨a', b'⟩, c', d'⟩, rfl⟩ := two_of (hw 2 z 42 rfl rfl) hk.2.2.1
    exact ⟨H, k7 op wide a b c d a' b' c' d' H⟩

end Go.Proofs.Ytlonpljlojgclaa
