import Derived.Test.YtlonpljlojgclaaBs3
import Derived.Test.YtlonpljlojgclaaBr13
set_option linter.unusedSimpArgs false
set_option linter.unusedVariables false
set_option maxRecDepth 1000000
namespace Go.Proofs.Ytlonpljlojgclaa
open Go Go.Av

set_option maxHeartbeats 16000000 in
theorem k6 (op : Int) (wide : Bool) (v m lo hi v' m' lo' hi' : BitVec 64) (H : Heap) : CallRuns Try.prog 6 [.int .i64 op, .bool wide, .ag [.ag [.ag [u64 v, u64 m], u64 lo, u64 hi], .ag [.ag [u64 v', u64 m'], u64 lo', u64 hi']]] H (.ret (.bool true)) H := by
  have ma := scWide_may ⟨⟨v, m⟩, lo, hi⟩
  have mb := scWide_may ⟨⟨v', m'⟩, lo', hi'⟩
  obtain ⟨⟨⟨av, am⟩, al, ah⟩, hA⟩ : ∃ A, scWide ⟨⟨v, m⟩, lo, hi⟩ = A := ⟨_, rfl⟩
  obtain ⟨⟨⟨bv, bm⟩, bl, bh⟩, hB⟩ : ∃ B, scWide ⟨⟨v', m'⟩, lo', hi'⟩ = B := ⟨_, rfl⟩
  obtain ⟨⟨⟨⟨rv, rm⟩, rl, rh⟩, ⟨⟨sv, sm⟩, sl, sh⟩, may⟩, hR⟩ : ∃ R, scRefine op wide ⟨⟨av, am⟩, al, ah⟩ ⟨⟨bv, bm⟩, bl, bh⟩ = R := ⟨_, rfl⟩
  rw [hA] at ma
  rw [hB] at mb
  refine callRuns_eq (run6 (by simp) ?_)
  simp -implicitDefEqProofs
  refine callK_ret (k21 _ _ _ _ _) ?_
  simp -implicitDefEqProofs [hA]
  refine callK_ret (k21 _ _ _ _ _) ?_
  simp -implicitDefEqProofs [hA, hB]
  refine callK_ret (k22 _ _ _ _ _ _ _ _ _ _ _) ?_
  simp -implicitDefEqProofs [hR]
  refine loop_inv [0, 1, 6, 7, 8, 9, 10, 11, 12, 13, 14] [7, 8, 9, 10, 48, 61]
    (fun i : Nat => ⟨[(0, .int .i64 op), (1, .bool wide), (6, .bool false), (7, .loc 7 [0] 26), (8, .loc 8 [0] 26), (9, .loc 9 [0] 26), (10, .loc 10 [0] 26), (11, .bool may), (12, .lsl 48 [] 0 22 4 4), (13, .lsl 61 [] 0 22 4 4), (14, .int .i64 i)],
      [(7, 26, [.ag [.ag [u64 av, u64 am], u64 al, u64 ah]]), (8, 26, [.ag [.ag [u64 bv, u64 bm], u64 bl, u64 bh]]), (9, 26, [.ag [.ag [u64 rv, u64 rm], u64 rl, u64 rh]]), (10, 26, [.ag [.ag [u64 sv, u64 sm], u64 sl, u64 sh]]),
       (48, 22, [u64 lo, u64 hi, u64 hi', u64 lo']), (61, 22, [u64 lo', u64 hi', u64 hi, u64 lo])], H⟩)
    (fun i => i ≤ 4) (fun i => 4 - i) 0 (by simp -implicitDefEqProofs [St.keep]) (by simp -implicitDefEqProofs [tidy, u64]) (by omega) ?_
  intro i hi5
  have cases5 : i = 0 ∨ i = 1 ∨ i = 2 ∨ i = 3 ∨ i = 4 := by omega
  rcases cases5 with rfl | rfl | rfl | rfl | rfl
  · simp -implicitDefEqProofs
    refine callK_ret (k29 _ _ _ _ _ _) ?_
    simp -implicitDefEqProofs
    refine callK_ret (k29 _ _ _ _ _ _) ?_
    rcases hx : scOne ⟨⟨av, am⟩, al, ah⟩ lo with _ | x
    · simp -implicitDefEqProofs [hx]
      exact headK_of 1 (by simp -implicitDefEqProofs [St.keep]) (by omega) (by omega)
    rcases hy : scOne ⟨⟨bv, bm⟩, bl, bh⟩ lo' with _ | y
    · simp -implicitDefEqProofs [hx, hy]
      exact headK_of 1 (by simp -implicitDefEqProofs [St.keep]) (by omega) (by omega)
    simp -implicitDefEqProofs [hx, hy]
    refine callK_ret (k30 _ _ _ _ _) ?_
    rcases ht : aTest op wide x y with _ | t
    · simp -implicitDefEqProofs [ht]
      exact headK_of 1 (by simp -implicitDefEqProofs [St.keep]) (by omega) (by omega)
    cases t
    · simp -implicitDefEqProofs [ht]
      exact headK_of 1 (by simp -implicitDefEqProofs [St.keep]) (by omega) (by omega)
    obtain ⟨h1, h2, h3⟩ := scRefine_has ma mb (scOne_has hx) (scOne_has hy) ht
    rw [hR] at h1 h2 h3
    simp only at h1
    subst h1
    simp -implicitDefEqProofs [ht]
    refine callK_ret (k31 _ _ _ _ _ _) ?_
    simp -implicitDefEqProofs [h2]
    refine callK_ret (k31 _ _ _ _ _ _) ?_
    simp -implicitDefEqProofs [h3]
    exact headK_of 1 (by simp -implicitDefEqProofs [St.keep]) (by omega) (by omega)
  · simp -implicitDefEqProofs
    refine callK_ret (k29 _ _ _ _ _ _) ?_
    simp -implicitDefEqProofs
    refine callK_ret (k29 _ _ _ _ _ _) ?_
    rcases hx : scOne ⟨⟨av, am⟩, al, ah⟩ hi with _ | x
    · simp -implicitDefEqProofs [hx]
      exact headK_of 2 (by simp -implicitDefEqProofs [St.keep]) (by omega) (by omega)
    rcases hy : scOne ⟨⟨bv, bm⟩, bl, bh⟩ hi' with _ | y
    · simp -implicitDefEqProofs [hx, hy]
      exact headK_of 2 (by simp -implicitDefEqProofs [St.keep]) (by omega) (by omega)
    simp -implicitDefEqProofs [hx, hy]
    refine callK_ret (k30 _ _ _ _ _) ?_
    rcases ht : aTest op wide x y with _ | t
    · simp -implicitDefEqProofs [ht]
      exact headK_of 2 (by simp -implicitDefEqProofs [St.keep]) (by omega) (by omega)
    cases t
    · simp -implicitDefEqProofs [ht]
      exact headK_of 2 (by simp -implicitDefEqProofs [St.keep]) (by omega) (by omega)
    obtain ⟨h1, h2, h3⟩ := scRefine_has ma mb (scOne_has hx) (scOne_has hy) ht
    rw [hR] at h1 h2 h3
    simp only at h1
    subst h1
    simp -implicitDefEqProofs [ht]
    refine callK_ret (k31 _ _ _ _ _ _) ?_
    simp -implicitDefEqProofs [h2]
    refine callK_ret (k31 _ _ _ _ _ _) ?_
    simp -implicitDefEqProofs [h3]
    exact headK_of 2 (by simp -implicitDefEqProofs [St.keep]) (by omega) (by omega)
  · simp -implicitDefEqProofs
    refine callK_ret (k29 _ _ _ _ _ _) ?_
    simp -implicitDefEqProofs
    refine callK_ret (k29 _ _ _ _ _ _) ?_
    rcases hx : scOne ⟨⟨av, am⟩, al, ah⟩ hi' with _ | x
    · simp -implicitDefEqProofs [hx]
      exact headK_of 3 (by simp -implicitDefEqProofs [St.keep]) (by omega) (by omega)
    rcases hy : scOne ⟨⟨bv, bm⟩, bl, bh⟩ hi with _ | y
    · simp -implicitDefEqProofs [hx, hy]
      exact headK_of 3 (by simp -implicitDefEqProofs [St.keep]) (by omega) (by omega)
    simp -implicitDefEqProofs [hx, hy]
    refine callK_ret (k30 _ _ _ _ _) ?_
    rcases ht : aTest op wide x y with _ | t
    · simp -implicitDefEqProofs [ht]
      exact headK_of 3 (by simp -implicitDefEqProofs [St.keep]) (by omega) (by omega)
    cases t
    · simp -implicitDefEqProofs [ht]
      exact headK_of 3 (by simp -implicitDefEqProofs [St.keep]) (by omega) (by omega)
    obtain ⟨h1, h2, h3⟩ := scRefine_has ma mb (scOne_has hx) (scOne_has hy) ht
    rw [hR] at h1 h2 h3
    simp only at h1
    subst h1
    simp -implicitDefEqProofs [ht]
    refine callK_ret (k31 _ _ _ _ _ _) ?_
    simp -implicitDefEqProofs [h2]
    refine callK_ret (k31 _ _ _ _ _ _) ?_
    simp -implicitDefEqProofs [h3]
    exact headK_of 3 (by simp -implicitDefEqProofs [St.keep]) (by omega) (by omega)
  · simp -implicitDefEqProofs
    refine callK_ret (k29 _ _ _ _ _ _) ?_
    simp -implicitDefEqProofs
    refine callK_ret (k29 _ _ _ _ _ _) ?_
    rcases hx : scOne ⟨⟨av, am⟩, al, ah⟩ lo' with _ | x
    · simp -implicitDefEqProofs [hx]
      exact headK_of 4 (by simp -implicitDefEqProofs [St.keep]) (by omega) (by omega)
    rcases hy : scOne ⟨⟨bv, bm⟩, bl, bh⟩ lo with _ | y
    · simp -implicitDefEqProofs [hx, hy]
      exact headK_of 4 (by simp -implicitDefEqProofs [St.keep]) (by omega) (by omega)
    simp -implicitDefEqProofs [hx, hy]
    refine callK_ret (k30 _ _ _ _ _) ?_
    rcases ht : aTest op wide x y with _ | t
    · simp -implicitDefEqProofs [ht]
      exact headK_of 4 (by simp -implicitDefEqProofs [St.keep]) (by omega) (by omega)
    cases t
    · simp -implicitDefEqProofs [ht]
      exact headK_of 4 (by simp -implicitDefEqProofs [St.keep]) (by omega) (by omega)
    obtain ⟨h1, h2, h3⟩ := scRefine_has ma mb (scOne_has hx) (scOne_has hy) ht
    rw [hR] at h1 h2 h3
    simp only at h1
    subst h1
    simp -implicitDefEqProofs [ht]
    refine callK_ret (k31 _ _ _ _ _ _) ?_
    simp -implicitDefEqProofs [h2]
    refine callK_ret (k31 _ _ _ _ _ _) ?_
    simp -implicitDefEqProofs [h3]
    exact headK_of 4 (by simp -implicitDefEqProofs [St.keep]) (by omega) (by omega)
  · simp -implicitDefEqProofs
    refine callK_ret (k28 _) ?_
    simp -implicitDefEqProofs

theorem law6 : LawA Try.prog 6 [3, 4, 42] := by
  intro H vs h
  match vs, h.len, h.wt, h.ok with
  | [x, y, z], _, hw, hk =>
    simp only [okIL, Bool.and_eq_true] at hk
    obtain ⟨op, rfl, _⟩ := wt3 (hw 0 x 3 rfl rfl) hk.1
    obtain ⟨wide, rfl⟩ := wt4 (hw 1 y 4 rfl rfl)
    obtain ⟨⟨⟨a, b⟩, c, d⟩, ⟨⟨a', b'⟩, c', d'⟩, rfl⟩ := two_of (hw 2 z 42 rfl rfl) hk.2.2.1
    exact ⟨H, k6 op wide a b c d a' b' c' d' H⟩

end Go.Proofs.Ytlonpljlojgclaa
