import Derived.Test.YtlonpljlojgclaaBs1
set_option linter.unusedSimpArgs false
set_option linter.unusedVariables false
set_option maxRecDepth 1000000
namespace Go.Proofs.Ytlonpljlojgclaa
open Go Go.Av

set_option maxHeartbeats 16000000 in
theorem k23 (op : Int) (wide : Bool) (v m lo hi v' m' lo' hi' : BitVec 64) (H : Heap) : CallRuns Try.prog 23 [.int .i64 op, .bool wide, .ag [.ag [u64 v, u64 m], u64 lo, u64 hi], .ag [.ag [u64 v', u64 m'], u64 lo', u64 hi']] H (.ret (e3 (rfRefine op wide ⟨⟨v, m⟩, lo, hi⟩ ⟨⟨v', m'⟩, lo', hi'⟩))) H := by
  obtain ⟨res, hres⟩ : ∃ res, rfRefine op wide ⟨⟨v, m⟩, lo, hi⟩ ⟨⟨v', m'⟩, lo', hi'⟩ = res := ⟨_, rfl⟩
  rw [hres]
  refine callRuns_eq (run23 (by simp) ?_)
  simp -implicitDefEqProofs
  refine callK_ret (k27 _ _) ?_
  by_cases hn : notF op < 0
  · simp [rfRefine, rfIdle, hn] at hres
    subst hres
    simp -implicitDefEqProofs [hn]
  have fin : ∀ w : BitVec 64, w = (if wide then 9223372036854775808#64 else 2147483648#64) → True := fun _ _ => trivial
  cases wide
  case false =>
    by_cases c1 : 4294967296#64 ≤ hi
    · simp [rfRefine, rfIdle, hn, c1] at hres
      subst hres
      simp -implicitDefEqProofs [hn, c1]
    by_cases c2 : 4294967296#64 ≤ hi'
    · simp [rfRefine, rfIdle, hn, c1, c2] at hres
      subst hres
      simp -implicitDefEqProofs [hn, c1, c2]
    simp -implicitDefEqProofs [hn, c1, c2]
    rcases notF_cases hn with rfl | rfl | rfl | rfl | rfl | rfl | rfl | rfl | rfl | rfl | rfl | rfl
    all_goals by_cases c3 : 2147483648#64 ≤ hi <;> by_cases c4 : 2147483648#64 ≤ hi' <;> simp [rfRefine, rfIdle, rfMain, notF, c1, c2, c3, c4] at hres <;> subst hres <;> simp -implicitDefEqProofs [c1, c2, c3, c4]
    all_goals first
      | done
      | (refine callK_ret (k74 _ _ _ _ _ _ _ _ _ _) ?_; simp -implicitDefEqProofs; first
          | done
          | (refine callK_ret (k75 _ _ _ _ _ _ _ _ _ _) ?_; simp -implicitDefEqProofs [turn3]))
      | (refine callK_ret (k73 _ _ _ _ _ _ _ _ _) ?_; simp -implicitDefEqProofs)
      | (refine callK_ret (k76 _ _ _ _ _ _ _ _ _ _) ?_; simp -implicitDefEqProofs)
      | (refine callK_ret (k71 _ _ _ _ _) ?_
         cases e : (tmeet ⟨v, m⟩ ⟨v', m'⟩).2
         · simp -implicitDefEqProofs [e, rfEqual]
         · simp -implicitDefEqProofs [e]
           refine callK_ret (k72 _ _ _ _ _ _ _ _ _) ?_
           simp -implicitDefEqProofs [e, rfEqual])
  case true =>
    simp -implicitDefEqProofs [hn]
    rcases notF_cases hn with rfl | rfl | rfl | rfl | rfl | rfl | rfl | rfl | rfl | rfl | rfl | rfl
    all_goals by_cases c3 : 9223372036854775808#64 ≤ hi <;> by_cases c4 : 9223372036854775808#64 ≤ hi' <;> simp [rfRefine, rfIdle, rfMain, notF, c3, c4] at hres <;> subst hres <;> simp -implicitDefEqProofs [c3, c4]
    all_goals first
      | done
      | (refine callK_ret (k74 _ _ _ _ _ _ _ _ _ _) ?_; simp -implicitDefEqProofs; first
          | done
          | (refine callK_ret (k75 _ _ _ _ _ _ _ _ _ _) ?_; simp -implicitDefEqProofs [turn3]))
      | (refine callK_ret (k73 _ _ _ _ _ _ _ _ _) ?_; simp -implicitDefEqProofs)
      | (refine callK_ret (k76 _ _ _ _ _ _ _ _ _ _) ?_; simp -implicitDefEqProofs)
      | (refine callK_ret (k71 _ _ _ _ _) ?_
         cases e : (tmeet ⟨v, m⟩ ⟨v', m'⟩).2
         · simp -implicitDefEqProofs [e, rfEqual]
         · simp -implicitDefEqProofs [e]
           refine callK_ret (k72 _ _ _ _ _ _ _ _ _) ?_
           simp -implicitDefEqProofs [e, rfEqual])

theorem k23' (op : Int) (wide : Bool) (v m lo hi v' m' lo' hi' : BitVec 64) (H : Heap) : CallRuns Try.prog 23 [.int .i64 op, .bool wide, .ag [.ag [u64 v, u64 m], u64 lo, u64 hi], .ag [.ag [u64 v', u64 m'], u64 lo', u64 hi']] H (.ret (e3 (scRefine op wide ⟨⟨v, m⟩, lo, hi⟩ ⟨⟨v', m'⟩, lo', hi'⟩))) H := by
  rw [← rfRefine_eq]; exact k23 op wide v m lo hi v' m' lo' hi' H

set_option maxHeartbeats 4000000 in
theorem k25 (op : Int) (wide : Bool) (v m lo hi v' m' lo' hi' : BitVec 64) (H : Heap) : CallRuns Try.prog 25 [.int .i64 op, .bool wide, .ag [.ag [u64 v, u64 m], u64 lo, u64 hi], .ag [.ag [u64 v', u64 m'], u64 lo', u64 hi']] H
    (.ret (.tup [.bool (scAlways op wide ⟨⟨v, m⟩, lo, hi⟩ ⟨⟨v', m'⟩, lo', hi'⟩).1, .bool (scAlways op wide ⟨⟨v, m⟩, lo, hi⟩ ⟨⟨v', m'⟩, lo', hi'⟩).2])) H := by
  refine callRuns_eq (run25 (by simp) ?_)
  simp -implicitDefEqProofs
  refine callK_ret (k27 _ _) ?_
  by_cases h1 : notF op < 0
  · simp -implicitDefEqProofs [h1, scAlways]
  simp -implicitDefEqProofs [h1]
  refine callK_ret (k23' _ _ _ _ _ _ _ _ _ _ _) ?_
  simp -implicitDefEqProofs
  cases h2 : (scRefine op wide ⟨⟨v, m⟩, lo, hi⟩ ⟨⟨v', m'⟩, lo', hi'⟩).2.2
  · simp -implicitDefEqProofs [h1, h2, scAlways]
  simp -implicitDefEqProofs [h2]
  refine callK_ret (k27 _ _) ?_
  simp -implicitDefEqProofs
  refine callK_ret (k23' _ _ _ _ _ _ _ _ _ _ _) ?_
  simp -implicitDefEqProofs
  cases h3 : (scRefine (notF op) wide ⟨⟨v, m⟩, lo, hi⟩ ⟨⟨v', m'⟩, lo', hi'⟩).2.2 <;> simp -implicitDefEqProofs [h1, h2, h3, scAlways]

theorem k78 (v m x : BitVec 64) (H : Heap) : CallRuns Try.prog 78 [.ag [u64 v, u64 m], u64 x] H (.ret (.bool (tHas ⟨v, m⟩ x))) H :=
  callRuns_eq (run78 (by simp) (by simp -implicitDefEqProofs [tHas]))

theorem k31 (v m lo hi x : BitVec 64) (H : Heap) : CallRuns Try.prog 31 [.ag [.ag [u64 v, u64 m], u64 lo, u64 hi], u64 x] H (.ret (.bool (scHas ⟨⟨v, m⟩, lo, hi⟩ x))) H := by
  refine callRuns_eq (run31 (by simp) ?_)
  simp -implicitDefEqProofs
  refine callK_ret (k78 _ _ _ _) ?_
  cases h : tHas ⟨v, m⟩ x
  · simp -implicitDefEqProofs [scHas, h]
  by_cases h2 : lo ≤ x <;> simp -implicitDefEqProofs [scHas, h, h2]

set_option maxHeartbeats 8000000 in
theorem k29 (v m lo hi n : BitVec 64) (H : Heap) : CallRuns Try.prog 29 [.ag [.ag [u64 v, u64 m], u64 lo, u64 hi], u64 n] H (.ret (.tup [u64 ((scOne ⟨⟨v, m⟩, lo, hi⟩ n).getD 0#64), .bool (scOne ⟨⟨v, m⟩, lo, hi⟩ n).isSome])) H := by
  refine callRuns_eq (run29 (by simp) ?_)
  simp -implicitDefEqProofs
  refine loop_step [4, 5, 2, 6, 7] [2, 31] (by simp -implicitDefEqProofs [St.keep]; rfl) (by simp -implicitDefEqProofs [tidy, u64]) ?_
  simp -implicitDefEqProofs
  refine callK_ret (k31 _ _ _ _ _ _) ?_
  by_cases h1 : scHas ⟨⟨v, m⟩, lo, hi⟩ (v ||| n &&& m) = true
  · simp -implicitDefEqProofs [h1, scOne]
  simp -implicitDefEqProofs [h1]
  refine loop_step [4, 5, 2, 6, 7] [2, 31] (by simp -implicitDefEqProofs [St.keep]; rfl) (by simp -implicitDefEqProofs [tidy, u64]) ?_
  simp -implicitDefEqProofs
  refine callK_ret (k31 _ _ _ _ _ _) ?_
  by_cases h2 : scHas ⟨⟨v, m⟩, lo, hi⟩ lo = true
  · simp -implicitDefEqProofs [h1, h2, scOne]
  simp -implicitDefEqProofs [h2]
  refine loop_step [4, 5, 2, 6, 7] [2, 31] (by simp -implicitDefEqProofs [St.keep]; rfl) (by simp -implicitDefEqProofs [tidy, u64]) ?_
  simp -implicitDefEqProofs
  refine callK_ret (k31 _ _ _ _ _ _) ?_
  by_cases h3 : scHas ⟨⟨v, m⟩, lo, hi⟩ hi = true
  · simp -implicitDefEqProofs [h1, h2, h3, scOne]
  simp -implicitDefEqProofs [h3]
  refine loop_step [4, 5, 2, 6, 7] [2, 31] (by simp -implicitDefEqProofs [St.keep]; rfl) (by simp -implicitDefEqProofs [tidy, u64]) ?_
  simp -implicitDefEqProofs
  refine callK_ret (k31 _ _ _ _ _ _) ?_
  by_cases h4 : scHas ⟨⟨v, m⟩, lo, hi⟩ v = true
  · simp -implicitDefEqProofs [h1, h2, h3, h4, scOne]
  simp -implicitDefEqProofs [h4]
  refine loop_step [4, 5, 2, 6, 7] [2, 31] (by simp -implicitDefEqProofs [St.keep]; rfl) (by simp -implicitDefEqProofs [tidy, u64]) ?_
  simp -implicitDefEqProofs
  refine callK_ret (k31 _ _ _ _ _ _) ?_
  by_cases h5 : scHas ⟨⟨v, m⟩, lo, hi⟩ (v ||| m) = true
  · simp -implicitDefEqProofs [h1, h2, h3, h4, h5, scOne]
  simp -implicitDefEqProofs [h5]
  refine loop_step [4, 5, 2, 6, 7] [2, 31] (by simp -implicitDefEqProofs [St.keep]; rfl) (by simp -implicitDefEqProofs [tidy, u64]) ?_
  simp -implicitDefEqProofs [h1, h2, h3, h4, h5, scOne]

theorem k114 (x : BitVec 64) (H : Heap) : CallRuns Try.prog 114 [u64 x] H (.ret (u64 (x &&& 4294967295#64))) H :=
  callRuns_eq (run114 (by simp) (by simp -implicitDefEqProofs))

set_option maxHeartbeats 8000000 in
theorem k77 (op : Int) (wide : Bool) (x y : BitVec 64) (H : Heap) : CallRuns Try.prog 77 [.int .i64 op, .bool wide, u64 x, u64 y] H (.ret (.tup [.bool ((rTest op wide x y).getD false), .int .i64 (if (rTest op wide x y).isSome then 0 else 1)])) H := by
  obtain ⟨res, hres⟩ : ∃ res, rTest op wide x y = res := ⟨_, rfl⟩
  rw [hres]
  refine callRuns_eq (run77 (by simp) ?_)
  cases wide
  · simp -implicitDefEqProofs
    refine callK_ret (k114 _ _) ?_
    simp -implicitDefEqProofs
    refine callK_ret (k114 _ _) ?_
    simp -implicitDefEqProofs
    repeat' first
      | (refine brK_split (fun h => ?_) (fun h => ?_) <;> simp -implicitDefEqProofs only [decide_eq_true_eq, decide_eq_false_iff_not] at h <;> simp -implicitDefEqProofs [h])
    all_goals simp -implicitDefEqProofs [rTest, lowW, cmpI, *] at hres
    all_goals subst hres
    all_goals simp -implicitDefEqProofs
  · simp -implicitDefEqProofs
    repeat' first
      | (refine brK_split (fun h => ?_) (fun h => ?_) <;> simp -implicitDefEqProofs only [decide_eq_true_eq, decide_eq_false_iff_not] at h <;> simp -implicitDefEqProofs [h])
    all_goals simp -implicitDefEqProofs [rTest, lowW, cmpI, *] at hres
    all_goals subst hres
    all_goals simp -implicitDefEqProofs

theorem k30 (op : Int) (wide : Bool) (x y : BitVec 64) (H : Heap) : CallRuns Try.prog 30 [.int .i64 op, .bool wide, u64 x, u64 y] H (.ret (.tup [.bool ((aTest op wide x y).getD false), .bool (aTest op wide x y).isSome])) H := by
  refine callRuns_eq (run30 (by simp) ?_)
  by_cases h : op = 68
  · subst h
    simp -implicitDefEqProofs
    refine callK_ret (k77 _ _ _ _ _) ?_
    simp -implicitDefEqProofs [aTest, rTest]
  · simp -implicitDefEqProofs [h]
    refine callK_ret (k77 _ _ _ _ _) ?_
    cases e : rTest op wide x y <;> simp -implicitDefEqProofs [aTest, h, e]

end Go.Proofs.Ytlonpljlojgclaa
