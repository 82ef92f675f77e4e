import Derived.Test.YtlonpljlojgclaaBr10
import Derived.Test.YtlonpljlojgclaaAvScalRef
set_option linter.unusedSimpArgs false
set_option linter.unusedVariables false
set_option maxRecDepth 1000000
namespace Go.Proofs.Ytlonpljlojgclaa
open Go Go.Av

set_option maxHeartbeats 4000000 in
theorem k27 (op : Int) (H : Heap) : CallRuns Try.prog 27 [.int .i64 op] H (.ret (.int .i64 (notF op))) H := by
  refine callRuns_eq (run27 (by simp) ?_)
  simp -implicitDefEqProofs
  repeat' first
    | (refine brK_split (fun h => ?_) (fun h => ?_) <;> simp -implicitDefEqProofs at h <;> simp -implicitDefEqProofs [h])
    | (refine loop_step [0, 2, 3, 4, 5] [6, 7] (by simp -implicitDefEqProofs [St.keep]; rfl) (by simp -implicitDefEqProofs [tidy, u64]) ?_; simp -implicitDefEqProofs)
  all_goals simp -implicitDefEqProofs [notF, *]
  all_goals grind

theorem k72 (v m lo hi v' m' lo' hi' : BitVec 64) (H : Heap) : CallRuns Try.prog 72 [.ag [.ag [u64 v, u64 m], u64 lo, u64 hi], .ag [.ag [u64 v', u64 m'], u64 lo', u64 hi']] H (.ret (e3 (scKnown ⟨⟨v, m⟩, lo, hi⟩ ⟨⟨v', m'⟩, lo', hi'⟩ true))) H := by
  refine callRuns_eq (run72 (by simp) ?_)
  simp -implicitDefEqProofs
  refine callK_ret (k64 _ _ _ _ _) ?_
  simp -implicitDefEqProofs
  refine callK_ret (k64 _ _ _ _ _) ?_
  cases h1 : scTight ⟨⟨v, m⟩, lo, hi⟩ <;> cases h2 : scTight ⟨⟨v', m'⟩, lo', hi'⟩ <;> simp -implicitDefEqProofs [scKnown, h1, h2]

theorem k112 (v m lo hi : BitVec 64) (H : Heap) : CallRuns Try.prog 112 [.ag [.ag [u64 v, u64 m], u64 lo, u64 hi]] H (.ret (.tup [u64 ((scOnly ⟨⟨v, m⟩, lo, hi⟩).getD 0#64), .bool (scOnly ⟨⟨v, m⟩, lo, hi⟩).isSome])) H := by
  refine callRuns_eq (run112 (by simp) ?_)
  by_cases h : m = 0#64 <;> simp -implicitDefEqProofs [scOnly, h]

abbrev e2 (r : Sc × Bool) : AV := .tup [eS r.1, .bool r.2]

theorem k113 (v m lo hi n : BitVec 64) (H : Heap) : CallRuns Try.prog 113 [.ag [.ag [u64 v, u64 m], u64 lo, u64 hi], u64 n] H (.ret (e2 (rfEdges ⟨⟨v, m⟩, lo, hi⟩ n))) H := by
  refine callRuns_eq (run113 (by simp) ?_)
  by_cases h1 : lo = n
  · subst h1
    by_cases h2 : lo = 18446744073709551615#64
    · subst h2; simp -implicitDefEqProofs [rfEdges]
    by_cases h3 : hi = lo
    · subst h3
      by_cases h4 : hi = 0#64
      · subst h4; simp -implicitDefEqProofs [rfEdges]
      · simp -implicitDefEqProofs [rfEdges, h2, h4]
    · simp -implicitDefEqProofs [rfEdges, h2, h3]
  · by_cases h3 : hi = n
    · subst h3
      by_cases h4 : hi = 0#64
      · subst h4; simp -implicitDefEqProofs [rfEdges, h1]
      · simp -implicitDefEqProofs [rfEdges, h1, h4]
    · simp -implicitDefEqProofs [rfEdges, h1, h3]

set_option maxHeartbeats 4000000 in
theorem k73 (v m lo hi v' m' lo' hi' : BitVec 64) (H : Heap) : CallRuns Try.prog 73 [.ag [.ag [u64 v, u64 m], u64 lo, u64 hi], .ag [.ag [u64 v', u64 m'], u64 lo', u64 hi']] H (.ret (e3 (rfUnequal ⟨⟨v, m⟩, lo, hi⟩ ⟨⟨v', m'⟩, lo', hi'⟩))) H := by
  refine callRuns_eq (run73 (by simp) ?_)
  simp -implicitDefEqProofs
  refine callK_ret (k112 _ _ _ _ _) ?_
  simp -implicitDefEqProofs
  refine callK_ret (k112 _ _ _ _ _) ?_
  cases h1 : scOnly ⟨⟨v, m⟩, lo, hi⟩ with
  | none =>
    cases h2 : scOnly ⟨⟨v', m'⟩, lo', hi'⟩ with
    | none =>
      simp -implicitDefEqProofs [h1, h2]
      refine callK_ret (k72 _ _ _ _ _ _ _ _ _) ?_
      simp -implicitDefEqProofs [rfUnequal, rfUnequal1, rfUnequal2, h1, h2]
    | some c =>
      simp -implicitDefEqProofs [h1, h2]
      refine callK_ret (k113 _ _ _ _ _ _) ?_
      cases e1 : (rfEdges ⟨⟨v, m⟩, lo, hi⟩ c).2
      · simp -implicitDefEqProofs [rfUnequal, rfUnequal1, rfUnequal2, h1, h2, e1]
      · simp -implicitDefEqProofs [h1, h2, e1]
        refine callK_ret (k72 _ _ _ _ _ _ _ _ _) ?_
        simp -implicitDefEqProofs [rfUnequal, rfUnequal1, rfUnequal2, h1, h2, e1]
  | some d =>
    cases h2 : scOnly ⟨⟨v', m'⟩, lo', hi'⟩ with
    | none =>
      simp -implicitDefEqProofs [h1, h2]
      refine callK_ret (k113 _ _ _ _ _ _) ?_
      cases e1 : (rfEdges ⟨⟨v', m'⟩, lo', hi'⟩ d).2
      · simp -implicitDefEqProofs [rfUnequal, rfUnequal1, rfUnequal2, h1, h2, e1]
      · simp -implicitDefEqProofs [h1, h2, e1]
        refine callK_ret (k72 _ _ _ _ _ _ _ _ _) ?_
        simp -implicitDefEqProofs [rfUnequal, rfUnequal1, rfUnequal2, h1, h2, e1]
    | some c =>
      by_cases hdc : d = c
      · simp -implicitDefEqProofs [rfUnequal, rfUnequal1, rfUnequal2, h1, h2, hdc]
      simp -implicitDefEqProofs [h1, h2, hdc]
      refine callK_ret (k113 _ _ _ _ _ _) ?_
      cases e1 : (rfEdges ⟨⟨v, m⟩, lo, hi⟩ c).2
      · simp -implicitDefEqProofs [rfUnequal, rfUnequal1, rfUnequal2, h1, h2, e1, hdc]
      simp -implicitDefEqProofs [h1, h2, e1, hdc]
      refine callK_ret (k113 _ _ _ _ _ _) ?_
      cases e2 : (rfEdges ⟨⟨v', m'⟩, lo', hi'⟩ d).2
      · simp -implicitDefEqProofs [rfUnequal, rfUnequal1, rfUnequal2, h1, h2, e1, e2, hdc]
      · simp -implicitDefEqProofs [h1, h2, e1, e2, hdc]
        refine callK_ret (k72 _ _ _ _ _ _ _ _ _) ?_
        simp -implicitDefEqProofs [rfUnequal, rfUnequal1, rfUnequal2, h1, h2, e1, e2, hdc]

theorem k74 (v m lo hi v' m' lo' hi' : BitVec 64) (strict : Bool) (H : Heap) : CallRuns Try.prog 74 [.ag [.ag [u64 v, u64 m], u64 lo, u64 hi], .ag [.ag [u64 v', u64 m'], u64 lo', u64 hi'], .bool strict] H (.ret (e3 (rfAbove strict ⟨⟨v, m⟩, lo, hi⟩ ⟨⟨v', m'⟩, lo', hi'⟩))) H := by
  refine callRuns_eq (run74 (by simp) ?_)
  cases strict
  · simp -implicitDefEqProofs
    refine callK_ret (k72 _ _ _ _ _ _ _ _ _) ?_
    simp -implicitDefEqProofs [rfAbove]
  · by_cases h1 : lo' = 18446744073709551615#64
    · simp -implicitDefEqProofs [rfAbove, h1]
    by_cases h2 : hi = 0#64
    · simp -implicitDefEqProofs [rfAbove, h1, h2]
    simp -implicitDefEqProofs [h1, h2]
    refine callK_ret (k72 _ _ _ _ _ _ _ _ _) ?_
    simp -implicitDefEqProofs [rfAbove, h1, h2]

theorem k75 (v m lo hi v' m' lo' hi' : BitVec 64) (ok : Bool) (H : Heap) : CallRuns Try.prog 75 [.ag [.ag [u64 v, u64 m], u64 lo, u64 hi], .ag [.ag [u64 v', u64 m'], u64 lo', u64 hi'], .bool ok] H (.ret (e3 (⟨⟨v', m'⟩, lo', hi'⟩, ⟨⟨v, m⟩, lo, hi⟩, ok))) H := by
  refine callRuns_eq (run75 (by simp) ?_)
  simp -implicitDefEqProofs

set_option maxHeartbeats 1000000 in
theorem k76 (v m lo hi v' m' lo' hi' : BitVec 64) (some : Bool) (H : Heap) : CallRuns Try.prog 76 [.ag [.ag [u64 v, u64 m], u64 lo, u64 hi], .ag [.ag [u64 v', u64 m'], u64 lo', u64 hi'], .bool some] H (.ret (e3 (rfShares some ⟨⟨v, m⟩, lo, hi⟩ ⟨⟨v', m'⟩, lo', hi'⟩))) H := by
  refine callRuns_eq (run76 (by simp) ?_)
  simp -implicitDefEqProofs
  refine callK_ret (k112 _ _ _ _ _) ?_
  cases some
  · by_cases h1 : v &&& v' = 0#64
    · cases h2 : scOnly ⟨⟨v', m'⟩, lo', hi'⟩ <;> simp -implicitDefEqProofs [h1, h2] <;> refine callK_ret (k72 _ _ _ _ _ _ _ _ _) ?_ <;> simp -implicitDefEqProofs [rfShares, h1, h2]
    · simp -implicitDefEqProofs [rfShares, h1]
  · by_cases h1 : (v ||| m) &&& (v' ||| m') = 0#64
    · simp -implicitDefEqProofs [rfShares, h1]
    · cases h2 : scOnly ⟨⟨v', m'⟩, lo', hi'⟩ with
      | none =>
        simp -implicitDefEqProofs [h1, h2]
        refine callK_ret (k72 _ _ _ _ _ _ _ _ _) ?_
        simp -implicitDefEqProofs [rfShares, h1, h2]
      | some c =>
        by_cases h3 : c = 0#64
        · simp -implicitDefEqProofs [h1, h2, h3]
          refine callK_ret (k72 _ _ _ _ _ _ _ _ _) ?_
          simp -implicitDefEqProofs [rfShares, h1, h2, h3]
        by_cases h4 : c &&& (c - 1#64) = 0#64
        · simp -implicitDefEqProofs [h1, h2, h3, h4]
          refine callK_ret (k72 _ _ _ _ _ _ _ _ _) ?_
          simp -implicitDefEqProofs [rfShares, h1, h2, h3, h4]
        · simp -implicitDefEqProofs [h1, h2, h3, h4]
          refine callK_ret (k72 _ _ _ _ _ _ _ _ _) ?_
          simp -implicitDefEqProofs [rfShares, h1, h2, h3, h4]

end Go.Proofs.Ytlonpljlojgclaa
