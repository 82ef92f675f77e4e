import Derived.Test.YtlonpljlojgclaaBr2
import Derived.Test.YtlonpljlojgclaaBr3
set_option linter.unusedSimpArgs false
set_option linter.unusedVariables false
set_option maxRecDepth 1000000
namespace Go.Proofs.Ytlonpljlojgclaa
open Go Go.Av

set_option maxHeartbeats 8000000 in
theorem k110 (v m lo hi : BitVec 64) (H : Heap) : CallRuns Try.prog 110 [.ag [.ag [u64 v, u64 m], u64 lo, u64 hi]] H (.ret (.tup [eS ((scTight ⟨⟨v, m⟩, lo, hi⟩).getD sz), .bool (scTight ⟨⟨v, m⟩, lo, hi⟩).isSome])) H := by
  generalize hres : scTight ⟨⟨v, m⟩, lo, hi⟩ = res
  refine callRuns_eq (run110 (by simp) ?_)
  simp
  refine loop_inv [1, 2, 3, 4, 13] [1, 2] (fun x : Nat × Bool × Sc => ⟨[(1, .loc 1 [0] 26), (2, .loc 2 [0] 26), (3, .bool false), (4, .bool x.2.1), (13, .int .i64 x.1)], [(1, 26, [eS x.2.2]), (2, 26, [eS sz])], H⟩)
    (fun x => x.1 ≤ 3 ∧ (if x.2.1 then scRounds (3 - x.1) x.2.2 else none) = res) (fun x => 3 - x.1) (0, decide (v &&& m = 0#64), ⟨⟨v, m⟩, lo, hi⟩) (by simp [St.keep]) (by simp [tidy]) ⟨by simp, by simpa [scTight] using hres⟩ ?_
  clear hres
  rintro ⟨n, ok, ⟨⟨v, m⟩, lo, hi⟩⟩ ⟨hn, hs⟩
  simp only at hn hs
  have cases4 : n = 0 ∨ n = 1 ∨ n = 2 ∨ n = 3 := by omega
  rcases cases4 with rfl | rfl | rfl | rfl <;> cases ok
  case inr.inr.inr.false => simp -implicitDefEqProofs at hs ⊢; subst hs; simp
  case inr.inr.inr.true => simp -implicitDefEqProofs [scRounds] at hs ⊢; subst hs; simp
  case inl.false => simp -implicitDefEqProofs at hs ⊢; subst hs; exact headK_of (1, false, ⟨⟨v, m⟩, _, _⟩) (by simp -implicitDefEqProofs [St.keep]; exact ⟨rfl, rfl⟩) ⟨by simp, by simp⟩ (by simp)
  case inr.inl.false => simp -implicitDefEqProofs at hs ⊢; subst hs; exact headK_of (2, false, ⟨⟨v, m⟩, _, _⟩) (by simp -implicitDefEqProofs [St.keep]; exact ⟨rfl, rfl⟩) ⟨by simp, by simp⟩ (by simp)
  case inr.inr.inl.false => simp -implicitDefEqProofs at hs ⊢; subst hs; exact headK_of (3, false, ⟨⟨v, m⟩, _, _⟩) (by simp -implicitDefEqProofs [St.keep]; exact ⟨rfl, rfl⟩) ⟨by simp, by simp⟩ (by simp)
  all_goals simp -implicitDefEqProofs
  all_goals refine brK_split (fun h1 => ?_) (fun h1 => ?_) <;> simp only [decide_eq_true_eq, decide_eq_false_iff_not, BitVec.not_le] at h1 <;> simp -implicitDefEqProofs
  case inl.true.refine_1 =>
    refine callK_ret (k124 _ _ _) ?_
    simp -implicitDefEqProofs
    refine callK_ret (k68 _ _ _ _ _) ?_
    simp -implicitDefEqProofs
    refine headK_of (1, (tmeet ⟨v, m⟩ (tOf (bmax lo v) (bmin hi (v ||| m)))).2, ⟨(tmeet ⟨v, m⟩ (tOf (bmax lo v) (bmin hi (v ||| m)))).1, bmax lo v, bmin hi (v ||| m)⟩) ?_ ⟨by simp, ?_⟩ (by simp)
    · simp -implicitDefEqProofs [St.keep]
    · rw [← hs]
      show _ = (scRound _).bind (scRounds _)
      cases h2 : (tmeet ⟨v, m⟩ (tOf (bmax lo v) (bmin hi (v ||| m)))).2 with
      | true => rw [scRound_yes (BitVec.not_lt.2 h1) h2]; rfl
      | false => rw [scRound_no (BitVec.not_lt.2 h1) h2]; rfl
  case inl.true.refine_2 =>
    refine headK_of (1, false, ⟨⟨v, m⟩, bmax lo v, bmin hi (v ||| m)⟩) ?_ ⟨by simp, ?_⟩ (by simp)
    · simp -implicitDefEqProofs [St.keep, BitVec.not_le.2 h1]
    · rw [← hs]
      show _ = (scRound _).bind (scRounds _)
      rw [scRound_lt h1]; rfl
  case inr.inl.true.refine_1 =>
    refine callK_ret (k124 _ _ _) ?_
    simp -implicitDefEqProofs
    refine callK_ret (k68 _ _ _ _ _) ?_
    simp -implicitDefEqProofs
    refine headK_of (2, (tmeet ⟨v, m⟩ (tOf (bmax lo v) (bmin hi (v ||| m)))).2, ⟨(tmeet ⟨v, m⟩ (tOf (bmax lo v) (bmin hi (v ||| m)))).1, bmax lo v, bmin hi (v ||| m)⟩) ?_ ⟨by simp, ?_⟩ (by simp)
    · simp -implicitDefEqProofs [St.keep]
    · rw [← hs]
      show _ = (scRound _).bind (scRounds _)
      cases h2 : (tmeet ⟨v, m⟩ (tOf (bmax lo v) (bmin hi (v ||| m)))).2 with
      | true => rw [scRound_yes (BitVec.not_lt.2 h1) h2]; rfl
      | false => rw [scRound_no (BitVec.not_lt.2 h1) h2]; rfl
  case inr.inl.true.refine_2 =>
    refine headK_of (2, false, ⟨⟨v, m⟩, bmax lo v, bmin hi (v ||| m)⟩) ?_ ⟨by simp, ?_⟩ (by simp)
    · simp -implicitDefEqProofs [St.keep, BitVec.not_le.2 h1]
    · rw [← hs]
      show _ = (scRound _).bind (scRounds _)
      rw [scRound_lt h1]; rfl
  case inr.inr.inl.true.refine_1 =>
    refine callK_ret (k124 _ _ _) ?_
    simp -implicitDefEqProofs
    refine callK_ret (k68 _ _ _ _ _) ?_
    simp -implicitDefEqProofs
    refine headK_of (3, (tmeet ⟨v, m⟩ (tOf (bmax lo v) (bmin hi (v ||| m)))).2, ⟨(tmeet ⟨v, m⟩ (tOf (bmax lo v) (bmin hi (v ||| m)))).1, bmax lo v, bmin hi (v ||| m)⟩) ?_ ⟨by simp, ?_⟩ (by simp)
    · simp -implicitDefEqProofs [St.keep]
    · rw [← hs]
      show _ = (scRound _).bind (scRounds _)
      cases h2 : (tmeet ⟨v, m⟩ (tOf (bmax lo v) (bmin hi (v ||| m)))).2 with
      | true => rw [scRound_yes (BitVec.not_lt.2 h1) h2]; rfl
      | false => rw [scRound_no (BitVec.not_lt.2 h1) h2]; rfl
  case inr.inr.inl.true.refine_2 =>
    refine headK_of (3, false, ⟨⟨v, m⟩, bmax lo v, bmin hi (v ||| m)⟩) ?_ ⟨by simp, ?_⟩ (by simp)
    · simp -implicitDefEqProofs [St.keep, BitVec.not_le.2 h1]
    · rw [← hs]
      show _ = (scRound _).bind (scRounds _)
      rw [scRound_lt h1]; rfl

theorem k65 (v m lo hi : BitVec 64) (H : Heap) : CallRuns Try.prog 65 [.ag [.ag [u64 v, u64 m], u64 lo, u64 hi]] H (.ret (.bool (scCheck ⟨⟨v, m⟩, lo, hi⟩))) H := by
  refine callRuns_eq (run65 (by simp) ?_)
  simp -implicitDefEqProofs
  refine callK_ret (k64 _ _ _ _ _) ?_
  simp -implicitDefEqProofs
  cases hT : scTight ⟨⟨v, m⟩, lo, hi⟩ with
  | none => simp -implicitDefEqProofs [hT, scCheck]
  | some x =>
    obtain ⟨⟨a, b⟩, c, d⟩ := x
    simp -implicitDefEqProofs [hT, scCheck]

theorem k21 (v m lo hi : BitVec 64) (H : Heap) : CallRuns Try.prog 21 [.ag [.ag [u64 v, u64 m], u64 lo, u64 hi]] H (.ret (eS (scWide ⟨⟨v, m⟩, lo, hi⟩))) H := by
  generalize hres : scWide ⟨⟨v, m⟩, lo, hi⟩ = res
  refine callRuns_eq (run21 (by simp) ?_)
  simp -implicitDefEqProofs
  refine brK_split (fun h => ?_) (fun h => ?_) <;> simp only [decide_eq_true_eq, decide_eq_false_iff_not] at h <;> simp -implicitDefEqProofs <;> simp only [scWide, h, if_true, if_false] at hres
  all_goals refine callK_ret (k64 _ _ _ _ _) ?_
  all_goals simp -implicitDefEqProofs
  case refine_1 =>
    cases hT : scTight ⟨⟨v &&& ~~~m, m⟩, hi, lo⟩ with
    | none =>
      simp -implicitDefEqProofs [hT] at hres ⊢
      refine callK_ret (k54 _ _) ?_
      subst hres
      simp -implicitDefEqProofs [scConst]
    | some x =>
      obtain ⟨⟨a, b⟩, c, d⟩ := x
      simp -implicitDefEqProofs [hT] at hres ⊢
      refine callK_ret (k65 _ _ _ _ _) ?_
      simp -implicitDefEqProofs
      refine brK_split (fun h2 => ?_) (fun h2 => ?_) <;> simp only [h2, if_true, Bool.false_eq_true, if_false] at hres <;> simp -implicitDefEqProofs
      · subst hres; simp
      · refine callK_ret (k54 _ _) ?_
        subst hres
        simp -implicitDefEqProofs [scConst]
  case refine_2 =>
    cases hT : scTight ⟨⟨v &&& ~~~m, m⟩, lo, hi⟩ with
    | none =>
      simp -implicitDefEqProofs [hT] at hres ⊢
      refine callK_ret (k54 _ _) ?_
      subst hres
      simp -implicitDefEqProofs [scConst]
    | some x =>
      obtain ⟨⟨a, b⟩, c, d⟩ := x
      simp -implicitDefEqProofs [hT] at hres ⊢
      refine callK_ret (k65 _ _ _ _ _) ?_
      simp -implicitDefEqProofs
      refine brK_split (fun h2 => ?_) (fun h2 => ?_) <;> simp only [h2, if_true, Bool.false_eq_true, if_false] at hres <;> simp -implicitDefEqProofs
      · subst hres; simp
      · refine callK_ret (k54 _ _) ?_
        subst hres
        simp -implicitDefEqProofs [scConst]
end Go.Proofs.Ytlonpljlojgclaa
