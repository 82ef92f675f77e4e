import Derived.Test.YtlonpljlojgclaaBr1
set_option linter.unusedSimpArgs false
set_option linter.unusedVariables false
set_option maxRecDepth 1000000
namespace Go.Proofs.Ytlonpljlojgclaa
open Go Go.Av

set_option maxHeartbeats 4000000 in
theorem k64 (v m lo hi : BitVec 64) (H : Heap) : CallRuns Try.prog 64 [.ag [.ag [u64 v, u64 m], u64 lo, u64 hi]] H (.ret (.tup [eS ((scTight ⟨⟨v, m⟩, lo, hi⟩).getD sz), .bool (scTight ⟨⟨v, m⟩, lo, hi⟩).isSome])) H := by
  generalize hres : scTight ⟨⟨v, m⟩, lo, hi⟩ = res
  refine callRuns_eq (run64 (by simp -implicitDefEqProofs) ?_)
  simp -implicitDefEqProofs
  refine callK_ret (k107 _ _ _) ?_
  simp -implicitDefEqProofs
  refine brK_split (fun h => ?_) (fun h => ?_) <;> simp -implicitDefEqProofs at h <;> simp -implicitDefEqProofs [scTight, h] at hres <;> simp -implicitDefEqProofs
  · subst hres; simp -implicitDefEqProofs
  refine loop_inv [1, 2, 3, 4] [1, 2] (fun x : Nat × Sc => ⟨[(1, .loc 1 [0] 26), (2, .loc 2 [0] 26), (3, .bool false), (4, .int .i64 x.1)], [(1, 26, [eS x.2]), (2, 26, [eS sz])], H⟩)
    (fun x => x.1 ≤ 3 ∧ scRounds (3 - x.1) x.2 = res) (fun x => 3 - x.1) (0, ⟨⟨v, m⟩, lo, hi⟩) (by simp -implicitDefEqProofs [St.keep]) (by simp -implicitDefEqProofs [tidy]) ⟨by simp, hres⟩ ?_
  clear hres h
  rintro ⟨n, ⟨⟨v, m⟩, lo, hi⟩⟩ ⟨hn, hs⟩
  simp only at hn hs
  have cases4 : n = 0 ∨ n = 1 ∨ n = 2 ∨ n = 3 := by omega
  rcases cases4 with rfl | rfl | rfl | rfl
  case inr.inr.inr => simp -implicitDefEqProofs; simp -implicitDefEqProofs [scRounds] at hs; subst hs; simp -implicitDefEqProofs
  all_goals simp -implicitDefEqProofs
  all_goals refine brK_split (fun h1 => ?_) (fun h1 => ?_) <;> simp only [decide_eq_true_eq, decide_eq_false_iff_not] at h1 <;> simp -implicitDefEqProofs
  all_goals first
    | (simp only [scRounds, scRound_lt h1] at hs; simp -implicitDefEqProofs at hs; subst hs; simp -implicitDefEqProofs; done)
    | skip
  all_goals refine callK_ret (k108 _ _ _) ?_ <;> simp -implicitDefEqProofs
  all_goals refine callK_ret (k71 _ _ _ _ _) ?_ <;> simp -implicitDefEqProofs
  all_goals refine brK_split (fun h2 => ?_) (fun h2 => ?_) <;> simp only [Bool.not_eq_true', Bool.not_eq_false'] at h2 <;> simp -implicitDefEqProofs
  all_goals first
    | (simp only [scRounds, scRound_no h1 h2] at hs; simp -implicitDefEqProofs at hs; subst hs; simp -implicitDefEqProofs; done)
    | (refine headK_of (1, ⟨(tmeet ⟨v, m⟩ (tOf (bmax lo v) (bmin hi (v ||| m)))).1, bmax lo v, bmin hi (v ||| m)⟩) ?_ ⟨?_, ?_⟩ ?_
       · simp -implicitDefEqProofs [St.keep]; done
       · simp -implicitDefEqProofs; done
       · rw [← hs]; show _ = (scRound _).bind (scRounds _); rw [scRound_yes h1 h2]; rfl
       · simp -implicitDefEqProofs; done)
    | (refine headK_of (2, ⟨(tmeet ⟨v, m⟩ (tOf (bmax lo v) (bmin hi (v ||| m)))).1, bmax lo v, bmin hi (v ||| m)⟩) ?_ ⟨?_, ?_⟩ ?_
       · simp -implicitDefEqProofs [St.keep]; done
       · simp -implicitDefEqProofs; done
       · rw [← hs]; show _ = (scRound _).bind (scRounds _); rw [scRound_yes h1 h2]; rfl
       · simp -implicitDefEqProofs; done)
    | (refine headK_of (3, ⟨(tmeet ⟨v, m⟩ (tOf (bmax lo v) (bmin hi (v ||| m)))).1, bmax lo v, bmin hi (v ||| m)⟩) ?_ ⟨?_, ?_⟩ ?_
       · simp -implicitDefEqProofs [St.keep]; done
       · simp -implicitDefEqProofs; done
       · rw [← hs]; show _ = (scRound _).bind (scRounds _); rw [scRound_yes h1 h2]; rfl
       · simp -implicitDefEqProofs; done)

theorem k66 (op : Int) (H : Heap) : CallRuns Try.prog 66 [.int .i64 op] H (.ret (.int .i64 (plainF op))) H := by
  refine callRuns_eq (run66 (by simp -implicitDefEqProofs) ?_)
  simp -implicitDefEqProofs
  repeat' first
    | (refine brK_split (fun h => ?_) (fun h => ?_) <;> simp -implicitDefEqProofs at h <;> simp -implicitDefEqProofs [h])
  all_goals simp -implicitDefEqProofs [plainF, *]

theorem k67 (v m lo hi : BitVec 64) (H : Heap) : CallRuns Try.prog 67 [.ag [.ag [u64 v, u64 m], u64 lo, u64 hi]] H (.ret (.tup [u64 ((scOnly ⟨⟨v, m⟩, lo, hi⟩).getD 0#64), .bool (scOnly ⟨⟨v, m⟩, lo, hi⟩).isSome])) H := by
  refine callRuns_eq (run67 (by simp -implicitDefEqProofs) ?_)
  simp -implicitDefEqProofs
  repeat' first
    | (refine brK_split (fun h => ?_) (fun h => ?_) <;> simp -implicitDefEqProofs at h <;> simp -implicitDefEqProofs [h])
  all_goals simp -implicitDefEqProofs [scOnly, *]

theorem k26 (op : Int) (H : Heap) : CallRuns Try.prog 26 [.int .i64 op] H (.ret (.int .i64 (notF op))) H := by
  refine callRuns_eq (run26 (by simp -implicitDefEqProofs) ?_)
  simp -implicitDefEqProofs
  repeat' first
    | (refine brK_split (fun h => ?_) (fun h => ?_) <;> simp -implicitDefEqProofs at h <;> simp -implicitDefEqProofs [h])
    | (refine loop_step [0, 2, 11, 12, 13] [11] (by simp -implicitDefEqProofs [St.keep]; rfl) (by simp -implicitDefEqProofs [tidy, u64]) ?_; simp -implicitDefEqProofs)
  all_goals simp -implicitDefEqProofs [notF, *]

end Go.Proofs.Ytlonpljlojgclaa
