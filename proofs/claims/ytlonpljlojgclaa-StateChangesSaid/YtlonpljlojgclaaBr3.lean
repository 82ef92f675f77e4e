import Derived.Test.YtlonpljlojgclaaBr1
set_option linter.unusedSimpArgs false
set_option linter.unusedVariables false
set_option maxRecDepth 1000000
namespace Go.Proofs.Ytlonpljlojgclaa
open Go Go.Av

theorem tab0 : ∀ i : Nat, i < 256 → bytes_0[i]? = some (UInt8.ofNat (blen (BitVec.ofNat 64 i))) := by decide +kernel

theorem idx0 (y : BitVec 64) (h : y.toNat < 256) : indexA Try.prog 9 (.str bytes_0) (.int .u8 (lo8 y)) = some (.int .u8 (blen y)) := by
  have h1 : lo8 y = y.toNat := by unfold lo8; omega
  have h2 : y = BitVec.ofNat 64 y.toNat := by simp -implicitDefEqProofs
  have h3 := tab0 _ h
  rw [← h2] at h3
  have h4 := blen_le y
  simp only [indexA, Try.underlying9, h1, Int.toNat_natCast, h3]
  rw [if_pos (by omega)]
  have h5 : (UInt8.ofNat (blen y)).toNat = blen y := by simp -implicitDefEqProofs; omega
  rw [h5]

set_option maxHeartbeats 1000000 in
theorem k134 (x : BitVec 64) (H : Heap) : CallRuns Try.prog 134 [u64 x] H (.ret (.int .i64 (blen x))) H := by
  refine callRuns_eq (run134 (by simp -implicitDefEqProofs) ?_)
  simp -implicitDefEqProofs
  repeat' first
    | (refine brK_split (fun h => ?_) (fun h => ?_) <;> simp only [decide_eq_true_eq, decide_eq_false_iff_not] at h <;> simp -implicitDefEqProofs)
  all_goals simp only [BitVec.le_def, BitVec.toNat_ushiftRight, Nat.shiftRight_eq_div_pow, BitVec.toNat_ofNat] at *
  all_goals (rw [idx0 _ (by try simp only [BitVec.toNat_ushiftRight, Nat.shiftRight_eq_div_pow]
                            omega)]; simp -implicitDefEqProofs)
  case refine_1.refine_1.refine_1 => rw [blen_shr (x := x) (k := 56) (by omega)]; omega
  case refine_1.refine_1.refine_2 => rw [blen_shr (x := x) (k := 48) (by omega)]; omega
  case refine_1.refine_2.refine_1 => rw [blen_shr (x := x) (k := 40) (by omega)]; omega
  case refine_1.refine_2.refine_2 => rw [blen_shr (x := x) (k := 32) (by omega)]; omega
  case refine_2.refine_1.refine_1 => rw [blen_shr (x := x) (k := 24) (by omega)]; omega
  case refine_2.refine_1.refine_2 => rw [blen_shr (x := x) (k := 16) (by omega)]; omega
  case refine_2.refine_2.refine_1 => rw [blen_shr (x := x) (k := 8) (by omega)]; omega

theorem k124 (a b : BitVec 64) (H : Heap) : CallRuns Try.prog 124 [u64 a, u64 b] H (.ret (eT (tOf a b))) H := by
  refine callRuns_eq (run124 (by simp -implicitDefEqProofs) ?_)
  simp -implicitDefEqProofs
  refine callK_ret (k134 _ _) ?_
  simp -implicitDefEqProofs
  refine callK_ret (k109 _ _ _) ?_
  simp -implicitDefEqProofs [tOf, msk]
end Go.Proofs.Ytlonpljlojgclaa
