import Derived.Test.YtlonpljlojgclaaAvScal
import Derived.Test.YtlonpljlojgclaaCodeA
set_option linter.unusedSimpArgs false
set_option linter.unusedVariables false
set_option maxRecDepth 1000000
namespace Go.Proofs.Ytlonpljlojgclaa
open Go Go.Av

theorem k54 (n : BitVec 64) (H : Heap) : CallRuns Try.prog 54 [u64 n] H (.ret (.ag [.ag [u64 n, u64 0#64], u64 n, u64 n])) H :=
  callRuns_eq (run54 (by simp -implicitDefEqProofs) (by simp -implicitDefEqProofs))

theorem k109 (v m : BitVec 64) (H : Heap) : CallRuns Try.prog 109 [u64 v, u64 m] H (.ret (eT (kn v m))) H :=
  callRuns_eq (run109 (by simp -implicitDefEqProofs) (by simp -implicitDefEqProofs [kn]))

theorem k107 (v m : BitVec 64) (H : Heap) : CallRuns Try.prog 107 [.ag [u64 v, u64 m]] H (.ret (.bool (decide (v &&& m = 0#64)))) H :=
  callRuns_eq (run107 (by simp -implicitDefEqProofs) (by simp -implicitDefEqProofs))

theorem k71 (v m a b : BitVec 64) (H : Heap) : CallRuns Try.prog 71 [.ag [u64 v, u64 m], .ag [u64 a, u64 b]] H (.ret (.tup [eT (tmeet ⟨v, m⟩ ⟨a, b⟩).1, .bool (tmeet ⟨v, m⟩ ⟨a, b⟩).2])) H := by
  have e : (v ^^^ a) &&& ~~~m &&& ~~~b = (v ^^^ a) &&& ~~~(m ||| b) := by
    ext i; simp -implicitDefEqProofs; grind
  refine callRuns_eq (run71 (by simp -implicitDefEqProofs) ?_)
  simp -implicitDefEqProofs
  refine brK_split (fun h => ?_) (fun h => ?_) <;> simp -implicitDefEqProofs [e] at h <;> simp -implicitDefEqProofs [tmeet, h, kn]

theorem k68 (v m a b : BitVec 64) (H : Heap) : CallRuns Try.prog 68 [.ag [u64 v, u64 m], .ag [u64 a, u64 b]] H (.ret (.tup [eT (tmeet ⟨v, m⟩ ⟨a, b⟩).1, .bool (tmeet ⟨v, m⟩ ⟨a, b⟩).2])) H := by
  refine callRuns_eq (run68 (by simp -implicitDefEqProofs) ?_)
  simp -implicitDefEqProofs
  refine brK_split (fun h => ?_) (fun h => ?_) <;> simp -implicitDefEqProofs at h <;> simp -implicitDefEqProofs [tmeet, h, kn]
  refine callK_ret (k109 _ _ _) ?_
  simp -implicitDefEqProofs [kn, tmeet, h]

theorem k108 (a b : BitVec 64) (H : Heap) : CallRuns Try.prog 108 [u64 a, u64 b] H (.ret (eT (tOf a b))) H := by
  refine callRuns_eq (run108 (by simp -implicitDefEqProofs) ?_)
  simp -implicitDefEqProofs
  refine loop_inv [0, 4, 5, 6] [4] (fun x : BitVec 64 × BitVec 64 => ⟨[(0, u64 a), (4, .loc 4 [0] 24), (5, u64 x.1), (6, u64 x.2)], [(4, 24, [.ag [u64 0#64, u64 0#64]])], H⟩)
    (fun x => ofL x.1 x.2 = msk (a ^^^ b)) (fun x => x.1.toNat) (a ^^^ b, 0#64) (by simp -implicitDefEqProofs [St.keep]) (by simp -implicitDefEqProofs [tidy, u64]) (ofL_msk _) ?_
  rintro ⟨x, m⟩ hx
  simp -implicitDefEqProofs
  refine brK_split (fun h => ?_) (fun h => ?_)
  · simp -implicitDefEqProofs at h
    simp -implicitDefEqProofs
    refine headK_of (x >>> 1, m <<< 1 ||| 1#64) ?_ ?_ ?_
    · simp -implicitDefEqProofs [St.keep]
    · simp only at hx; rw [ofL, dif_neg h] at hx; exact hx
    · have h1 : x.toNat ≠ 0 := fun e => h (BitVec.eq_of_toNat_eq (by simpa using e))
      simp only [BitVec.toNat_ushiftRight, Nat.shiftRight_eq_div_pow]
      omega
  · simp -implicitDefEqProofs at h
    subst h
    simp only at hx
    rw [ofL, dif_pos rfl] at hx
    simp -implicitDefEqProofs [tOf, kn, hx]

end Go.Proofs.Ytlonpljlojgclaa
