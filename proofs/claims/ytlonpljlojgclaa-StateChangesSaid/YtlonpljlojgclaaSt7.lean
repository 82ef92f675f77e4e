import Derived.Test.YtlonpljlojgclaaSt6
set_option linter.unusedSimpArgs false
set_option linter.unusedVariables false
set_option maxRecDepth 1000000
namespace Go.Proofs.Ytlonpljlojgclaa
open Go Go.Av

def ar2 : Rg := ⟨1, ⟨⟨0#64, 255#64⟩, 0#64, 255#64⟩, 0, 0, 0⟩
def br2 : Rg := ⟨1, ⟨⟨7#64, 0#64⟩, 7#64, 7#64⟩, 0, 0, 0⟩
def br0 : Rg := ⟨8, sz, 0, 3, 0⟩
def aR : List Rg := beginR.set 2 ar2
def bR1 : List Rg := beginR.set 2 br2
def bR : List Rg := bR1.set 0 br0
theorem aR_len : aR.length = 11 := by simp [aR, beginR_len]
theorem bR1_len : bR1.length = 11 := by simp [bR1, beginR_len]
theorem bR_len : bR.length = 11 := by simp [bR, bR1_len]
theorem setA : (beginR.map eR).set 2 (.ag [.int .i64 1, .ag [.ag [u64 0#64, u64 255#64], u64 0#64, u64 255#64], .int .i64 0, .int .i64 0, .int .i64 0]) = aR.map eR := by
  rw [aR, List.map_set]; rfl
theorem setB1 : (beginR.map eR).set 2 (.ag [.int .i64 1, .ag [.ag [u64 7#64, u64 0#64], u64 7#64, u64 7#64], .int .i64 0, .int .i64 0, .int .i64 0]) = bR1.map eR := by
  rw [bR1, List.map_set]; rfl
theorem setB : (bR1.map eR).set 0 (.ag [.int .i64 8, .ag [.ag [u64 0#64, u64 0#64], u64 0#64, u64 0#64], .int .i64 0, .int .i64 3, .int .i64 0]) = bR.map eR := by
  rw [bR, List.map_set]; rfl
theorem inAB : inF aR bR lz64 lz64 [] [] 0 0 = true := by decide +kernel
theorem inBA : inF bR aR lz64 lz64 [] [] 0 0 = false := by decide +kernel
theorem abne : ¬ aR = bR := by decide +kernel
theorem beginR2 : ∃ r, beginR[2]? = some r := ⟨_, rfl⟩
theorem bR1_0 : ∃ r, bR1[0]? = some r := ⟨_, rfl⟩
theorem bR_0 : bR[0]? = some br0 := rfl
theorem aR_10 : aR[10]? = some ⟨3, scConst 512#64, 0, 0, 0⟩ := rfl
theorem br0_kind : br0.kind = 8 := rfl
theorem beginR_10 : beginR[10]? = some ⟨3, scConst 512#64, 0, 0, 0⟩ := rfl
theorem null_br0 : nullF 3 false br0 = ⟨7, sz, 0, 3, 0⟩ := by decide +kernel
theorem cast8 : scCast ⟨⟨0#64, 18446744073709551615#64⟩, 0#64, 18446744073709551615#64⟩ 8 = ⟨⟨0#64, 255#64⟩, 0#64, 255#64⟩ := by decide +kernel
theorem refs0 (H : Heap) : RefsAt H none 0 0 [] := ⟨rfl, Nat.le_refl _, rfl⟩

set_option maxHeartbeats 8000000 in
theorem k15 (H : Heap) : CallRuns Try.prog 15 [] H (.ret (.bool true)) H := by
  refine callRuns_trim (run15 (by simp) ?_) (by simp [clo, Out.val])
  obtain ⟨x2, hx2⟩ := beginR2
  obtain ⟨y0, hy0⟩ := bR1_0
  simp -implicitDefEqProofs [-z35_S, z35']
  refine callK_ret (k52 _) ?_
  simp -implicitDefEqProofs [-z35_S, z35']
  refine callK_ret (k52 _) ?_
  simp -implicitDefEqProofs [-z35_S, z35', beginR_len, lz64_len]
  refine callK_ret (k20 _) ?_
  simp -implicitDefEqProofs [scUnknown]
  refine callK_ret (k53 _ _ _ _ _ _) ?_
  simp -implicitDefEqProofs [cast8, hx2, setA]
  refine callK_ret (k54 _ _) ?_
  simp -implicitDefEqProofs [hx2, setB1, hy0, setB, bR_len, lz64_len]
  obtain ⟨p', c', D, h1, h2⟩ := k40f bR lz64 0 0 3 H bR_len lz64_len (refs0 H) (by simp)
  refine callK_ret h1 ?_
  simp -implicitDefEqProofs [-z35_S, z35', -List.map_map, bR_len, lz64_len, aR_len]
  refine callK_ret (k17 aR bR lz64 lz64 0 0 0 0 _ aR_len bR_len lz64_len lz64_len (refs0 _) (refs0 _) (by simp)) ?_
  simp -implicitDefEqProofs [inAB]
  refine callK_ret (k17 bR aR lz64 lz64 0 0 0 0 _ bR_len aR_len lz64_len lz64_len (refs0 _) (refs0 _) (by simp)) ?_
  simp -implicitDefEqProofs [inBA]
  refine callK_ret (k19 aR aR lz64 lz64 0 0 0 0 _ aR_len aR_len lz64_len lz64_len (refs0 _) (refs0 _) (by simp)) ?_
  simp -implicitDefEqProofs
  refine callK_ret (k19 aR bR lz64 lz64 0 0 0 0 _ aR_len bR_len lz64_len lz64_len (refs0 _) (refs0 _) (by simp)) ?_
  simp -implicitDefEqProofs [-List.map_map, abne, bR_0, null_br0, br0_kind, aR_10, beginR_10, scConst]
  refine callK_ret (k54 _ _) ?_
  simp -implicitDefEqProofs [br0]

end Go.Proofs.Ytlonpljlojgclaa
