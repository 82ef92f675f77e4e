import Derived.Test.YtlonpljlojgclaaSt17
set_option linter.unusedSimpArgs false
set_option linter.unusedVariables false
set_option maxRecDepth 1000000
namespace Go.Proofs.Ytlonpljlojgclaa
open Go Go.Av

set_option maxHeartbeats 16000000 in
theorem k10 {p : Option (Nat × List Nat × Nat × TypeId)} {n c : Nat} {l : List Int} (ra : List Rg) (sa : List Sl) (ga ia id : Int) (null : Bool) (H : Heap) (hra : ra.length = 11) (hsa : sa.length = 64) (r : RefsAt H p n c l) (hl : l.length ≤ 17592186043904) :
    CallRuns Try.prog 10 [eSt ra sa ga (.sl p n c) ia, .int .i64 id, .bool null] H (.ret (.bool true)) H := by
  refine callRuns_trim (run10 (by simp) ?_) (by simp [clo, Out.val])
  simp -implicitDefEqProofs [-z35_S, z35', hra, hsa]
  obtain ⟨b, hb, _⟩ := k14 ra sa ga ia H hra hsa r (by omega)
  refine callK_ret hb ?_
  cases b
  · simp -implicitDefEqProofs
    refine callK_ret (k15 _) ?_
    simp -implicitDefEqProofs
  obtain ⟨p1, c1, D1, h1, w1⟩ := k38 ra sa ga ia H hra hsa r (by omega)
  have r1 := w1.refs
  have q1 := r.append (D := D1)
  have hrn : (ra.map (nullF id null)).length = 11 := by simpa using hra
  have hsn : (sa.map (eachS (nullF id null))).length = 64 := by simpa using hsa
  obtain ⟨p2, n2, c2, D2, h2, r2⟩ := k40 ra sa ga ia id null (H ++ D1) hra hsa q1 (by omega)
  obtain ⟨p3, n3, c3, D3, h3, r3⟩ := k41 ra sa ga ia id null (H ++ D1 ++ D2) hra hsa r1.append hl
  have hil : (if null then noId id l else l).length ≤ l.length := by split; exact noId_len _ _; exact Nat.le_refl _
  have h4 := k39 (ra.map (nullF id null)) (ra.map (nullF id null)) (sa.map (eachS (nullF id null))) (sa.map (eachS (nullF id null))) ga ga ia ia (H ++ D1 ++ D2 ++ D3) hrn hrn hsn hsn r2.append r3 (by omega)
  have hr5 : (ra.map (loseF (-1))).length = 11 := by simpa using hra
  have hs5 : (sa.map (loseS (-1))).length = 64 := by simpa using hsa
  obtain ⟨p5, c5, D5, h5, r5⟩ := k42 ra sa ga ia (H ++ D1 ++ D2 ++ D3) hra hsa (q1.append (D := D2)).append (by omega)
  rw [each_lose] at h5
  obtain ⟨p6, c6, D6, h6, r6⟩ := k43 ra sa ga ia (H ++ D1 ++ D2 ++ D3 ++ D5) hra hsa ((r1.append (D := D2)).append (D := D3)).append (by omega)
  have h7 := k39 (ra.map (loseF (-1))) (ra.map (loseF (-1))) (sa.map (loseS (-1))) (sa.map (loseS (-1))) 0 0 ia ia (H ++ D1 ++ D2 ++ D3 ++ D5 ++ D6) hr5 hr5 hs5 hs5 r5.append r6 (by omega)
  simp -implicitDefEqProofs [-z35_S, z35', hra, hsa]
  refine callK_ret h1 ?_
  simp -implicitDefEqProofs [-z35_S, z35', hra, hsa]
  refine callK_ret h2 ?_
  simp -implicitDefEqProofs [-List.map_map, -List.append_assoc, -z35_S, z35', hra, hsa]
  refine callK_ret h3 ?_
  simp -implicitDefEqProofs [-List.map_map, -List.append_assoc, -z35_S, z35', hra, hsa]
  refine callK_ret h4 ?_
  simp -implicitDefEqProofs [-List.map_map, -List.append_assoc, -z35_S, z35', hra, hsa]
  refine callK_ret h5 ?_
  simp -implicitDefEqProofs [-List.map_map, -List.append_assoc, -z35_S, z35', hra, hsa]
  refine callK_ret h6 ?_
  simp -implicitDefEqProofs [-List.map_map, -List.append_assoc, -z35_S, z35', hra, hsa]
  refine callK_ret h7 ?_
  have Q : ∀ D, RefsAt (H ++ D1 ++ D) p n c l := fun D => q1.append
  have R : ∀ D, RefsAt (H ++ D1 ++ D) p1 n c1 l := fun D => r1.append
  by_cases hid : id < 0
  · have h8 := k39 ra ra sa sa ga ga ia ia (H ++ D1 ++ (D2 ++ D3 ++ D5 ++ D6)) hra hra hsa hsa (Q _) (R _) (by omega)
    simp only [← List.append_assoc] at h8
    simp -implicitDefEqProofs [-List.map_map, -List.append_assoc, -z35_S, z35', hra, hsa, hid]
    refine callK_ret h8 ?_
    simp -implicitDefEqProofs [-List.map_map, -List.append_assoc]
    refine callK_ret (k15 _) ?_
    simp -implicitDefEqProofs
  · obtain ⟨p8, n8, c8, D8, h8, r8⟩ := k44 ra sa ga ia id hid (H ++ D1 ++ (D2 ++ D3 ++ D5 ++ D6)) hra hsa (Q _) (by omega)
    rw [each_lose] at h8
    obtain ⟨p9, n9, c9, D9, h9, r9⟩ := k45 ra sa ga ia id hid (H ++ D1 ++ (D2 ++ D3 ++ D5 ++ D6 ++ D8)) hra hsa (R _) hl
    have hr9 : (ra.map (loseF id)).length = 11 := by simpa using hra
    have hs9 : (sa.map (loseS id)).length = 64 := by simpa using hsa
    have hln : (noId id l).length ≤ l.length := noId_len _ _
    have r8' : RefsAt (H ++ D1 ++ (D2 ++ D3 ++ D5 ++ D6 ++ D8) ++ D9) p8 n8 c8 (noId id l) := by
      have := r8.append (D := D9)
      simpa only [← List.append_assoc] using this
    have h10 := k39 (ra.map (loseF id)) (ra.map (loseF id)) (sa.map (loseS id)) (sa.map (loseS id)) ga ga ia ia _ hr9 hr9 hs9 hs9 r8' r9 (by omega)
    have h11 := k39 ra ra sa sa ga ga ia ia (H ++ D1 ++ (D2 ++ D3 ++ D5 ++ D6 ++ D8 ++ D9)) hra hra hsa hsa (Q _) (R _) (by omega)
    simp only [← List.append_assoc] at h8 h9 h10 h11
    simp -implicitDefEqProofs [-List.map_map, -List.append_assoc, -z35_S, z35', hra, hsa, hid]
    refine callK_ret h8 ?_
    simp -implicitDefEqProofs [-List.map_map, -List.append_assoc, -z35_S, z35', hra, hsa]
    refine callK_ret h9 ?_
    simp -implicitDefEqProofs [-List.map_map, -List.append_assoc, -z35_S, z35', hra, hsa]
    refine callK_ret h10 ?_
    simp -implicitDefEqProofs [-List.map_map, -List.append_assoc, -z35_S, z35', hra, hsa]
    refine callK_ret h11 ?_
    simp -implicitDefEqProofs [-List.map_map, -List.append_assoc]
    refine callK_ret (k15 _) ?_
    simp -implicitDefEqProofs

theorem law10 : LawA Try.prog 10 [35, 3, 4] := by
  intro H vs h
  match vs, h.len, h.wt, h.ok, h.valid, h.ty with
  | [x, y, z], _, hw, hk, hv, ht =>
    simp only [okIL, Bool.and_eq_true] at hk
    simp only [validL] at hv
    obtain ⟨ra, sa, ga, p, n, c, ia, l, rfl, hra, hsa, hr, hl⟩ := state_of (H := H) (hw 0 x 35 rfl rfl) hk.1 hv.1 (ht 0 x 35 rfl rfl)
    obtain ⟨i, rfl, _⟩ := wt3' (hw 1 y 3 rfl rfl) hk.2.1
    obtain ⟨b, rfl⟩ := wt4' (hw 2 z 4 rfl rfl)
    exact ⟨H, k10 ra sa ga ia i b H hra hsa hr hl⟩

end Go.Proofs.Ytlonpljlojgclaa
