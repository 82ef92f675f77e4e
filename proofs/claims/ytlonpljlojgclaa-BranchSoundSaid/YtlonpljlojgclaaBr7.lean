import Derived.Test.YtlonpljlojgclaaBr6
set_option linter.unusedSimpArgs false
set_option linter.unusedVariables false
set_option maxRecDepth 1000000
namespace Go.Proofs.Ytlonpljlojgclaa
open Go Go.Av

theorem from22 {Q : XE → St → Prop} {S : St} : SFrom Try.prog C22 s22_100 0 Q S = SWp Try.prog C22 s22_94 Q S := by
  simp only [SFrom_seq, SFrom_label, hasL, Bool.or_false, Bool.false_or, Bool.or_self, Bool.false_eq_true, if_false, if_true, beq_self_eq_true, thenK_normal]

set_option maxHeartbeats 8000000 in
theorem main22 (p : Int) (v m lo hi v' m' lo' hi' : BitVec 64) (tmp : List (Nat × AV)) (box : List (Nat × BoxC)) (H : Heap) (R : Out → Heap → Prop)
    (h0 : tget tmp 0 = .int .i64 p) (h6 : tget tmp 6 = .loc 6 [0] 26) (h7 : tget tmp 7 = .loc 7 [0] 26) (h8 : tget tmp 8 = .loc 8 [0] 26) (h9 : tget tmp 9 = .loc 9 [0] 26) (h12 : tget tmp 12 = .bool false)
    (b6 : bget box 6 = some (26, [.ag [.ag [u64 v, u64 m], u64 lo, u64 hi]])) (b7 : bget box 7 = some (26, [.ag [.ag [u64 v', u64 m'], u64 lo', u64 hi']])) (b8 : bget box 8 = some (26, [eS sz])) (b9 : bget box 9 = some (26, [eS sz]))
    (b15 : bget box 15 = none) (b16 : bget box 16 = none) (b18 : bget box 18 = none)
    (hR : ∀ D, R (.ret (e3 (scMain p ⟨⟨v, m⟩, lo, hi⟩ ⟨⟨v', m'⟩, lo', hi'⟩))) (H ++ D)) :
    SWp Try.prog C22 s22_94 (jumpK (fun l => SFrom Try.prog C22 s22_100 l) 1 (finK [.cell 8 26, .cell 9 26, .tmp 10] R)) ⟨tmp, box, H⟩ := by
  have hR0 := hR []
  rw [List.append_nil] at hR0
  by_cases p3248 : p = 32 ∨ p = 48
  · refine above22 p p3248 false v m lo hi v' m' lo' hi' tmp box H _ _ R h0 h6 h7 h8 h9 h12 b6 b7 b8 b9 b15 b16 b18 ?_
    rcases p3248 with rfl | rfl <;> simpa [scMain] using hR0
  have p32 : p ≠ 32 := fun e => p3248 (.inl e)
  have p48 : p ≠ 48 := fun e => p3248 (.inr e)
  simp -implicitDefEqProofs [h0, h6, h7, h8, h9, h12, b6, b7, b8, b9, b15, b16, b18]
  refine callK_ret (k67 _ _ _ _ _) ?_
  by_cases p160 : p = 160
  · subst p160
    simp -implicitDefEqProofs [h0, h6, h7, h8, h9, h12, b6, b7, b8, b9, b15, b16, b18]
    refine jump_keep [0, 6, 7, 8, 9, 12] [6, 7, 8, 9] (by simp -implicitDefEqProofs [St.keep, h0, h6, h7, h8, h9, h12, b6, b7, b8, b9, b15, b16, b18]; rfl) (by simp [tidy, u64]) ?_
    rw [from22]
    refine above22 32 (.inl rfl) true v' m' lo' hi' v m lo hi _ _ _ _ _ R (by simp) (by simp) (by simp) (by simp) (by simp) (by simp) (by simp) (by simp) (by simp) (by simp) (by simp) (by simp) (by simp) ?_
    simpa [scMain] using hR _
  by_cases p176 : p = 176
  · subst p176
    simp -implicitDefEqProofs [h0, h6, h7, h8, h9, h12, b6, b7, b8, b9, b15, b16, b18]
    refine jump_keep [0, 6, 7, 8, 9, 12] [6, 7, 8, 9] (by simp -implicitDefEqProofs [St.keep, h0, h6, h7, h8, h9, h12, b6, b7, b8, b9, b15, b16, b18]; rfl) (by simp [tidy, u64]) ?_
    rw [from22]
    refine above22 48 (.inr rfl) true v' m' lo' hi' v m lo hi _ _ _ _ _ R (by simp) (by simp) (by simp) (by simp) (by simp) (by simp) (by simp) (by simp) (by simp) (by simp) (by simp) (by simp) (by simp) ?_
    simpa [scMain] using hR _
  by_cases p16 : p = 16
  · subst p16
    simp -implicitDefEqProofs [h0, h6, h7, h8, h9, h12, b6, b7, b8, b9, b15, b16, b18]
    refine callK_ret (k68 _ _ _ _ _) ?_
    simp -implicitDefEqProofs [h0, h6, h7, h8, h9, h12, b6, b7, b8, b9, b15, b16, b18]
    refine callK_ret (k69 _ _ _ _ _ _ _ _ _ _) ?_
    simpa -implicitDefEqProofs [h0, h6, h7, h8, h9, h12, b6, b7, b8, b9, b15, b16, b18, scMain] using hR0
  by_cases p80 : p = 80
  · subst p80
    simp -implicitDefEqProofs [h0, h6, h7, h8, h9, h12, b6, b7, b8, b9, b15, b16, b18]
    refine callK_ret (k70 _ _ _ _ _ _ _ _ _) ?_
    simpa -implicitDefEqProofs [h0, h6, h7, h8, h9, h12, b6, b7, b8, b9, b15, b16, b18, scMain] using hR0
  by_cases p64 : p = 64
  · subst p64
    simp [scMain, scShares] at hR0
    by_cases q1 : m' = 0#64
    · have hc : ∀ v', scOnly ⟨⟨v', m'⟩, lo', hi'⟩ = some v' := fun v' => by simp [scOnly, q1]
      by_cases q2 : v' = 0#64 <;> by_cases q3 : v' &&& (v' - 1#64) = 0#64 <;> simp -implicitDefEqProofs [h0, h6, h7, h8, h9, h12, b6, b7, b8, b9, b15, b16, b18, hc, q2, q3] at hR0 ⊢
      all_goals refine callK_ret (k69 _ _ _ _ _ _ _ _ _ _) ?_
      all_goals simpa -implicitDefEqProofs [h0, h6, h7, h8, h9, h12, b6, b7, b8, b9, b15, b16, b18] using hR0
    · have hc : scOnly ⟨⟨v', m'⟩, lo', hi'⟩ = none := by simp [scOnly, q1]
      simp -implicitDefEqProofs [h0, h6, h7, h8, h9, h12, b6, b7, b8, b9, b15, b16, b18, hc] at hR0 ⊢
      refine callK_ret (k69 _ _ _ _ _ _ _ _ _ _) ?_
      simpa -implicitDefEqProofs [h0, h6, h7, h8, h9, h12, b6, b7, b8, b9, b15, b16, b18] using hR0
  · simp [scMain, scApart, p160, p176, p16, p80, p32, p48, p64] at hR0
    by_cases q1 : m' = 0#64
    · have hc : ∀ v', scOnly ⟨⟨v', m'⟩, lo', hi'⟩ = some v' := fun v' => by simp [scOnly, q1]
      simp -implicitDefEqProofs [h0, h6, h7, h8, h9, h12, b6, b7, b8, b9, b15, b16, b18, hc, p160, p176, p16, p80, p32, p48, p64] at hR0 ⊢
      refine callK_ret (k69 _ _ _ _ _ _ _ _ _ _) ?_
      simpa -implicitDefEqProofs [h0, h6, h7, h8, h9, h12, b6, b7, b8, b9, b15, b16, b18] using hR0
    · have hc : scOnly ⟨⟨v', m'⟩, lo', hi'⟩ = none := by simp [scOnly, q1]
      simp -implicitDefEqProofs [h0, h6, h7, h8, h9, h12, b6, b7, b8, b9, b15, b16, b18, hc, p160, p176, p16, p80, p32, p48, p64] at hR0 ⊢
      refine callK_ret (k69 _ _ _ _ _ _ _ _ _ _) ?_
      simpa -implicitDefEqProofs [h0, h6, h7, h8, h9, h12, b6, b7, b8, b9, b15, b16, b18] using hR0

end Go.Proofs.Ytlonpljlojgclaa
