import Derived.Test.YtlonpljlojgclaaAvScal
set_option linter.unusedSimpArgs false
set_option linter.unusedVariables false
namespace Go.Av
open Go

/-! ## Plain laws of scalars -/

/-- One scalar's bounds lie within another's. -/
def Inb (x a : Sc) : Prop := a.lo ≤ x.lo ∧ x.hi ≤ a.hi

theorem Inb.refl (a : Sc) : Inb a a := ⟨BitVec.le_refl _, BitVec.le_refl _⟩
theorem Inb.trans {x y z : Sc} (h : Inb x y) (h' : Inb y z) : Inb x z := ⟨BitVec.le_trans h'.1 h.1, BitVec.le_trans h.2 h'.2⟩

theorem le_bmax_left (x y : BitVec 64) : x ≤ bmax x y := by unfold bmax; split <;> simp only [BitVec.le_def, BitVec.lt_def] at * <;> omega
theorem bmin_le_left (x y : BitVec 64) : bmin x y ≤ x := by unfold bmin; split <;> simp only [BitVec.le_def, BitVec.lt_def] at * <;> omega
theorem le_bmax_right (x y : BitVec 64) : y ≤ bmax x y := by unfold bmax; split <;> simp only [BitVec.le_def, BitVec.lt_def] at * <;> omega
theorem bmin_le_right (x y : BitVec 64) : bmin x y ≤ y := by unfold bmin; split <;> simp only [BitVec.le_def, BitVec.lt_def] at * <;> omega

theorem scRound_in {s t : Sc} (h : scRound s = some t) : Inb t s := by
  unfold scRound at h
  split at h
  · cases h
  · split at h
    · cases h; exact ⟨le_bmax_left _ _, bmin_le_left _ _⟩
    · cases h

theorem scRounds_in : ∀ (n : Nat) {s t : Sc}, scRounds n s = some t → Inb t s
  | 0, s, t, h => by simp only [scRounds, Option.some.injEq] at h; subst h; exact Inb.refl _
  | n + 1, s, t, h => by
      simp only [scRounds, Option.bind_eq_some_iff] at h
      obtain ⟨u, h1, h2⟩ := h
      exact (scRounds_in n h2).trans (scRound_in h1)

theorem scTight_in {s t : Sc} (h : scTight s = some t) : Inb t s := by
  unfold scTight at h
  split at h
  · exact scRounds_in 3 h
  · cases h

theorem scKnown_in {a b : Sc} {ok : Bool} (h : (scKnown a b ok).2.2 = true) : Inb (scKnown a b ok).1 a ∧ Inb (scKnown a b ok).2.1 b ∧ ok = true := by
  unfold scKnown at h ⊢
  split at h
  · rename_i hc
    rw [if_pos hc]
    simp only [Bool.and_eq_true] at hc
    obtain ⟨⟨h1, h2⟩, h3⟩ := hc
    obtain ⟨x, hx⟩ := Option.isSome_iff_exists.1 h2
    obtain ⟨y, hy⟩ := Option.isSome_iff_exists.1 h3
    simp only [hx, hy, Option.getD_some]
    exact ⟨scTight_in hx, scTight_in hy, h1⟩
  · simp at h

theorem scWithout_in {s : Sc} {n : BitVec 64} (h : (scWithout s n).2 = true) : Inb (scWithout s n).1 s := by
  unfold scWithout at h ⊢
  split at h
  · simp at h
  · rename_i h0
    rw [if_neg h0]
    have hlo : s.lo ≤ (if s.lo = n then s.lo + 1#64 else s.lo) := by
      split
      · rename_i e
        have h1 : s.lo ≠ 18446744073709551615#64 := fun e' => h0 (.inl ⟨e, e ▸ e'⟩)
        have h2 : s.lo.toNat ≠ 18446744073709551615 := fun e' => h1 (BitVec.eq_of_toNat_eq (by simpa using e'))
        simp only [BitVec.le_def, BitVec.toNat_add, BitVec.toNat_ofNat]
        omega
      · exact BitVec.le_refl _
    split at h
    · rename_i h3
      split at h
      · simp at h
      · rename_i h4
        rw [if_pos h3, if_neg h4]
        refine ⟨hlo, ?_⟩
        have h5 : s.hi.toNat ≠ 0 := fun e => h4 (h3 ▸ BitVec.eq_of_toNat_eq (by simpa using e))
        simp only [BitVec.le_def, BitVec.toNat_sub, BitVec.toNat_ofNat]
        omega
    · rename_i h3
      rw [if_neg h3]
      exact ⟨hlo, BitVec.le_refl _⟩

def Narrow (r : Sc × Sc × Bool) (a b : Sc) : Prop := r.2.2 = true → Inb r.1 a ∧ Inb r.2.1 b

theorem scDiffer1_in {a b : Sc} (h : (scDiffer1 a b).2 = true) : Inb (scDiffer1 a b).1 a := by
  unfold scDiffer1 at h ⊢
  simp only at h ⊢
  split at h
  · rename_i hc; rw [if_pos hc]; exact scWithout_in h
  · rename_i hc; rw [if_neg hc]; exact Inb.refl _

theorem scDiffer_in (a b : Sc) : Narrow (scDiffer a b) a b := by
  intro h
  unfold scDiffer at h ⊢
  split at h
  · rename_i hc
    rw [if_pos hc]
    simp only [Bool.and_eq_true] at hc
    obtain ⟨h1, h2, h3⟩ := scKnown_in h
    exact ⟨h1.trans (scDiffer1_in hc.2), h2.trans (scWithout_in h3)⟩
  · rename_i hc
    rw [if_neg hc]
    obtain ⟨h1, h2, h3⟩ := scKnown_in h
    exact ⟨h1.trans (scDiffer1_in h3), h2⟩

theorem scAbove_in (p : Int) (a b : Sc) : Narrow (scAbove p false a b) a b ∧ Narrow (scAbove p true a b) b a := by
  refine ⟨fun h => ?_, fun h => ?_⟩
  · simp only [scAbove, Bool.false_eq_true, if_false] at h ⊢
    obtain ⟨h1, h2, h3⟩ := scKnown_in h
    rw [h3] at h1 h2 ⊢
    simp only [if_true] at h1 h2 ⊢
    exact ⟨h1.trans ⟨le_bmax_left _ _, BitVec.le_refl _⟩, h2.trans ⟨BitVec.le_refl _, bmin_le_left _ _⟩⟩
  · simp only [scAbove, if_true] at h ⊢
    obtain ⟨h1, h2, h3⟩ := scKnown_in h
    rw [h3] at h1 h2 ⊢
    simp only [if_true] at h1 h2 ⊢
    exact ⟨h1.trans ⟨BitVec.le_refl _, bmin_le_left _ _⟩, h2.trans ⟨le_bmax_left _ _, BitVec.le_refl _⟩⟩

theorem scShares_in (a b : Sc) : Narrow (scShares a b) a b := by
  intro h
  simp only [scShares] at h ⊢
  obtain ⟨h1, h2, h3⟩ := scKnown_in h
  refine ⟨h1.trans ?_, h2⟩
  split
  · exact ⟨BitVec.le_refl _, BitVec.le_refl _⟩
  · exact Inb.refl _

theorem scApart_in (a b : Sc) : Narrow (scApart a b) a b := by
  intro h
  simp only [scApart] at h ⊢
  obtain ⟨h1, h2, h3⟩ := scKnown_in h
  refine ⟨h1.trans ?_, h2⟩
  split
  · exact ⟨BitVec.le_refl _, BitVec.le_refl _⟩
  · exact Inb.refl _

theorem scMain_in (p : Int) (a b : Sc) : Narrow (scMain p a b) a b := by
  unfold scMain
  split
  · exact (scAbove_in 32 b a).2
  · split
    · exact (scAbove_in 48 b a).2
    · split
      · intro h
        obtain ⟨h1, h2, h3⟩ := scKnown_in h
        exact ⟨h1.trans ⟨le_bmax_left _ _, bmin_le_left _ _⟩, h2.trans ⟨le_bmax_right _ _, bmin_le_right _ _⟩⟩
      · split
        · exact scDiffer_in a b
        · split
          · exact (scAbove_in p a b).1
          · split
            · exact scShares_in a b
            · exact scApart_in a b

theorem scRefine_in (op : Int) (wide : Bool) (a b : Sc) : Narrow (scRefine op wide a b) a b := by
  unfold scRefine
  split
  · exact fun _ => ⟨Inb.refl _, Inb.refl _⟩
  · exact scMain_in _ a b

theorem notF_notF (op : Int) (h : 0 ≤ notF op) : notF (notF op) = op := by
  unfold notF at h ⊢
  repeat' split at h
  all_goals first
    | (exfalso; omega)
    | (simp_all; done)
    | (subst_vars; decide)

end Go.Av
