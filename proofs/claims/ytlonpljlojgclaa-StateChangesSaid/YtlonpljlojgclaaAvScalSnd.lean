import Derived.Test.YtlonpljlojgclaaAvScalLaw
set_option linter.unusedSimpArgs false
set_option linter.unusedVariables false
namespace Go.Av
open Go

/-! ## Which numbers a scalar has -/

def tHas (t : Tn) (x : BitVec 64) : Bool := decide ((x ^^^ t.v) &&& ~~~t.m = 0#64)
def scHas (s : Sc) (x : BitVec 64) : Bool := tHas s.t x && decide (s.lo ≤ x) && decide (x ≤ s.hi)

def May (t : Tn) : Prop := t.v &&& t.m = 0#64

theorem bit_of {a b : BitVec 64} (h : a = b) (i : Nat) : a.getLsbD i = b.getLsbD i := by rw [h]

theorem kn_may (v u : BitVec 64) : May (kn v u) := by
  unfold May kn
  ext i hi
  simp

theorem tHas_iff {t : Tn} {x : BitVec 64} : tHas t x = true ↔ ∀ i : Nat, i < 64 → t.m.getLsbD i = false → x.getLsbD i = t.v.getLsbD i := by
  simp only [tHas, decide_eq_true_eq]
  constructor
  · intro h i hi hm
    have := bit_of h i
    simp only [BitVec.getLsbD_and, BitVec.getLsbD_or, BitVec.getLsbD_xor, BitVec.getLsbD_not, BitVec.getLsbD_zero, decide_true, Bool.true_and, hi, hm] at this
    revert this; cases x.getLsbD i <;> cases t.v.getLsbD i <;> simp
  · intro h
    apply BitVec.eq_of_getLsbD_eq
    intro i hi
    have := h i hi
    simp only [BitVec.getLsbD_and, BitVec.getLsbD_or, BitVec.getLsbD_xor, BitVec.getLsbD_not, BitVec.getLsbD_zero, decide_true, Bool.true_and, hi]
    revert this; cases t.m.getLsbD i <;> cases x.getLsbD i <;> cases t.v.getLsbD i <;> simp

theorem May_iff {t : Tn} : May t ↔ ∀ i : Nat, i < 64 → t.v.getLsbD i = true → t.m.getLsbD i = false := by
  unfold May
  constructor
  · intro h i hi hv
    have := bit_of h i
    simp only [BitVec.getLsbD_and, BitVec.getLsbD_or, BitVec.getLsbD_xor, BitVec.getLsbD_not, BitVec.getLsbD_zero, decide_true, Bool.true_and, hv] at this
    exact this
  · intro h
    apply BitVec.eq_of_getLsbD_eq
    intro i hi
    have := h i hi
    simp only [BitVec.getLsbD_and, BitVec.getLsbD_or, BitVec.getLsbD_xor, BitVec.getLsbD_not, BitVec.getLsbD_zero, decide_true, Bool.true_and, hi]
    revert this; cases t.m.getLsbD i <;> cases t.v.getLsbD i <;> simp

/-- A number whose bits are among another's is no greater. -/
theorem le_of_bits {x y : BitVec 64} (h : ∀ i : Nat, i < 64 → x.getLsbD i = true → y.getLsbD i = true) : x ≤ y := by
  have e : x &&& y = x := by
    apply BitVec.eq_of_getLsbD_eq
    intro i hi
    have := h i hi
    simp only [BitVec.getLsbD_and, BitVec.getLsbD_or, BitVec.getLsbD_xor, BitVec.getLsbD_not, BitVec.getLsbD_zero, decide_true, Bool.true_and, hi]
    revert this; cases x.getLsbD i <;> cases y.getLsbD i <;> simp
  rw [BitVec.le_def, ← e, BitVec.toNat_and]
  exact Nat.and_le_right

theorem tHas_low {t : Tn} {x : BitVec 64} (hm : May t) (h : tHas t x = true) : t.v ≤ x := by
  rw [tHas_iff] at h; rw [May_iff] at hm
  refine le_of_bits (fun i hi hv => ?_)
  rw [h i hi (hm i hi hv), hv]

theorem tHas_high {t : Tn} {x : BitVec 64} (h : tHas t x = true) : x ≤ t.v ||| t.m := by
  rw [tHas_iff] at h
  refine le_of_bits (fun i hi hv => ?_)
  have := h i hi
  simp only [BitVec.getLsbD_and, BitVec.getLsbD_or, BitVec.getLsbD_xor, BitVec.getLsbD_not, BitVec.getLsbD_zero, decide_true, Bool.true_and, hi]
  revert this hv; cases t.m.getLsbD i <;> cases x.getLsbD i <;> cases t.v.getLsbD i <;> simp

theorem tmeet_has {a b : Tn} {x : BitVec 64} (ma : May a) (mb : May b) (ha : tHas a x = true) (hb : tHas b x = true) : (tmeet a b).2 = true ∧ tHas (tmeet a b).1 x = true ∧ May (tmeet a b).1 := by
  rw [tHas_iff] at ha hb
  rw [May_iff] at ma mb
  have h0 : (a.v ^^^ b.v) &&& ~~~(a.m ||| b.m) = 0#64 := by
    apply BitVec.eq_of_getLsbD_eq
    intro i hi
    have h1 := ha i hi
    have h2 := hb i hi
    simp only [BitVec.getLsbD_and, BitVec.getLsbD_or, BitVec.getLsbD_xor, BitVec.getLsbD_not, BitVec.getLsbD_zero, decide_true, Bool.true_and, hi]
    revert h1 h2
    cases a.m.getLsbD i <;> cases b.m.getLsbD i <;> cases a.v.getLsbD i <;> cases b.v.getLsbD i <;> cases x.getLsbD i <;> simp
  unfold tmeet
  rw [if_pos h0]
  refine ⟨rfl, ?_, kn_may _ _⟩
  rw [tHas_iff]
  intro i hi
  have h1 := ha i hi
  have h2 := hb i hi
  have h3 := bit_of h0 i
  have h4 := ma i hi
  have h5 := mb i hi
  simp only [BitVec.getLsbD_and, BitVec.getLsbD_or, BitVec.getLsbD_xor, BitVec.getLsbD_not, BitVec.getLsbD_zero, decide_true, Bool.true_and, hi] at h3
  simp only [BitVec.getLsbD_and, BitVec.getLsbD_or, BitVec.getLsbD_xor, BitVec.getLsbD_not, BitVec.getLsbD_zero, decide_true, Bool.true_and, kn, hi]
  revert h1 h2 h3 h4 h5
  cases a.m.getLsbD i <;> cases b.m.getLsbD i <;> cases a.v.getLsbD i <;> cases b.v.getLsbD i <;> cases x.getLsbD i <;> simp

theorem msk_bit (x : BitVec 64) (i : Nat) : (msk x).getLsbD i = decide (i < blen x) := by
  have hl := blen_le x
  have e := shl_len hl
  unfold msk
  rw [← BitVec.testBit_toNat, e]
  exact Nat.testBit_two_pow_sub_one _ _

theorem shr_eq_of_bits {x y : Nat} {n : Nat} (h : ∀ i, n ≤ i → x.testBit i = y.testBit i) : x / 2 ^ n = y / 2 ^ n := by
  rw [← Nat.shiftRight_eq_div_pow, ← Nat.shiftRight_eq_div_pow]
  apply Nat.eq_of_testBit_eq
  intro i
  rw [Nat.testBit_shiftRight, Nat.testBit_shiftRight]
  exact h _ (by omega)

theorem bits_of_shr {x y : Nat} {n : Nat} (h : x / 2 ^ n = y / 2 ^ n) (i : Nat) (hi : n ≤ i) : x.testBit i = y.testBit i := by
  rw [← Nat.shiftRight_eq_div_pow, ← Nat.shiftRight_eq_div_pow] at h
  have := congrArg (fun z => Nat.testBit z (i - n)) h
  simp only [Nat.testBit_shiftRight] at this
  rwa [show n + (i - n) = i from by omega] at this

/-- A number between two is one of theirs. -/
theorem tOf_has {lo hi x : BitVec 64} (h1 : lo ≤ x) (h2 : x ≤ hi) : tHas (tOf lo hi) x = true := by
  rw [tHas_iff]
  intro i hi' hm
  simp only [tOf, kn, msk_bit, decide_eq_false_iff_not] at hm ⊢
  simp only [BitVec.getLsbD_and, BitVec.getLsbD_or, BitVec.getLsbD_xor, BitVec.getLsbD_not, BitVec.getLsbD_zero, decide_true, Bool.true_and, hi', msk_bit, hm, decide_false, Bool.not_false, Bool.and_true]
  have e : lo.toNat / 2 ^ blen (lo ^^^ hi) = hi.toNat / 2 ^ blen (lo ^^^ hi) := by
    apply shr_eq_of_bits
    intro j hj
    have hlt := (isLen_blen (lo ^^^ hi)).1
    have h3 : (lo ^^^ hi).toNat.testBit j = false := Nat.testBit_lt_two_pow (Nat.lt_of_lt_of_le hlt (Nat.pow_le_pow_right (by decide) hj))
    rw [BitVec.toNat_xor, Nat.testBit_xor] at h3
    revert h3; cases lo.toNat.testBit j <;> cases hi.toNat.testBit j <;> simp
  have e2 : x.toNat / 2 ^ blen (lo ^^^ hi) = lo.toNat / 2 ^ blen (lo ^^^ hi) := by
    apply Nat.le_antisymm
    · rw [e]; exact Nat.div_le_div_right h2
    · exact Nat.div_le_div_right h1
  have := bits_of_shr e2 i (by omega)
  rwa [BitVec.testBit_toNat, BitVec.testBit_toNat] at this

theorem bmax_le {x y z : BitVec 64} (h1 : x ≤ z) (h2 : y ≤ z) : bmax x y ≤ z := by unfold bmax; split <;> assumption
theorem le_bmin {x y z : BitVec 64} (h1 : z ≤ x) (h2 : z ≤ y) : z ≤ bmin x y := by unfold bmin; split <;> assumption

theorem scHas_iff {s : Sc} {x : BitVec 64} : scHas s x = true ↔ tHas s.t x = true ∧ s.lo ≤ x ∧ x ≤ s.hi := by
  simp [scHas, and_assoc]

theorem scRound_has {s : Sc} {x : BitVec 64} (hm : May s.t) (h : scHas s x = true) : ∃ t, scRound s = some t ∧ May t.t ∧ scHas t x = true := by
  obtain ⟨h1, h2, h3⟩ := scHas_iff.1 h
  have a1 := bmax_le h2 (tHas_low hm h1)
  have a2 := le_bmin h3 (tHas_high h1)
  have a3 := tmeet_has (b := tOf _ _) hm (kn_may _ _) h1 (tOf_has a1 a2)
  unfold scRound
  rw [if_neg (BitVec.not_lt.2 (BitVec.le_trans a1 a2)), if_pos a3.1]
  exact ⟨_, rfl, a3.2.2, scHas_iff.2 ⟨a3.2.1, a1, a2⟩⟩

theorem scRounds_has : ∀ (n : Nat) {s : Sc} {x : BitVec 64}, May s.t → scHas s x = true → ∃ t, scRounds n s = some t ∧ May t.t ∧ scHas t x = true
  | 0, s, x, hm, h => ⟨s, rfl, hm, h⟩
  | n + 1, s, x, hm, h => by
      obtain ⟨t, h1, h2, h3⟩ := scRound_has hm h
      obtain ⟨u, h4, h5, h6⟩ := scRounds_has n h2 h3
      exact ⟨u, by simp [scRounds, h1, h4], h5, h6⟩

theorem scTight_has {s : Sc} {x : BitVec 64} (hm : May s.t) (h : scHas s x = true) : ∃ t, scTight s = some t ∧ scHas t x = true := by
  obtain ⟨t, h1, _, h2⟩ := scRounds_has 3 hm h
  have hm' : s.t.v &&& s.t.m = 0#64 := hm
  exact ⟨t, by simp [scTight, hm', h1], h2⟩

theorem scTight_may {s t : Sc} (h : scTight s = some t) : May t.t := by
  unfold scTight at h
  split at h
  · rename_i h0
    have : ∀ (n : Nat) (s t : Sc), May s.t → scRounds n s = some t → May t.t := by
      intro n
      induction n with
      | zero => intro s t hm h; simp only [scRounds, Option.some.injEq] at h; subst h; exact hm
      | succ n ih =>
        intro s t hm h
        simp only [scRounds, Option.bind_eq_some_iff] at h
        obtain ⟨u, h1, h2⟩ := h
        refine ih u t ?_ h2
        unfold scRound at h1
        split at h1
        · cases h1
        · split at h1
          · cases h1
            simp only [tmeet]
            split
            · exact kn_may _ _
            · simp [May]
          · cases h1
    exact this 3 s t h0 h
  · cases h

theorem scWide_may (s : Sc) : May (scWide s).t := by
  unfold scWide
  simp only
  split
  · rename_i t ht
    split
    · exact scTight_may ht
    · simp [scConst, May]
  · simp [scConst, May]

/-! ### What is told keeps the numbers of which a test is true -/

def Keeps (r : Sc × Sc × Bool) (x y : BitVec 64) : Prop := r.2.2 = true ∧ scHas r.1 x = true ∧ scHas r.2.1 y = true

theorem scKnown_has {a b : Sc} {x y : BitVec 64} (ma : May a.t) (mb : May b.t) (ha : scHas a x = true) (hb : scHas b y = true) : Keeps (scKnown a b true) x y := by
  obtain ⟨t, h1, h2⟩ := scTight_has ma ha
  obtain ⟨u, h3, h4⟩ := scTight_has mb hb
  simp [scKnown, h1, h3, Keeps, h2, h4]

theorem scOnly_has {s : Sc} {x c : BitVec 64} (h : scHas s x = true) (hc : scOnly s = some c) : x = c := by
  obtain ⟨h1, _, _⟩ := scHas_iff.1 h
  unfold scOnly at hc
  split at hc
  · rename_i h0
    cases hc
    rw [tHas_iff] at h1
    apply BitVec.eq_of_getLsbD_eq
    intro i hi
    exact h1 i hi (by rw [h0]; exact BitVec.getLsbD_zero)
  · cases hc

theorem scWithout_has {s : Sc} {n x : BitVec 64} (h : scHas s x = true) (hx : x ≠ n) : (scWithout s n).2 = true ∧ scHas (scWithout s n).1 x = true ∧ (scWithout s n).1.t = s.t := by
  obtain ⟨h1, h2, h3⟩ := scHas_iff.1 h
  have hx' : x.toNat ≠ n.toNat := fun e => hx (BitVec.eq_of_toNat_eq e)
  simp only [BitVec.le_def] at h2 h3
  have xl := x.isLt
  have c1 : ¬ ((s.lo = n ∧ n = 18446744073709551615#64) ∨ (s.hi = n ∧ n = 0#64 ∧ ¬ s.lo = n)) := by
    rintro (⟨e1, e2⟩ | ⟨e1, e2, _⟩)
    · rw [e1, e2] at h2; rw [e2] at hx'; simp at h2 hx'; omega
    · rw [e1, e2] at h3; rw [e2] at hx'; simp at h3 hx'; omega
  have lo1 : (if s.lo = n then s.lo + 1#64 else s.lo).toNat ≤ x.toNat := by
    split
    · rename_i e
      rw [e] at h2 ⊢
      rw [BitVec.toNat_add]
      simp
      omega
    · exact h2
  unfold scWithout
  rw [if_neg c1]
  split
  · rename_i e
    rw [e] at h3
    have hn : n ≠ 0#64 := by rintro rfl; simp at h3 hx'; omega
    have hn' : n.toNat ≠ 0 := fun e => hn (BitVec.eq_of_toNat_eq (by simpa using e))
    rw [if_neg hn]
    have hi1 : x.toNat ≤ (s.hi - 1#64).toNat := by
      rw [e, BitVec.toNat_sub]
      simp
      omega
    refine ⟨by simp only [decide_eq_true_eq, BitVec.le_def]; omega, scHas_iff.2 ⟨h1, ?_, ?_⟩, rfl⟩
    · exact lo1
    · exact hi1
  · refine ⟨by simp only [decide_eq_true_eq, BitVec.le_def]; omega, scHas_iff.2 ⟨h1, ?_, ?_⟩, rfl⟩
    · exact lo1
    · exact h3

theorem scDiffer_has {a b : Sc} {x y : BitVec 64} (ma : May a.t) (mb : May b.t) (ha : scHas a x = true) (hb : scHas b y = true) (hxy : x ≠ y) : Keeps (scDiffer a b) x y := by
  have d1 : (scDiffer1 a b).2 = true ∧ scHas (scDiffer1 a b).1 x = true ∧ (scDiffer1 a b).1.t = a.t := by
    unfold scDiffer1
    cases h1 : scOnly b with
    | none => simp [ha]
    | some c =>
      have e1 := scOnly_has hb h1
      subst e1
      cases h2 : scOnly a with
      | none => simpa using scWithout_has ha hxy
      | some d =>
        have e2 := scOnly_has ha h2
        subst e2
        simpa [hxy] using scWithout_has ha hxy
  obtain ⟨p1, p2, p3⟩ := d1
  unfold scDiffer
  cases h2 : scOnly a with
  | none =>
    simp only [Option.isSome_none, Bool.false_and, Bool.false_eq_true, if_false, p1]
    exact scKnown_has (by rw [p3]; exact ma) mb p2 hb
  | some d =>
    have e2 := scOnly_has ha h2
    subst e2
    obtain ⟨q1, q2, q3⟩ := scWithout_has hb (fun e => hxy e.symm)
    simp only [Option.isSome_some, Bool.true_and, p1, if_true, Option.getD_some, q1]
    exact scKnown_has (by rw [p3]; exact ma) (by rw [q3]; exact mb) p2 q2

theorem scAbove_has {p : Int} {a b : Sc} {x y : BitVec 64} (ma : May a.t) (mb : May b.t) (ha : scHas a x = true) (hb : scHas b y = true)
    (hp : (p = 32 ∧ y < x) ∨ (p = 48 ∧ y ≤ x)) : Keeps (scAbove p false a b) x y ∧ Keeps (scAbove p true a b) y x := by
  obtain ⟨a1, a2, a3⟩ := scHas_iff.1 ha
  obtain ⟨b1, b2, b3⟩ := scHas_iff.1 hb
  have key : (decide (p = 48) || (decide (b.lo ≠ 18446744073709551615#64) && decide (a.hi ≠ 0#64))) = true ∧
      scHas ⟨a.t, bmax a.lo (b.lo + (if p = 32 then 1#64 else 0#64)), a.hi⟩ x = true ∧ scHas ⟨b.t, b.lo, bmin b.hi (a.hi - (if p = 32 then 1#64 else 0#64))⟩ y = true := by
    simp only [BitVec.le_def, BitVec.lt_def] at a2 a3 b2 b3 hp
    have xl := x.isLt
    have yl := y.isLt
    rcases hp with ⟨rfl, h⟩ | ⟨rfl, h⟩
    · have c1 : b.lo ≠ 18446744073709551615#64 := by intro e; rw [e] at b2; simp at b2; omega
      have c2 : a.hi ≠ 0#64 := by intro e; rw [e] at a3; simp at a3; omega
      have c2' : a.hi.toNat ≠ 0 := fun e => c2 (BitVec.eq_of_toNat_eq (by simpa using e))
      refine ⟨by simp [c1, c2], scHas_iff.2 ⟨a1, bmax_le a2 ?_, a3⟩, scHas_iff.2 ⟨b1, b2, le_bmin b3 ?_⟩⟩
      · simp only [if_true, BitVec.le_def, BitVec.toNat_add, BitVec.toNat_ofNat]; omega
      · simp only [if_true, BitVec.le_def, BitVec.toNat_sub, BitVec.toNat_ofNat]; omega
    · refine ⟨by simp, scHas_iff.2 ⟨a1, bmax_le a2 ?_, a3⟩, scHas_iff.2 ⟨b1, b2, le_bmin b3 ?_⟩⟩
      · simp [BitVec.le_def]; omega
      · simp [BitVec.le_def]; omega
  obtain ⟨k1, k2, k3⟩ := key
  unfold scAbove
  simp only [k1, if_true, Bool.false_eq_true, if_false]
  exact ⟨scKnown_has ma mb k2 k3, scKnown_has mb ma k3 k2⟩

theorem and_ne_zero {x y : BitVec 64} (h : x &&& y ≠ 0#64) : ∃ i, i < 64 ∧ x.getLsbD i = true ∧ y.getLsbD i = true := by
  refine Classical.byContradiction (fun hn => h ?_)
  apply BitVec.eq_of_getLsbD_eq
  intro i hi
  simp only [BitVec.getLsbD_and, BitVec.getLsbD_or, BitVec.getLsbD_xor, BitVec.getLsbD_not, BitVec.getLsbD_zero, decide_true, Bool.true_and, hi]
  cases h1 : x.getLsbD i
  · rfl
  · cases h2 : y.getLsbD i
    · rfl
    · exact absurd ⟨i, hi, h1, h2⟩ hn

theorem scShares_has {a b : Sc} {x y : BitVec 64} (ma : May a.t) (mb : May b.t) (ha : scHas a x = true) (hb : scHas b y = true) (hxy : x &&& y ≠ 0#64) : Keeps (scShares a b) x y := by
  obtain ⟨a1, a2, a3⟩ := scHas_iff.1 ha
  obtain ⟨b1, b2, b3⟩ := scHas_iff.1 hb
  have c0 : (a.t.v ||| a.t.m) &&& (b.t.v ||| b.t.m) ≠ 0#64 := by
    intro h0
    obtain ⟨i, hi, h1, h2⟩ := and_ne_zero hxy
    rw [tHas_iff] at a1 b1
    have h3 := a1 i hi
    have h4 := b1 i hi
    have h5 := bit_of h0 i
    simp only [BitVec.getLsbD_and, BitVec.getLsbD_or, BitVec.getLsbD_xor, BitVec.getLsbD_not, BitVec.getLsbD_zero, decide_true, Bool.true_and, hi] at h5
    rw [h1] at h3; rw [h2] at h4
    revert h3 h4 h5
    cases a.t.m.getLsbD i <;> cases b.t.m.getLsbD i <;> cases a.t.v.getLsbD i <;> cases b.t.v.getLsbD i <;> simp
  unfold scShares
  simp only [c0, ne_eq, not_false_eq_true, decide_true]
  cases hc : scOnly b with
  | none => simpa using scKnown_has ma mb ha hb
  | some c =>
    have e := scOnly_has hb hc
    subst e
    simp only [Option.isSome_some, Option.getD_some, Bool.true_and, Bool.and_eq_true, decide_eq_true_eq]
    split
    · rename_i hp
      obtain ⟨hp1, hp2⟩ := hp
      -- y is one bit, and x has it
      have hb1 : ∀ i, i < 64 → y.getLsbD i = true → x.getLsbD i = true := by
        obtain ⟨j, hj, h1, h2⟩ := and_ne_zero hxy
        intro i hi hyi
        by_cases hij : i = j
        · subst hij; exact h1
        · exfalso
          -- two bits of y: y and y - 1 share the higher one
          have two : ∀ p q : Nat, p < q → q < 64 → y.getLsbD p = true → y.getLsbD q = true → False := by
            intro p q hpq hq h5 h6
            have hlt : 2 ^ p ≤ y.toNat % 2 ^ q := by
              have : (y.toNat % 2 ^ q).testBit p = true := by
                rw [Nat.testBit_mod_two_pow]; simp [hpq, BitVec.testBit_toNat, h5]
              exact Nat.ge_two_pow_of_testBit this
            have hpp : 0 < 2 ^ p := Nat.two_pow_pos p
            have e1 : (y - 1#64).toNat = y.toNat - 1 := by
              rw [BitVec.toNat_sub]
              have := y.isLt
              have := Nat.mod_le y.toNat (2 ^ q)
              simp
              omega
            have e2 : (y.toNat - 1) / 2 ^ q = y.toNat / 2 ^ q := by
              have hq0 : 0 < 2 ^ q := Nat.two_pow_pos q
              have h7 := Nat.div_add_mod y.toNat (2 ^ q)
              rw [Nat.div_eq_iff hq0]
              have h8 := Nat.mod_lt y.toNat hq0
              have h9 : y.toNat / 2 ^ q * 2 ^ q = 2 ^ q * (y.toNat / 2 ^ q) := Nat.mul_comm _ _
              omega
            have h7 : (y - 1#64).getLsbD q = true := by
              rw [← BitVec.testBit_toNat, e1, bits_of_shr e2 q (Nat.le_refl q), BitVec.testBit_toNat]; exact h6
            have h8 := bit_of hp2 q
            simp only [BitVec.getLsbD_and, BitVec.getLsbD_or, BitVec.getLsbD_xor, BitVec.getLsbD_not, BitVec.getLsbD_zero, decide_true, Bool.true_and, h6, h7] at h8
            cases h8
          rcases Nat.lt_or_gt_of_ne hij with h | h
          · exact two i j h hj hyi h2
          · exact two j i h hi h2 hyi
      refine scKnown_has ?_ mb (scHas_iff.2 ⟨?_, a2, a3⟩) hb
      · rw [May_iff] at ma ⊢
        intro i hi
        have := ma i hi
        simp only [BitVec.getLsbD_and, BitVec.getLsbD_or, BitVec.getLsbD_xor, BitVec.getLsbD_not, BitVec.getLsbD_zero, decide_true, Bool.true_and, hi]
        revert this
        cases a.t.v.getLsbD i <;> cases a.t.m.getLsbD i <;> cases y.getLsbD i <;> simp
      · rw [tHas_iff] at a1 ⊢
        intro i hi
        have h1 := a1 i hi
        have h2 := hb1 i hi
        simp only [BitVec.getLsbD_and, BitVec.getLsbD_or, BitVec.getLsbD_xor, BitVec.getLsbD_not, BitVec.getLsbD_zero, decide_true, Bool.true_and, hi]
        revert h1 h2
        cases a.t.v.getLsbD i <;> cases a.t.m.getLsbD i <;> cases y.getLsbD i <;> cases x.getLsbD i <;> simp
    · exact scKnown_has ma mb ha hb

theorem scApart_has {a b : Sc} {x y : BitVec 64} (ma : May a.t) (mb : May b.t) (ha : scHas a x = true) (hb : scHas b y = true) (hxy : x &&& y = 0#64) : Keeps (scApart a b) x y := by
  obtain ⟨a1, a2, a3⟩ := scHas_iff.1 ha
  obtain ⟨b1, b2, b3⟩ := scHas_iff.1 hb
  have c0 : a.t.v &&& b.t.v = 0#64 := by
    rw [tHas_iff] at a1 b1
    rw [May_iff] at ma mb
    apply BitVec.eq_of_getLsbD_eq
    intro i hi
    have h1 := a1 i hi
    have h2 := b1 i hi
    have h3 := ma i hi
    have h4 := mb i hi
    have h5 := bit_of hxy i
    simp only [BitVec.getLsbD_and, BitVec.getLsbD_or, BitVec.getLsbD_xor, BitVec.getLsbD_not, BitVec.getLsbD_zero, decide_true, Bool.true_and, hi] at h5 ⊢
    revert h1 h2 h3 h4 h5
    cases a.t.v.getLsbD i <;> cases b.t.v.getLsbD i <;> cases a.t.m.getLsbD i <;> cases b.t.m.getLsbD i <;> cases x.getLsbD i <;> cases y.getLsbD i <;> simp
  unfold scApart
  simp only [c0, decide_true]
  cases hc : scOnly b with
  | none => simpa using scKnown_has ma mb ha hb
  | some c =>
    have e := scOnly_has hb hc
    subst e
    simp only [Option.isSome_some, Option.getD_some, if_true]
    refine scKnown_has ?_ mb (scHas_iff.2 ⟨?_, a2, a3⟩) hb
    · rw [May_iff] at ma ⊢
      intro i hi hv
      have := ma i hi hv
      simp only [BitVec.getLsbD_and, BitVec.getLsbD_or, BitVec.getLsbD_xor, BitVec.getLsbD_not, BitVec.getLsbD_zero, decide_true, Bool.true_and, this, Bool.false_and]
    · rw [tHas_iff] at a1 ⊢
      rw [May_iff] at ma
      intro i hi
      have h1 := a1 i hi
      have h2 := bit_of hxy i
      have h3 := ma i hi
      simp only [BitVec.getLsbD_and, BitVec.getLsbD_or, BitVec.getLsbD_xor, BitVec.getLsbD_not, BitVec.getLsbD_zero, decide_true, Bool.true_and, hi] at h2 ⊢
      revert h1 h2 h3
      cases a.t.v.getLsbD i <;> cases a.t.m.getLsbD i <;> cases x.getLsbD i <;> cases y.getLsbD i <;> simp

end Go.Av
