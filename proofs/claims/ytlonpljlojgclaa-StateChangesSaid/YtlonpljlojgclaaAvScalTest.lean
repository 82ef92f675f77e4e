import Derived.Test.YtlonpljlojgclaaAvScalSnd
set_option linter.unusedSimpArgs false
set_option linter.unusedVariables false
namespace Go.Av
open Go

/-! ## Tests of numbers, and what is told of them -/

def lowW (wide : Bool) (x : BitVec 64) : BitVec 64 := if wide then x else x &&& 4294967295#64
def s32 (x : BitVec 64) : Int := IntKind.i32.wrap (x.toNat : Int)
def cmpI (wide : Bool) (x : BitVec 64) : Int := if wide then x.toInt else s32 x

theorem s32_range (x : BitVec 64) : -2147483648 ≤ s32 x ∧ s32 x ≤ 2147483647 := by
  simp only [s32, IntKind.wrap, IntKind.bits, IntKind.signed]
  simp
  omega
@[simp] theorem wrap_s32 (x : BitVec 64) : IntKind.i64.wrap (s32 x) = s32 x := by
  have := s32_range x
  exact wrap_i64_of (by omega) (by omega)

@[simp] theorem conv_u64_i32 {P : Program} {s d : TypeId} {x : BitVec 64} (hs : (P.underlying s).isSome = true) (hd : P.underlying d = some (.int .i32)) : convA P s d (u64 x) = some (.int .i32 (s32 x)) := by
  obtain ⟨e, he⟩ := Option.isSome_iff_exists.1 hs
  simp only [convA, he, hd, u64, s32]

/-- A test of two numbers, if it is one. -/
def rTest (op : Int) (wide : Bool) (x y : BitVec 64) : Option Bool :=
  if op = 16 then some (decide (lowW wide x = lowW wide y)) else
  if op = 32 then some (decide (lowW wide y < lowW wide x)) else
  if op = 48 then some (decide (lowW wide y ≤ lowW wide x)) else
  if op = 64 then some (decide (lowW wide x &&& lowW wide y ≠ 0#64)) else
  if op = 80 then some (decide (lowW wide x ≠ lowW wide y)) else
  if op = 96 then some (decide (cmpI wide (lowW wide y) < cmpI wide (lowW wide x))) else
  if op = 112 then some (decide (cmpI wide (lowW wide y) ≤ cmpI wide (lowW wide x))) else
  if op = 160 then some (decide (lowW wide x < lowW wide y)) else
  if op = 176 then some (decide (lowW wide x ≤ lowW wide y)) else
  if op = 192 then some (decide (cmpI wide (lowW wide x) < cmpI wide (lowW wide y))) else
  if op = 208 then some (decide (cmpI wide (lowW wide x) ≤ cmpI wide (lowW wide y))) else none

def aTest (op : Int) (wide : Bool) (x y : BitVec 64) : Option Bool := if op = 68 then (rTest 64 wide x y).map (!·) else rTest op wide x y

theorem notF_cases {op : Int} (h : ¬ notF op < 0) : op = 16 ∨ op = 80 ∨ op = 32 ∨ op = 176 ∨ op = 48 ∨ op = 160 ∨ op = 64 ∨ op = 68 ∨ op = 96 ∨ op = 208 ∨ op = 112 ∨ op = 192 := by
  refine Classical.byContradiction (fun hn => h ?_)
  simp only [not_or] at hn
  obtain ⟨h1, h2, h3, h4, h5, h6, h7, h8, h9, h10, h11, h12⟩ := hn
  simp [notF, *]

theorem bv_not_lt {x y : BitVec 64} : (¬ x < y) = (y ≤ x) := propext BitVec.not_lt
theorem bv_not_le {x y : BitVec 64} : (¬ x ≤ y) = (y < x) := propext BitVec.not_le

theorem aTest_not {op : Int} (h : ¬ notF op < 0) (wide : Bool) (x y : BitVec 64) : ∃ t, aTest op wide x y = some t ∧ aTest (notF op) wide x y = some (!t) := by
  rcases notF_cases h with rfl | rfl | rfl | rfl | rfl | rfl | rfl | rfl | rfl | rfl | rfl | rfl
  all_goals refine ⟨_, rfl, ?_⟩
  all_goals simp only [aTest, rTest, notF]
  all_goals simp
  all_goals simp only [← decide_not, Int.not_lt, Int.not_le, bv_not_lt, bv_not_le]

theorem bv_le_lt {x y z : BitVec 64} (h1 : x ≤ y) (h2 : y < z) : x < z := by simp only [BitVec.le_def, BitVec.lt_def] at *; omega
theorem bv_lt_le {x y z : BitVec 64} (h1 : x < y) (h2 : y ≤ z) : x < z := by simp only [BitVec.le_def, BitVec.lt_def] at *; omega

theorem lowW_eq {wide : Bool} {x : BitVec 64} (h : wide = false → x.toNat < 4294967296) : lowW wide x = x := by
  unfold lowW
  cases wide with
  | true => rfl
  | false =>
    have := h rfl
    apply BitVec.eq_of_toNat_eq
    have e : (4294967295#64).toNat = 2 ^ 32 - 1 := rfl
    simp only [Bool.false_eq_true, if_false, BitVec.toNat_and, e]
    rw [Nat.and_two_pow_sub_one_eq_mod]
    omega

theorem cmpI_eq {wide : Bool} {x : BitVec 64} (h : x < (if wide then 9223372036854775808#64 else 2147483648#64)) : cmpI wide x = x.toNat := by
  unfold cmpI
  cases wide with
  | true =>
    simp only [if_true, BitVec.lt_def, BitVec.toNat_ofNat] at h ⊢
    rw [BitVec.toInt_eq_toNat_cond]
    split <;> omega
  | false =>
    simp only [Bool.false_eq_true, if_false, BitVec.lt_def, BitVec.toNat_ofNat] at h ⊢
    simp only [s32, IntKind.wrap, IntKind.bits, IntKind.signed]
    simp
    omega

theorem scEq_has {a b : Sc} {x : BitVec 64} (ma : May a.t) (mb : May b.t) (ha : scHas a x = true) (hb : scHas b x = true) :
    Keeps (scKnown ⟨(tmeet a.t b.t).1, bmax a.lo b.lo, bmin a.hi b.hi⟩ ⟨(tmeet a.t b.t).1, bmax a.lo b.lo, bmin a.hi b.hi⟩ (tmeet a.t b.t).2) x x := by
  obtain ⟨a1, a2, a3⟩ := scHas_iff.1 ha
  obtain ⟨b1, b2, b3⟩ := scHas_iff.1 hb
  obtain ⟨h1, h2, h3⟩ := tmeet_has ma mb a1 b1
  have h : scHas ⟨(tmeet a.t b.t).1, bmax a.lo b.lo, bmin a.hi b.hi⟩ x = true := by
    rw [scHas_iff]
    exact ⟨h2, bmax_le a2 b2, le_bmin a3 b3⟩
  obtain ⟨s, hs⟩ : ∃ s : Sc, (⟨(tmeet a.t b.t).1, bmax a.lo b.lo, bmin a.hi b.hi⟩ : Sc) = s := ⟨_, rfl⟩
  have h4 : May s.t := by rw [← hs]; exact h3
  rw [hs] at h ⊢
  rw [h1]
  exact scKnown_has h4 h4 h h

/-- What is told keeps the numbers of which the test is true. -/
theorem scRefine_has {op : Int} {wide : Bool} {a b : Sc} {x y : BitVec 64} (ma : May a.t) (mb : May b.t) (ha : scHas a x = true) (hb : scHas b y = true) (ht : aTest op wide x y = some true) :
    Keeps (scRefine op wide a b) x y := by
  unfold scRefine
  split
  · exact ⟨rfl, ha, hb⟩
  · rename_i hidle
    simp only [scIdle, Bool.or_eq_true, Bool.and_eq_true, decide_eq_true_eq, not_or, not_and, Bool.not_eq_true', ne_eq, Classical.not_not] at hidle
    obtain ⟨⟨hw, hn⟩, hh⟩ := hidle
    obtain ⟨a1, a2, a3⟩ := scHas_iff.1 ha
    obtain ⟨b1, b2, b3⟩ := scHas_iff.1 hb
    have small : wide = false → (a.hi ||| b.hi).toNat < 4294967296 := by
      intro h
      have := congrArg BitVec.toNat (hw h)
      simp only [BitVec.toNat_ushiftRight, Nat.shiftRight_eq_div_pow] at this
      simp only [BitVec.toNat_ofNat] at this
      omega
    have ax : a.hi ≤ a.hi ||| b.hi := le_of_bits (fun i hi h => by simp [h])
    have bx : b.hi ≤ a.hi ||| b.hi := le_of_bits (fun i hi h => by simp [h])
    simp only [BitVec.le_def] at ax bx
    have ex : lowW wide x = x := lowW_eq (fun h => by have := small h; simp only [BitVec.le_def] at a3; omega)
    have ey : lowW wide y = y := lowW_eq (fun h => by have := small h; simp only [BitVec.le_def] at b3; omega)
    have sg : plainF op ≠ op → cmpI wide x = x.toNat ∧ cmpI wide y = y.toNat := by
      intro h
      obtain ⟨h1, h2⟩ := hh h
      exact ⟨cmpI_eq (bv_le_lt a3 (BitVec.not_le.1 h1)), cmpI_eq (bv_le_lt b3 (BitVec.not_le.1 h2))⟩
    rcases notF_cases hn with rfl | rfl | rfl | rfl | rfl | rfl | rfl | rfl | rfl | rfl | rfl | rfl
    case inl =>
      simp [aTest, rTest, ex, ey] at ht
      subst ht
      exact scEq_has ma mb ha hb
    case inr.inl =>
      simp [aTest, rTest, ex, ey] at ht
      exact scDiffer_has ma mb ha hb ht
    case inr.inr.inl =>
      simp [aTest, rTest, ex, ey] at ht
      exact (scAbove_has ma mb ha hb (.inl ⟨rfl, ht⟩)).1
    case inr.inr.inr.inl =>
      simp [aTest, rTest, ex, ey] at ht
      exact (scAbove_has mb ma hb ha (.inr ⟨rfl, ht⟩)).2
    case inr.inr.inr.inr.inl =>
      simp [aTest, rTest, ex, ey] at ht
      exact (scAbove_has ma mb ha hb (.inr ⟨rfl, ht⟩)).1
    case inr.inr.inr.inr.inr.inl =>
      simp [aTest, rTest, ex, ey] at ht
      exact (scAbove_has mb ma hb ha (.inl ⟨rfl, ht⟩)).2
    case inr.inr.inr.inr.inr.inr.inl =>
      simp [aTest, rTest, ex, ey] at ht
      exact scShares_has ma mb ha hb ht
    case inr.inr.inr.inr.inr.inr.inr.inl =>
      simp [aTest, rTest, ex, ey] at ht
      exact scApart_has ma mb ha hb ht
    case inr.inr.inr.inr.inr.inr.inr.inr.inl =>
      obtain ⟨s1, s2⟩ := sg (by decide)
      simp [aTest, rTest, ex, ey, s1, s2] at ht
      exact (scAbove_has ma mb ha hb (.inl ⟨rfl, by rw [BitVec.lt_def]; omega⟩)).1
    case inr.inr.inr.inr.inr.inr.inr.inr.inr.inl =>
      obtain ⟨s1, s2⟩ := sg (by decide)
      simp [aTest, rTest, ex, ey, s1, s2] at ht
      exact (scAbove_has mb ma hb ha (.inr ⟨rfl, by rw [BitVec.le_def]; omega⟩)).2
    case inr.inr.inr.inr.inr.inr.inr.inr.inr.inr.inl =>
      obtain ⟨s1, s2⟩ := sg (by decide)
      simp [aTest, rTest, ex, ey, s1, s2] at ht
      exact (scAbove_has ma mb ha hb (.inr ⟨rfl, by rw [BitVec.le_def]; omega⟩)).1
    case inr.inr.inr.inr.inr.inr.inr.inr.inr.inr.inr =>
      obtain ⟨s1, s2⟩ := sg (by decide)
      simp [aTest, rTest, ex, ey, s1, s2] at ht
      exact (scAbove_has mb ma hb ha (.inl ⟨rfl, by rw [BitVec.lt_def]; omega⟩)).2

/-- What is told to be always the same is the same. -/
theorem scAlways_has {op : Int} {wide : Bool} {a b : Sc} {x y : BitVec 64} (ma : May a.t) (mb : May b.t) (ha : scHas a x = true) (hb : scHas b y = true) (hk : (scAlways op wide a b).2 = true) :
    aTest op wide x y = some (scAlways op wide a b).1 := by
  unfold scAlways at hk ⊢
  split at hk
  · simp at hk
  · rename_i hn
    rw [if_neg hn]
    obtain ⟨t, h1, h2⟩ := aTest_not hn wide x y
    split at hk
    · rename_i h3
      rw [if_pos h3]
      cases t with
      | false => exact h1
      | true => have := (scRefine_has ma mb ha hb h1).1; rw [h3] at this; cases this
    · rename_i h3
      rw [if_neg h3]
      split at hk
      · rename_i h4
        rw [if_pos h4]
        cases t with
        | true => exact h1
        | false => have := (scRefine_has ma mb ha hb h2).1; rw [h4] at this; cases this
      · simp at hk

theorem scAlways_unknown {op : Int} {wide : Bool} {a b : Sc} (hk : (scAlways op wide a b).2 = false) : (scAlways op wide a b).1 = false := by
  unfold scAlways at hk ⊢
  split
  · rfl
  · split
    · rfl
    · split
      · rename_i h1 h2 h3; rw [if_neg h1, if_neg h2, if_pos h3] at hk; simp at hk
      · rfl

/-- A number of a scalar, near another one. -/
def scOne (s : Sc) (n : BitVec 64) : Option (BitVec 64) :=
  if scHas s (s.t.v ||| n &&& s.t.m) then some (s.t.v ||| n &&& s.t.m) else if scHas s s.lo then some s.lo else if scHas s s.hi then some s.hi else if scHas s s.t.v then some s.t.v else
  if scHas s (s.t.v ||| s.t.m) then some (s.t.v ||| s.t.m) else none

theorem scOne_has {s : Sc} {n x : BitVec 64} (h : scOne s n = some x) : scHas s x = true := by
  unfold scOne at h
  split at h
  · cases h; assumption
  split at h
  · cases h; assumption
  split at h
  · cases h; assumption
  split at h
  · cases h; assumption
  split at h
  · cases h; assumption
  · cases h

end Go.Av
