import Derived.Test.YtlonpljlojgclaaAvScalTest
set_option linter.unusedSimpArgs false
set_option linter.unusedVariables false
namespace Go.Av
open Go

/-! ## The document's own answers of what is told -/

theorem scKnown_false (a b : Sc) : scKnown a b false = (sz, sz, false) := rfl

theorem scTight_none {s : Sc} (h : s.hi < s.lo) : scTight s = none := by
  unfold scTight
  split
  · have h1 : scRound s = none := by
      unfold scRound
      rw [if_pos (bv_le_lt (bmin_le_left _ _) (bv_lt_le h (le_bmax_left _ _)))]
    simp [scRounds, h1]
  · rfl

theorem scKnown_bad1 {a b : Sc} (h : a.hi < a.lo) : scKnown a b true = (sz, sz, false) := by simp [scKnown, scTight_none h]
theorem scKnown_bad2 {a b : Sc} (h : b.hi < b.lo) : scKnown a b true = (sz, sz, false) := by simp [scKnown, scTight_none h]

def rfEdges (s : Sc) (n : BitVec 64) : Sc × Bool :=
  if s.lo = n then
    if n = 18446744073709551615#64 then (s, false) else
    if s.hi = n then if n = 0#64 then (⟨s.t, s.lo + 1#64, s.hi⟩, false) else (⟨s.t, s.lo + 1#64, s.hi - 1#64⟩, true) else (⟨s.t, s.lo + 1#64, s.hi⟩, true)
  else if s.hi = n then if n = 0#64 then (s, false) else (⟨s.t, s.lo, s.hi - 1#64⟩, true) else (s, true)

/-- Edges against without: one that is told no more has no numbers. -/
theorem edges_without (s : Sc) (n : BitVec 64) : ((rfEdges s n).2 = true ∧ (scWithout s n).2 = true ∧ (scWithout s n).1 = (rfEdges s n).1) ∨ ((rfEdges s n).2 = false ∧ (scWithout s n).2 = false) ∨
    ((scWithout s n).2 = false ∧ (rfEdges s n).2 = true ∧ (rfEdges s n).1.hi < (rfEdges s n).1.lo) := by
  unfold rfEdges scWithout
  obtain ⟨t, lo, hi⟩ := s
  simp only
  by_cases h1 : lo = n
  · subst h1
    by_cases h2 : lo = 18446744073709551615#64
    · simp [h2]
    · by_cases h3 : hi = lo
      · subst h3
        by_cases h4 : hi = 0#64
        · simp [h4]
        · by_cases h5 : hi + 1#64 ≤ hi - 1#64
          · simp [h2, h4, h5]
          · have h5' := BitVec.not_le.1 h5
            simp [h2, h4, h5, h5']
      · by_cases h5 : lo + 1#64 ≤ hi
        · simp [h2, h3, h5]
        · have h5' := BitVec.not_le.1 h5
          simp [h2, h3, h5, h5']
  · by_cases h3 : hi = n
    · subst h3
      by_cases h4 : hi = 0#64
      · have h1' : ¬ lo = 0#64 := h4 ▸ h1
        simp [h1', h4]
      · by_cases h5 : lo ≤ hi - 1#64
        · simp [h1, h4, h5]
        · have h5' := BitVec.not_le.1 h5
          simp [h1, h4, h5, h5']
    · by_cases h5 : lo ≤ hi
      · simp [h1, h3, h5]
      · have h5' := BitVec.not_le.1 h5
        simp [h1, h3, h5, h5']

def rfUnequal1 (a b : Sc) : Sc × Bool :=
  if (!((scOnly a).isSome && (scOnly b).isSome && decide ((scOnly a).getD 0#64 = (scOnly b).getD 0#64))) && (scOnly b).isSome then rfEdges a ((scOnly b).getD 0#64)
  else (a, !((scOnly a).isSome && (scOnly b).isSome && decide ((scOnly a).getD 0#64 = (scOnly b).getD 0#64)))
def rfUnequal2 (a b : Sc) : Sc × Bool :=
  if (rfUnequal1 a b).2 && (scOnly a).isSome then rfEdges b ((scOnly a).getD 0#64) else (b, (rfUnequal1 a b).2)
def rfUnequal (a b : Sc) : Sc × Sc × Bool :=
  if (rfUnequal2 a b).2 then scKnown (rfUnequal1 a b).1 (rfUnequal2 a b).1 true else (sz, sz, false)

theorem rfUnequal_eq (a b : Sc) : rfUnequal a b = scDiffer a b := by
  unfold rfUnequal rfUnequal2 rfUnequal1 scDiffer scDiffer1
  cases h1 : scOnly a with
  | none =>
    cases h2 : scOnly b with
    | none => simp
    | some c =>
      simp
      rcases edges_without a c with ⟨e1, e2, e3⟩ | ⟨e1, e2⟩ | ⟨e1, e2, e3⟩
      · simp [e1, e2, e3]
      · simp [e1, e2, scKnown_false]
      · simp [e1, e2, scKnown_false, scKnown_bad1 e3]
  | some d =>
    cases h2 : scOnly b with
    | none =>
      simp
      rcases edges_without b d with ⟨e1, e2, e3⟩ | ⟨e1, e2⟩ | ⟨e1, e2, e3⟩
      · simp [e1, e2, e3]
      · simp [e1, e2, scKnown_false]
      · simp [e1, e2, scKnown_false, scKnown_bad2 e3]
    | some c =>
      by_cases hdc : d = c
      · simp [hdc, scKnown_false]
      · simp [hdc]
        rcases edges_without a c with ⟨e1, e2, e3⟩ | ⟨e1, e2⟩ | ⟨e1, e2, e3⟩
        · rcases edges_without b d with ⟨f1, f2, f3⟩ | ⟨f1, f2⟩ | ⟨f1, f2, f3⟩
          · simp [e1, e2, e3, f1, f2, f3]
          · simp [e1, e2, e3, f1, f2, scKnown_false]
          · simp [e1, e2, e3, f1, f2, scKnown_false, scKnown_bad2 f3]
        · simp [e1, e2, scKnown_false]
        · rcases edges_without b d with ⟨f1, f2, f3⟩ | ⟨f1, f2⟩ | ⟨f1, f2, f3⟩
          · simp [e1, e2, f1, scKnown_false, scKnown_bad1 e3]
          · simp [e1, e2, f1, scKnown_false]
          · simp [e1, e2, f1, scKnown_false, scKnown_bad1 e3]

def rfAbove (strict : Bool) (a b : Sc) : Sc × Sc × Bool :=
  if strict && (decide (b.lo = 18446744073709551615#64) || decide (a.hi = 0#64)) then (sz, sz, false)
  else scKnown ⟨a.t, bmax a.lo (b.lo + (if strict then 1#64 else 0#64)), a.hi⟩ ⟨b.t, b.lo, bmin b.hi (a.hi - (if strict then 1#64 else 0#64))⟩ true

theorem rfAbove_eq (a b : Sc) : rfAbove true a b = scAbove 32 false a b ∧ rfAbove false a b = scAbove 48 false a b := by
  refine ⟨?_, ?_⟩
  · unfold rfAbove scAbove
    by_cases h1 : b.lo = 18446744073709551615#64
    · simp [h1, scKnown_false]
    · by_cases h2 : a.hi = 0#64
      · simp [h1, h2, scKnown_false]
      · simp [h1, h2]
  · simp [rfAbove, scAbove]

def turn3 (r : Sc × Sc × Bool) : Sc × Sc × Bool := (r.2.1, r.1, r.2.2)
theorem scKnown_turn (a b : Sc) (ok : Bool) : turn3 (scKnown a b ok) = scKnown b a ok := by
  unfold turn3 scKnown
  cases ok <;> cases scTight a <;> cases scTight b <;> simp
theorem scAbove_turn (p : Int) (a b : Sc) : turn3 (scAbove p false a b) = scAbove p true a b := by
  simp only [scAbove, Bool.false_eq_true, if_false, if_true, scKnown_turn]

def rfShares (some : Bool) (a b : Sc) : Sc × Sc × Bool :=
  if some then
    if (a.t.v ||| a.t.m) &&& (b.t.v ||| b.t.m) = 0#64 then (sz, sz, false)
    else scKnown (if (scOnly b).isSome && decide ((scOnly b).getD 0#64 ≠ 0#64) && decide ((scOnly b).getD 0#64 &&& ((scOnly b).getD 0#64 - 1#64) = 0#64) then ⟨⟨a.t.v ||| (scOnly b).getD 0#64, a.t.m &&& ~~~(scOnly b).getD 0#64⟩, a.lo, a.hi⟩ else a) b true
  else
    if a.t.v &&& b.t.v ≠ 0#64 then (sz, sz, false)
    else scKnown (if (scOnly b).isSome then ⟨⟨a.t.v, a.t.m &&& ~~~(scOnly b).getD 0#64⟩, a.lo, a.hi⟩ else a) b true

theorem rfShares_eq (a b : Sc) : rfShares true a b = scShares a b ∧ rfShares false a b = scApart a b := by
  refine ⟨?_, ?_⟩
  · unfold rfShares scShares
    simp only [if_true]
    split
    · rename_i h; simp [h, scKnown_false]
    · rename_i h; simp [h]
  · unfold rfShares scApart
    simp only [Bool.false_eq_true, if_false]
    split
    · rename_i h; simp [h, scKnown_false]
    · rename_i h
      have h' : a.t.v &&& b.t.v = 0#64 := Classical.not_not.1 h
      simp [h']

def rfEqual (a b : Sc) : Sc × Sc × Bool :=
  if (tmeet a.t b.t).2 then scKnown ⟨(tmeet a.t b.t).1, bmax a.lo b.lo, bmin a.hi b.hi⟩ ⟨(tmeet a.t b.t).1, bmax a.lo b.lo, bmin a.hi b.hi⟩ true else (sz, sz, false)

theorem small_or (x y : BitVec 64) : ((x ||| y) >>> 32 ≠ 0#64) ↔ (4294967296#64 ≤ x ∨ 4294967296#64 ≤ y) := by
  have h1 : x ≤ x ||| y := le_of_bits (fun i hi h => by simp [h])
  have h2 : y ≤ x ||| y := le_of_bits (fun i hi h => by simp [h])
  have h3 : (x ||| y).toNat < 4294967296 ↔ (x.toNat < 4294967296 ∧ y.toNat < 4294967296) := by
    simp only [BitVec.le_def] at h1 h2
    refine ⟨fun h => ⟨by omega, by omega⟩, fun ⟨h4, h5⟩ => ?_⟩
    rw [BitVec.toNat_or]
    exact Nat.or_lt_two_pow (n := 32) h4 h5
  have h4 : ((x ||| y) >>> 32 = 0#64) ↔ (x ||| y).toNat < 4294967296 := by
    constructor
    · intro h
      have := congrArg BitVec.toNat h
      simp only [BitVec.toNat_ushiftRight, Nat.shiftRight_eq_div_pow] at this
      simp only [BitVec.toNat_ofNat] at this
      omega
    · intro h
      apply BitVec.eq_of_toNat_eq
      simp only [BitVec.toNat_ushiftRight, Nat.shiftRight_eq_div_pow]
      simp only [BitVec.toNat_ofNat]
      omega
  rw [ne_eq, h4, h3]
  simp only [BitVec.le_def, BitVec.toNat_ofNat]
  omega

def rfIdle (op : Int) (wide : Bool) (a b : Sc) : Bool :=
  decide (notF op < 0) || (!wide && (decide (4294967296#64 ≤ a.hi) || decide (4294967296#64 ≤ b.hi))) ||
  (decide (op = 96 ∨ op = 112 ∨ op = 192 ∨ op = 208) && (decide ((if wide then 9223372036854775808#64 else 2147483648#64) ≤ a.hi) || decide ((if wide then 9223372036854775808#64 else 2147483648#64) ≤ b.hi)))

theorem plainF_signed (op : Int) : (plainF op ≠ op) ↔ (op = 96 ∨ op = 112 ∨ op = 192 ∨ op = 208) := by
  unfold plainF
  repeat' split
  all_goals omega

theorem rfIdle_eq (op : Int) (wide : Bool) (a b : Sc) : rfIdle op wide a b = scIdle op wide a b := by
  unfold rfIdle scIdle
  have e : decide (plainF op ≠ op) = decide (op = 96 ∨ op = 112 ∨ op = 192 ∨ op = 208) := by
    rw [Bool.eq_iff_iff]; simp only [decide_eq_true_eq]; exact plainF_signed op
  have e2 : decide ((a.hi ||| b.hi) >>> 32 ≠ 0#64) = (decide (4294967296#64 ≤ a.hi) || decide (4294967296#64 ≤ b.hi)) := by
    rw [Bool.eq_iff_iff]; simp only [decide_eq_true_eq, Bool.or_eq_true]; exact small_or _ _
  rw [e, e2]
  cases decide (notF op < 0) <;> simp

def rfMain (op : Int) (a b : Sc) : Sc × Sc × Bool :=
  if op = 16 then rfEqual a b else if op = 80 then rfUnequal a b else if op = 32 ∨ op = 96 then rfAbove true a b else if op = 48 ∨ op = 112 then rfAbove false a b else
  if op = 160 ∨ op = 192 then turn3 (rfAbove true b a) else if op = 176 ∨ op = 208 then turn3 (rfAbove false b a) else rfShares (decide (op = 64)) a b

theorem rfEqual_eq (a b : Sc) : rfEqual a b = scKnown ⟨(tmeet a.t b.t).1, bmax a.lo b.lo, bmin a.hi b.hi⟩ ⟨(tmeet a.t b.t).1, bmax a.lo b.lo, bmin a.hi b.hi⟩ (tmeet a.t b.t).2 := by
  unfold rfEqual
  cases (tmeet a.t b.t).2 <;> simp [scKnown_false]

theorem rfMain_eq {op : Int} (h : ¬ notF op < 0) (a b : Sc) : rfMain op a b = scMain (plainF op) a b := by
  rcases notF_cases h with rfl | rfl | rfl | rfl | rfl | rfl | rfl | rfl | rfl | rfl | rfl | rfl
  all_goals simp [rfMain, scMain, plainF, rfEqual_eq, rfUnequal_eq, (rfAbove_eq _ _).1, (rfAbove_eq _ _).2, scAbove_turn, (rfShares_eq _ _).1, (rfShares_eq _ _).2]

def rfRefine (op : Int) (wide : Bool) (a b : Sc) : Sc × Sc × Bool := if rfIdle op wide a b then (a, b, true) else rfMain op a b

theorem rfRefine_eq (op : Int) (wide : Bool) (a b : Sc) : rfRefine op wide a b = scRefine op wide a b := by
  unfold rfRefine scRefine
  rw [rfIdle_eq]
  split
  · rfl
  · rename_i h
    refine rfMain_eq (fun hn => h ?_) a b
    simp [scIdle, hn]

end Go.Av
