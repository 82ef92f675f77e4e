import Derived.Test.YtlonpljlojgclaaAvUnroll
set_option linter.unusedSimpArgs false
set_option linter.unusedVariables false
namespace Go.Av
open Go

/-! ## Numbers of which some bits are known, and bounds -/

structure Tn where
  v : BitVec 64
  m : BitVec 64
  deriving DecidableEq

structure Sc where
  t : Tn
  lo : BitVec 64
  hi : BitVec 64
  deriving DecidableEq

abbrev eT (t : Tn) : AV := .ag [u64 t.v, u64 t.m]
abbrev eS (s : Sc) : AV := .ag [.ag [u64 s.t.v, u64 s.t.m], u64 s.lo, u64 s.hi]

def tz : Tn := ⟨0#64, 0#64⟩
def sz : Sc := ⟨tz, 0#64, 0#64⟩
@[simp] theorem tz_v : tz.v = 0#64 := rfl
@[simp] theorem tz_m : tz.m = 0#64 := rfl
@[simp] theorem sz_t : sz.t = tz := rfl
@[simp] theorem sz_lo : sz.lo = 0#64 := rfl
@[simp] theorem sz_hi : sz.hi = 0#64 := rfl

def kn (v u : BitVec 64) : Tn := ⟨v &&& ~~~u, u⟩

/-- All the bits below the highest one that is set. -/
def ofL (x m : BitVec 64) : BitVec 64 := if h : x = 0#64 then m else ofL (x >>> 1) (m <<< 1 ||| 1#64)
termination_by x.toNat
decreasing_by
  have h1 : x.toNat ≠ 0 := fun e => h (BitVec.eq_of_toNat_eq (by simpa using e))
  simp only [BitVec.toNat_ushiftRight, Nat.shiftRight_eq_div_pow]
  omega

/-- How many bits a number has. -/
def IsLen (x n : Nat) : Prop := x < 2 ^ n ∧ (n ≠ 0 → 2 ^ (n - 1) ≤ x)

theorem ofL_len : ∀ (n k : Nat) (x m : BitVec 64), IsLen x.toNat n → m.toNat = 2 ^ k - 1 → k + n ≤ 64 → (ofL x m).toNat = 2 ^ (k + n) - 1
  | 0, k, x, m, h, hm, _ => by
      have h0 : x = 0#64 := BitVec.eq_of_toNat_eq (by have := h.1; simp at this ⊢; omega)
      rw [ofL, dif_pos h0, hm]; simp
  | n + 1, k, x, m, h, hm, hk => by
      have h1 : 2 ^ n ≤ x.toNat := by simpa using h.2 (by omega)
      have hp : 0 < 2 ^ n := Nat.two_pow_pos n
      have h0 : ¬ x = 0#64 := by intro e; rw [e] at h1; simp at h1; try omega
      rw [ofL, dif_neg h0]
      have hx : IsLen (x >>> 1).toNat n := by
        simp only [BitVec.toNat_ushiftRight, Nat.shiftRight_eq_div_pow]
        refine ⟨?_, fun hn => ?_⟩
        · have := h.1
          rw [Nat.pow_succ] at this
          omega
        · obtain ⟨j, rfl⟩ : ∃ j, n = j + 1 := ⟨n - 1, by omega⟩
          rw [Nat.pow_succ] at h1
          simp only [Nat.add_sub_cancel]
          omega
      have hm' : (m <<< 1 ||| 1#64).toNat = 2 ^ (k + 1) - 1 := by
        have hk2 : (2 : Nat) ^ (k + 1) ≤ 2 ^ 64 := Nat.pow_le_pow_right (by decide) (by omega)
        have hpk : 0 < 2 ^ k := Nat.two_pow_pos k
        rw [Nat.pow_succ] at hk2 ⊢
        have e1 : (m <<< 1).toNat = 2 * m.toNat := by
          rw [BitVec.toNat_shiftLeft, Nat.shiftLeft_eq, hm]
          omega
        rw [BitVec.toNat_or, e1, hm]
        have e2 : (2 * (2 ^ k - 1)) ||| 1 = 2 * (2 ^ k - 1) + 1 := by
          have := Nat.two_pow_add_eq_or_of_lt (i := 1) (b := 1) (by decide) (2 ^ k - 1)
          rw [Nat.pow_one] at this
          exact this.symm
        have e3 : (1#64).toNat = 1 := rfl
        rw [e3, e2]
        omega
      rw [ofL_len n (k + 1) _ _ hx hm' (by omega)]
      congr 2
      omega

theorem shl_len {n : Nat} (hn : n ≤ 64) : ((1#64 <<< n) - 1#64).toNat = 2 ^ n - 1 := by
  have hp : 0 < 2 ^ n := Nat.two_pow_pos n
  rw [BitVec.toNat_sub, BitVec.toNat_shiftLeft, Nat.shiftLeft_eq]
  have e : (1#64).toNat = 1 := rfl
  rw [e, Nat.one_mul]
  rcases Nat.lt_or_ge n 64 with h | h
  · have : (2 : Nat) ^ n < 2 ^ 64 := Nat.pow_lt_pow_right (by decide) h
    rw [Nat.mod_eq_of_lt this]
    omega
  · obtain rfl : n = 64 := by omega
    decide

/-- How many bits a number has. -/
def blen (x : BitVec 64) : Nat := if x = 0#64 then 0 else Nat.log2 x.toNat + 1

theorem isLen_blen (x : BitVec 64) : IsLen x.toNat (blen x) := by
  unfold blen
  split
  · rename_i h; rw [h]; exact ⟨by decide, fun h => absurd rfl h⟩
  · rename_i h
    have h1 : x.toNat ≠ 0 := fun e => h (BitVec.eq_of_toNat_eq (by simpa using e))
    exact ⟨Nat.lt_log2_self, fun _ => Nat.log2_self_le h1⟩

theorem IsLen.uniq {x n k : Nat} (h : IsLen x n) (h' : IsLen x k) : n = k := by
  rcases Nat.lt_trichotomy n k with hl | hl | hl
  · have h1 := h'.2 (by omega)
    have h2 : (2 : Nat) ^ n ≤ 2 ^ (k - 1) := Nat.pow_le_pow_right (by decide) (by omega)
    have := h.1; omega
  · exact hl
  · have h1 := h.2 (by omega)
    have h2 : (2 : Nat) ^ k ≤ 2 ^ (n - 1) := Nat.pow_le_pow_right (by decide) (by omega)
    have := h'.1; omega

theorem IsLen.le {x : BitVec 64} {n : Nat} (h : IsLen x.toNat n) : n ≤ 64 := by
  rcases Nat.lt_or_ge 64 n with hl | hl
  · have h1 := h.2 (by omega)
    have h2 : (2 : Nat) ^ 64 ≤ 2 ^ (n - 1) := Nat.pow_le_pow_right (by decide) (by omega)
    have := x.isLt; omega
  · exact hl

theorem IsLen.shr {x n k : Nat} (h : IsLen (x / 2 ^ k) n) (hx : 2 ^ k ≤ x) : IsLen x (n + k) := by
  have hp : 0 < 2 ^ k := Nat.two_pow_pos k
  refine ⟨?_, fun _ => ?_⟩
  · have := h.1
    rw [Nat.div_lt_iff_lt_mul hp, ← Nat.pow_add] at this
    exact this
  · have hn : n ≠ 0 := by
      intro e
      have := h.1
      rw [e] at this
      have h2 : 1 ≤ x / 2 ^ k := (Nat.le_div_iff_mul_le hp).2 (by omega)
      simp at this
      omega
    have := h.2 hn
    rw [Nat.le_div_iff_mul_le hp, ← Nat.pow_add] at this
    rw [show n + k - 1 = n - 1 + k from by omega]
    exact this

theorem blen_shr {x : BitVec 64} {k : Nat} (h : 2 ^ k ≤ x.toNat) : blen x = blen (x >>> k) + k := by
  have h1 := isLen_blen (x >>> k)
  simp only [BitVec.toNat_ushiftRight, Nat.shiftRight_eq_div_pow] at h1
  exact (isLen_blen x).uniq (h1.shr h)

theorem blen_le (x : BitVec 64) : blen x ≤ 64 := (isLen_blen x).le
@[simp] theorem wrap_blen (x : BitVec 64) : IntKind.i64.wrap (blen x : Int) = blen x := wrap_i64_of (by omega) (by have := blen_le x; omega)
@[simp] theorem wrap_blen_add (x : BitVec 64) {k : Int} (h : 0 ≤ k) (h' : k ≤ 1000) : IntKind.i64.wrap (k + blen x) = k + blen x := wrap_i64_of (by omega) (by have := blen_le x; omega)

/-- All the bits below the highest one that is set. -/
def msk (x : BitVec 64) : BitVec 64 := (1#64 <<< blen x) - 1#64

theorem ofL_msk (x : BitVec 64) : ofL x 0#64 = msk x := by
  have h := isLen_blen x
  apply BitVec.eq_of_toNat_eq
  rw [ofL_len (blen x) 0 x 0#64 h rfl (by have := h.le; omega), msk, shl_len h.le]
  simp

def tOf (lo hi : BitVec 64) : Tn := kn lo (msk (lo ^^^ hi))

def tmeet (a b : Tn) : Tn × Bool :=
  if (a.v ^^^ b.v) &&& ~~~(a.m ||| b.m) = 0#64 then (kn (a.v ||| b.v) (a.m &&& b.m), true) else (tz, false)

def scRound (s : Sc) : Option Sc :=
  if bmin s.hi (s.t.v ||| s.t.m) < bmax s.lo s.t.v then none else
    if (tmeet s.t (tOf (bmax s.lo s.t.v) (bmin s.hi (s.t.v ||| s.t.m)))).2 then some ⟨(tmeet s.t (tOf (bmax s.lo s.t.v) (bmin s.hi (s.t.v ||| s.t.m)))).1, bmax s.lo s.t.v, bmin s.hi (s.t.v ||| s.t.m)⟩ else none

theorem scRound_lt {v m lo hi : BitVec 64} (h : bmin hi (v ||| m) < bmax lo v) : scRound ⟨⟨v, m⟩, lo, hi⟩ = none := by simp [scRound, h]
theorem scRound_no {v m lo hi : BitVec 64} (h : ¬ bmin hi (v ||| m) < bmax lo v) (h2 : (tmeet ⟨v, m⟩ (tOf (bmax lo v) (bmin hi (v ||| m)))).2 = false) : scRound ⟨⟨v, m⟩, lo, hi⟩ = none := by
  simp only [scRound]; rw [if_neg h, h2]; rfl
theorem scRound_yes {v m lo hi : BitVec 64} (h : ¬ bmin hi (v ||| m) < bmax lo v) (h2 : (tmeet ⟨v, m⟩ (tOf (bmax lo v) (bmin hi (v ||| m)))).2 = true) :
    scRound ⟨⟨v, m⟩, lo, hi⟩ = some ⟨(tmeet ⟨v, m⟩ (tOf (bmax lo v) (bmin hi (v ||| m)))).1, bmax lo v, bmin hi (v ||| m)⟩ := by
  simp only [scRound]; rw [if_neg h, h2]; rfl

def scRounds : Nat → Sc → Option Sc
  | 0, s => some s
  | n + 1, s => (scRound s).bind (scRounds n)

/-- Bounds and bits that know of one another. -/
def scTight (s : Sc) : Option Sc := if s.t.v &&& s.t.m = 0#64 then scRounds 3 s else none

/-- What holds of two. -/
def scKnown (a b : Sc) (ok : Bool) : Sc × Sc × Bool :=
  if ok && (scTight a).isSome && (scTight b).isSome then ((scTight a).getD sz, (scTight b).getD sz, true) else (sz, sz, false)

abbrev e3 (r : Sc × Sc × Bool) : AV := .tup [eS r.1, eS r.2.1, .bool r.2.2]

def scCheck (s : Sc) : Bool := decide (scTight s = some s)
def scConst (n : BitVec 64) : Sc := ⟨⟨n, 0#64⟩, n, n⟩

/-- A scalar that may be, of any. -/
def scWide (s : Sc) : Sc :=
  let s1 : Sc := if s.hi < s.lo then ⟨⟨s.t.v &&& ~~~s.t.m, s.t.m⟩, s.hi, s.lo⟩ else ⟨⟨s.t.v &&& ~~~s.t.m, s.t.m⟩, s.lo, s.hi⟩
  match scTight s1 with
  | some t => if scCheck t then t else scConst (s.t.v &&& ~~~s.t.m)
  | none => scConst (s.t.v &&& ~~~s.t.m)

def notF (op : Int) : Int :=
  if op = 16 then 80 else if op = 80 then 16 else if op = 32 then 176 else if op = 176 then 32 else
  if op = 48 then 160 else if op = 160 then 48 else if op = 64 then 68 else if op = 68 then 64 else
  if op = 96 then 208 else if op = 208 then 96 else if op = 112 then 192 else if op = 192 then 112 else -1

def plainF (op : Int) : Int := if op = 96 then 32 else if op = 112 then 48 else if op = 192 then 160 else if op = 208 then 176 else op

/-- The one number. -/
def scOnly (s : Sc) : Option (BitVec 64) := if s.t.m = 0#64 then some s.t.v else none

/-- A number off a scalar's edges. -/
def scWithout (s : Sc) (n : BitVec 64) : Sc × Bool :=
  if (s.lo = n ∧ n = 18446744073709551615#64) ∨ (s.hi = n ∧ n = 0#64 ∧ ¬ s.lo = n) then (s, false) else
  if s.hi = n then
    if n = 0#64 then (⟨s.t, (if s.lo = n then s.lo + 1#64 else s.lo), s.hi⟩, false)
    else (⟨s.t, (if s.lo = n then s.lo + 1#64 else s.lo), s.hi - 1#64⟩, decide ((if s.lo = n then s.lo + 1#64 else s.lo) ≤ s.hi - 1#64))
  else (⟨s.t, (if s.lo = n then s.lo + 1#64 else s.lo), s.hi⟩, decide ((if s.lo = n then s.lo + 1#64 else s.lo) ≤ s.hi))

def scDiffer1 (a b : Sc) : Sc × Bool :=
  let ok := !((scOnly a).isSome && (scOnly b).isSome && decide ((scOnly a).getD 0#64 = (scOnly b).getD 0#64))
  if (scOnly b).isSome && ok then scWithout a ((scOnly b).getD 0#64) else (a, ok)

/-- That two are not the same. -/
def scDiffer (a b : Sc) : Sc × Sc × Bool :=
  if (scOnly a).isSome && (scDiffer1 a b).2 then scKnown (scDiffer1 a b).1 (scWithout b ((scOnly a).getD 0#64)).1 (scWithout b ((scOnly a).getD 0#64)).2
  else scKnown (scDiffer1 a b).1 b (scDiffer1 a b).2

/-- Is a test said of nothing? -/
def scIdle (op : Int) (wide : Bool) (a b : Sc) : Bool :=
  (!wide && decide ((a.hi ||| b.hi) >>> 32 ≠ 0#64)) || decide (notF op < 0) ||
  (decide (plainF op ≠ op) && (decide ((if wide then 9223372036854775808#64 else 2147483648#64) ≤ a.hi) || decide ((if wide then 9223372036854775808#64 else 2147483648#64) ≤ b.hi)))

def scAbove (op : Int) (turned : Bool) (a b : Sc) : Sc × Sc × Bool :=
  let ok := decide (op = 48) || (decide (b.lo ≠ 18446744073709551615#64) && decide (a.hi ≠ 0#64))
  let by1 : BitVec 64 := if op = 32 then 1#64 else 0#64
  let x : Sc := if ok then ⟨a.t, bmax a.lo (b.lo + by1), a.hi⟩ else a
  let y : Sc := if ok then ⟨b.t, b.lo, bmin b.hi (a.hi - by1)⟩ else b
  if turned then scKnown y x ok else scKnown x y ok

def scShares (a b : Sc) : Sc × Sc × Bool :=
  let c := scOnly b
  let x : Sc := if c.isSome && decide (c.getD 0#64 ≠ 0#64) && decide (c.getD 0#64 &&& (c.getD 0#64 - 1#64) = 0#64) then ⟨⟨a.t.v ||| c.getD 0#64, a.t.m &&& ~~~c.getD 0#64⟩, a.lo, a.hi⟩ else a
  scKnown x b (decide ((a.t.v ||| a.t.m) &&& (b.t.v ||| b.t.m) ≠ 0#64))

def scApart (a b : Sc) : Sc × Sc × Bool :=
  let c := scOnly b
  let x : Sc := if c.isSome then ⟨⟨a.t.v, a.t.m &&& ~~~c.getD 0#64⟩, a.lo, a.hi⟩ else a
  scKnown x b (decide (a.t.v &&& b.t.v = 0#64))

def scMain (p : Int) (a b : Sc) : Sc × Sc × Bool :=
  if p = 160 then scAbove 32 true b a else if p = 176 then scAbove 48 true b a
  else if p = 16 then scKnown ⟨(tmeet a.t b.t).1, bmax a.lo b.lo, bmin a.hi b.hi⟩ ⟨(tmeet a.t b.t).1, bmax a.lo b.lo, bmin a.hi b.hi⟩ (tmeet a.t b.t).2
  else if p = 80 then scDiffer a b
  else if p = 32 ∨ p = 48 then scAbove p false a b
  else if p = 64 then scShares a b
  else scApart a b

/-- What is known where a test is true. -/
def scRefine (op : Int) (wide : Bool) (a b : Sc) : Sc × Sc × Bool :=
  if scIdle op wide a b then (a, b, true) else scMain (plainF op) a b

def castM (bits : Int) : BitVec 64 := if bits = 8 then 255#64 else if bits = 16 then 65535#64 else 4294967295#64
def tCast (t : Tn) (bits : Int) : Tn := if bits = 8 ∨ bits = 16 ∨ bits = 32 then ⟨t.v &&& castM bits, t.m &&& castM bits⟩ else t
/-- The lowest bits. -/
def scCast (s : Sc) (bits : Int) : Sc :=
  if bits = 8 ∨ bits = 16 ∨ bits = 32 then
    if castM bits < s.hi then (scTight ⟨tCast s.t bits, 0#64, castM bits⟩).getD sz else (scTight ⟨tCast s.t bits, s.lo, s.hi⟩).getD sz
  else s

def scUnknown : Sc := ⟨⟨0#64, 18446744073709551615#64⟩, 0#64, 18446744073709551615#64⟩

/-- Is a test the same for all? -/
def scAlways (op : Int) (wide : Bool) (a b : Sc) : Bool × Bool :=
  if notF op < 0 then (false, false) else if (scRefine op wide a b).2.2 = false then (false, true) else if (scRefine (notF op) wide a b).2.2 = false then (true, true) else (false, false)

end Go.Av
