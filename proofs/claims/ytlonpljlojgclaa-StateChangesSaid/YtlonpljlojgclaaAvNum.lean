import Derived.Test.YtlonpljlojgclaaAvLib
set_option linter.unusedSimpArgs false
set_option linter.unusedVariables false
namespace Go.Av
open Go

/-! ## Numbers of 64 bits -/

def u64 (x : BitVec 64) : AV := .int .u64 x.toNat

theorem ofInt_toNat (x : BitVec 64) : BitVec.ofInt 64 (x.toNat : Int) = x := by
  apply BitVec.eq_of_toNat_eq
  rw [BitVec.toNat_ofInt]
  have := x.isLt
  omega

theorem wrap_u64_nat (x : BitVec 64) : IntKind.u64.wrap (x.toNat : Int) = x.toNat := by
  have := x.isLt
  simp only [IntKind.wrap, IntKind.bits, IntKind.signed]
  simp
  omega

theorem wrap_u64 (n : Int) : IntKind.u64.wrap n = ((BitVec.ofInt 64 n).toNat : Int) := by
  simp only [IntKind.wrap, IntKind.bits, IntKind.signed, BitVec.toNat_ofInt]
  simp
  omega

theorem wrap_i64 (n : Int) : IntKind.i64.wrap n = (BitVec.ofInt 64 n).toInt := by
  simp only [IntKind.wrap, IntKind.bits, IntKind.signed, BitVec.toInt_ofInt, Int.bmod]
  simp
  split <;> split <;> omega

@[simp] theorem wrap_i64_of {n : Int} (h1 : -9223372036854775808 ≤ n) (h2 : n ≤ 9223372036854775807) : IntKind.i64.wrap n = n := by
  simp only [IntKind.wrap, IntKind.bits, IntKind.signed]
  simp
  omega

theorem u64_inj {x y : BitVec 64} : u64 x = u64 y ↔ x = y := by
  simp only [u64, AV.int.injEq, true_and]
  constructor
  · intro h; exact BitVec.eq_of_toNat_eq (by omega)
  · rintro rfl; rfl

section
variable {P : Program} {t : TypeId} {x y : BitVec 64} {u : AV}

@[simp] theorem free_u64 : (u64 x).free = true := rfl
@[simp] theorem wt_u64 : wt P (u64 x) t = leafT P (u64 x) t := rfl
@[simp] theorem leafOK_u64 {k : IntKind} : leafOK (u64 x) (.int k) = (IntKind.u64 == k) := rfl
@[simp] theorem isAg_u64 : (u64 x).isAg = false := rfl

theorem u64_of_leaf {v : AV} (h : leafT P v t = true) (hu : P.underlying t = some (.int .u64)) (hk : okI v = true) : ∃ x, v = u64 x := by
  simp only [leafT, hu, Bool.and_eq_true] at h
  obtain ⟨_, h⟩ := h
  cases v with
  | int k n =>
    simp only [leafOK, beq_iff_eq] at h
    subst h
    simp only [okI, Lit.wf, IntKind.min, IntKind.max, IntKind.signed, IntKind.bits, Bool.and_eq_true, decide_eq_true_eq] at hk
    refine ⟨BitVec.ofInt 64 n, ?_⟩
    simp only [u64, AV.int.injEq, true_and, BitVec.toNat_ofInt]
    simp at hk
    omega
  | _ => simp [leafOK] at h

theorem i64_of_leaf {v : AV} (h : leafT P v t = true) (hu : P.underlying t = some (.int .i64)) (hk : okI v = true) : ∃ n : Int, v = .int .i64 n ∧ -9223372036854775808 ≤ n ∧ n ≤ 9223372036854775807 := by
  simp only [leafT, hu, Bool.and_eq_true] at h
  obtain ⟨_, h⟩ := h
  cases v with
  | int k n =>
    simp only [leafOK, beq_iff_eq] at h
    subst h
    simp only [okI, Lit.wf, IntKind.min, IntKind.max, IntKind.signed, IntKind.bits, Bool.and_eq_true, decide_eq_true_eq] at hk
    simp at hk
    exact ⟨n, rfl, by omega, by omega⟩
  | _ => simp [leafOK] at h

theorem bool_of_leaf {v : AV} (h : leafT P v t = true) (hu : P.underlying t = some .bool) : ∃ b, v = .bool b := by
  simp only [leafT, hu, Bool.and_eq_true] at h
  obtain ⟨_, h⟩ := h
  cases v <;> first | exact ⟨_, rfl⟩ | (simp [leafOK] at h)

@[simp] theorem bin_add : binA P .add t (u64 x) (u64 y) = some (u64 (x + y)) := by
  simp only [binA, u64, intBin]
  rw [if_neg (by decide), if_pos (by trivial)]
  congr 2
  all_goals (rw [wrap_u64, BitVec.toNat_ofInt, BitVec.toNat_add]; omega)
@[simp] theorem bin_sub : binA P .sub t (u64 x) (u64 y) = some (u64 (x - y)) := by
  simp only [binA, u64, intBin]
  rw [if_neg (by decide), if_pos (by trivial)]
  congr 2
  rw [wrap_u64, BitVec.toNat_ofInt, BitVec.toNat_sub]
  have := x.isLt; have := y.isLt
  omega
@[simp] theorem bin_mul : binA P .mul t (u64 x) (u64 y) = some (u64 (x * y)) := by
  simp only [binA, u64, intBin]
  rw [if_neg (by decide), if_pos (by trivial)]
  congr 2
  all_goals (rw [wrap_u64, BitVec.toNat_ofInt, BitVec.toNat_mul, ← Int.natCast_mul]; omega)
@[simp] theorem bin_and : binA P .and t (u64 x) (u64 y) = some (u64 (x &&& y)) := by
  simp only [binA, u64, intBin]
  rw [if_neg (by decide), if_pos (by trivial)]
  congr 2
  show IntKind.u64.wrap ((BitVec.ofInt 64 (x.toNat : Int) &&& BitVec.ofInt 64 (y.toNat : Int)).toNat : Int) = _
  rw [ofInt_toNat, ofInt_toNat, wrap_u64_nat]
@[simp] theorem bin_or : binA P .or t (u64 x) (u64 y) = some (u64 (x ||| y)) := by
  simp only [binA, u64, intBin]
  rw [if_neg (by decide), if_pos (by trivial)]
  congr 2
  show IntKind.u64.wrap ((BitVec.ofInt 64 (x.toNat : Int) ||| BitVec.ofInt 64 (y.toNat : Int)).toNat : Int) = _
  rw [ofInt_toNat, ofInt_toNat, wrap_u64_nat]
@[simp] theorem bin_xor : binA P .xor t (u64 x) (u64 y) = some (u64 (x ^^^ y)) := by
  simp only [binA, u64, intBin]
  rw [if_neg (by decide), if_pos (by trivial)]
  congr 2
  show IntKind.u64.wrap ((BitVec.ofInt 64 (x.toNat : Int) ^^^ BitVec.ofInt 64 (y.toNat : Int)).toNat : Int) = _
  rw [ofInt_toNat, ofInt_toNat, wrap_u64_nat]
@[simp] theorem bin_andNot : binA P .andNot t (u64 x) (u64 y) = some (u64 (x &&& ~~~ y)) := by
  simp only [binA, u64, intBin]
  rw [if_neg (by decide), if_pos (by trivial)]
  congr 2
  show IntKind.u64.wrap ((BitVec.ofInt 64 (x.toNat : Int) &&& ~~~ BitVec.ofInt 64 (y.toNat : Int)).toNat : Int) = _
  rw [ofInt_toNat, ofInt_toNat, wrap_u64_nat]
@[simp] theorem bin_eql : binA P .eql t (u64 x) (u64 y) = some (.bool (decide (x = y))) := by
  simp only [binA, u64, intBin]
  rw [if_neg (by decide), if_pos (by trivial)]
  congr 2
  rw [Bool.eq_iff_iff]; simp
  exact ⟨fun h => BitVec.eq_of_toNat_eq (by omega), fun h => by rw [h]⟩
@[simp] theorem bin_neq : binA P .neq t (u64 x) (u64 y) = some (.bool (decide (x ≠ y))) := by
  simp only [binA, u64, intBin]
  rw [if_neg (by decide), if_pos (by trivial)]
  congr 2
  rw [Bool.eq_iff_iff]; simp
  exact not_congr ⟨fun h => BitVec.eq_of_toNat_eq (by omega), fun h => by rw [h]⟩
@[simp] theorem bin_lss : binA P .lss t (u64 x) (u64 y) = some (.bool (decide (x < y))) := by
  simp only [binA, u64, intBin]
  rw [if_neg (by decide), if_pos (by trivial)]
  congr 2
  rw [Bool.eq_iff_iff]; simp only [decide_eq_true_eq, BitVec.lt_def]; omega
@[simp] theorem bin_leq : binA P .leq t (u64 x) (u64 y) = some (.bool (decide (x ≤ y))) := by
  simp only [binA, u64, intBin]
  rw [if_neg (by decide), if_pos (by trivial)]
  congr 2
  rw [Bool.eq_iff_iff]; simp only [decide_eq_true_eq, BitVec.le_def]; omega
@[simp] theorem bin_gtr : binA P .gtr t (u64 x) (u64 y) = some (.bool (decide (y < x))) := by
  simp only [binA, u64, intBin]
  rw [if_neg (by decide), if_pos (by trivial)]
  congr 2
  rw [Bool.eq_iff_iff]; simp only [decide_eq_true_eq, BitVec.lt_def]; omega
@[simp] theorem bin_geq : binA P .geq t (u64 x) (u64 y) = some (.bool (decide (y ≤ x))) := by
  simp only [binA, u64, intBin]
  rw [if_neg (by decide), if_pos (by trivial)]
  congr 2
  rw [Bool.eq_iff_iff]; simp only [decide_eq_true_eq, BitVec.le_def]; omega

theorem shl_nat (x : BitVec 64) (n : Nat) : IntKind.u64.wrap ((x.toNat : Int) * 2 ^ min n 64) = ((x <<< n).toNat : Int) := by
  rw [wrap_u64, BitVec.toNat_ofInt, BitVec.toNat_shiftLeft, Nat.shiftLeft_eq]
  rcases Nat.lt_or_ge n 64 with h | h
  · rw [Nat.min_eq_left (by omega)]
    have : ((x.toNat : Int) * 2 ^ n) = ((x.toNat * 2 ^ n : Nat) : Int) := by simp
    rw [this]; omega
  · rw [Nat.min_eq_right h]
    have h1 : (x.toNat * 2 ^ n) % 2 ^ 64 = 0 := by
      obtain ⟨k, rfl⟩ := Nat.exists_eq_add_of_le h
      rw [Nat.pow_add, ← Nat.mul_assoc, Nat.mul_right_comm]
      exact Nat.mul_mod_left _ _
    rw [h1]; simp
theorem shr_nat (x : BitVec 64) (n : Nat) : (x.toNat : Int).fdiv (2 ^ min n 64) = ((x >>> n).toNat : Int) := by
  rw [BitVec.toNat_ushiftRight, Nat.shiftRight_eq_div_pow]
  have e : ((2 : Int) ^ min n 64) = ((2 ^ min n 64 : Nat) : Int) := by simp
  rw [e, Int.fdiv_eq_ediv_of_nonneg _ (Int.natCast_nonneg _), ← Int.natCast_ediv]
  congr 1
  rcases Nat.lt_or_ge n 64 with h | h
  · rw [Nat.min_eq_left (by omega)]
  · rw [Nat.min_eq_right h, Nat.div_eq_of_lt x.isLt, Nat.div_eq_of_lt (Nat.lt_of_lt_of_le x.isLt (Nat.pow_le_pow_right (by decide) h))]
@[simp] theorem bin_shl : binA P .shl t (u64 x) (u64 y) = some (u64 (x <<< y.toNat)) := by
  simp only [binA, u64, shiftA]
  rw [if_pos (by decide), if_neg (by omega)]
  simp only [IntKind.bits, Int.toNat_natCast, shl_nat]
@[simp] theorem bin_shr : binA P .shr t (u64 x) (u64 y) = some (u64 (x >>> y.toNat)) := by
  simp only [binA, u64, shiftA]
  rw [if_pos (by decide), if_neg (by omega)]
  simp only [IntKind.bits, Int.toNat_natCast, shr_nat]
@[simp] theorem bin_shl_i {k : IntKind} {n : Int} : binA P .shl t (u64 x) (.int k n) = if n < 0 then none else some (u64 (x <<< n.toNat)) := by
  simp only [binA, u64, shiftA]
  rw [if_pos (by decide)]
  split
  · rfl
  · simp only [IntKind.bits, shl_nat]
@[simp] theorem bin_shr_i {k : IntKind} {n : Int} : binA P .shr t (u64 x) (.int k n) = if n < 0 then none else some (u64 (x >>> n.toNat)) := by
  simp only [binA, u64, shiftA]
  rw [if_pos (by decide)]
  split
  · rfl
  · simp only [IntKind.bits, shr_nat]
@[simp] theorem bin_quo : binA P .quo t (u64 x) (u64 y) = if y = 0#64 then none else some (u64 (x / y)) := by
  simp only [binA, u64, intBin]
  rw [if_neg (by decide), if_pos (by trivial)]
  have h : ((y.toNat : Int) = 0) ↔ y = 0#64 := ⟨fun h => BitVec.eq_of_toNat_eq (by simpa using h), fun h => by rw [h]; rfl⟩
  by_cases hy : y = 0#64
  · rw [if_pos (h.2 hy), if_pos hy]
  · rw [if_neg (fun e => hy (h.1 e)), if_neg hy]
    congr 2
    have : ((x.toNat : Int).tdiv y.toNat) = ((x / y).toNat : Int) := by
      rw [BitVec.toNat_udiv]; simp [Int.tdiv]
    rw [this, wrap_u64_nat]
@[simp] theorem bin_rem : binA P .rem t (u64 x) (u64 y) = if y = 0#64 then none else some (u64 (x % y)) := by
  simp only [binA, u64, intBin]
  rw [if_neg (by decide), if_pos (by trivial)]
  have h : ((y.toNat : Int) = 0) ↔ y = 0#64 := ⟨fun h => BitVec.eq_of_toNat_eq (by simpa using h), fun h => by rw [h]; rfl⟩
  by_cases hy : y = 0#64
  · rw [if_pos (h.2 hy), if_pos hy]
  · rw [if_neg (fun e => hy (h.1 e)), if_neg hy]
    congr 2

@[simp] theorem un_neg : unA .neg (u64 x) = some (u64 (-x)) := by
  simp only [unA, u64]
  congr 2
  rw [wrap_u64, BitVec.toNat_ofInt, BitVec.toNat_neg]
  have := x.isLt
  omega
@[simp] theorem un_not {b : Bool} : unA .not (.bool b) = some (.bool (!b)) := rfl
@[simp] theorem un_neg_i {k : IntKind} {n : Int} : unA .neg (.int k n) = some (.int k (k.wrap (0 - n))) := rfl

def bmax (x y : BitVec 64) : BitVec 64 := if x < y then y else x
def bmin (x y : BitVec 64) : BitVec 64 := if y < x then y else x
@[simp] theorem max_u64 : max2A (u64 x) (u64 y) = some (u64 (bmax x y)) := by
  simp only [max2A, u64, bmax]
  congr 2
  simp only [BitVec.lt_def]
  split <;> split <;> first | rfl | omega
@[simp] theorem min_u64 : min2A (u64 x) (u64 y) = some (u64 (bmin x y)) := by
  simp only [min2A, u64, bmin]
  congr 2
  simp only [BitVec.lt_def]
  split <;> split <;> first | rfl | omega
@[simp] theorem max_i {k l : IntKind} {a b : Int} : max2A (.int k a) (.int l b) = some (.int k (if b > a then b else a)) := rfl
@[simp] theorem min_i {k l : IntKind} {a b : Int} : min2A (.int k a) (.int l b) = some (.int k (if b < a then b else a)) := rfl
@[simp] theorem builtin_max {C : Cfg} {ts : List TypeId} {a b : AV} : builtinA P C .max ts [a, b] = max2A a b := by
  unfold builtinA; split <;> simp_all
@[simp] theorem builtin_min {C : Cfg} {ts : List TypeId} {a b : AV} : builtinA P C .min ts [a, b] = min2A a b := by
  unfold builtinA; split <;> simp_all
@[simp] theorem builtin_len {C : Cfg} {t : TypeId} {a : AV} : builtinA P C .len [t] [a] = lenA P t a := rfl

@[simp] theorem conv_u64_i64 {s d : TypeId} (hs : (P.underlying s).isSome = true) (hd : P.underlying d = some (.int .i64)) : convA P s d (u64 x) = some (.int .i64 x.toInt) := by
  obtain ⟨e, he⟩ := Option.isSome_iff_exists.1 hs
  simp only [convA, he, hd, u64, wrap_i64, ofInt_toNat]
@[simp] theorem conv_u64 {s d : TypeId} (hs : (P.underlying s).isSome = true) (hd : P.underlying d = some (.int .u64)) : convA P s d (u64 x) = some (u64 x) := by
  obtain ⟨e, he⟩ := Option.isSome_iff_exists.1 hs
  simp only [convA, he, hd, u64, wrap_u64_nat]
def lo8 (x : BitVec 64) : Nat := x.toNat % 256
@[simp] theorem conv_u64_u8 {s d : TypeId} (hs : (P.underlying s).isSome = true) (hd : P.underlying d = some (.int .u8)) : convA P s d (u64 x) = some (.int .u8 (lo8 x)) := by
  obtain ⟨e, he⟩ := Option.isSome_iff_exists.1 hs
  simp only [convA, he, hd, u64, lo8, IntKind.wrap, IntKind.bits, IntKind.signed]
  congr 2
@[simp] theorem conv_i_u64 {s d : TypeId} {k : IntKind} {n : Int} (hs : (P.underlying s).isSome = true) (hd : P.underlying d = some (.int .u64)) : convA P s d (.int k n) = some (u64 (BitVec.ofInt 64 n)) := by
  obtain ⟨e, he⟩ := Option.isSome_iff_exists.1 hs
  simp only [convA, he, hd, u64, wrap_u64]
@[simp] theorem conv_i_i64 {s d : TypeId} {k : IntKind} {n : Int} (hs : (P.underlying s).isSome = true) (hd : P.underlying d = some (.int .i64)) : convA P s d (.int k n) = some (.int .i64 (IntKind.i64.wrap n)) := by
  obtain ⟨e, he⟩ := Option.isSome_iff_exists.1 hs
  simp only [convA, he, hd]

@[simp] theorem const_u64 {n : Int} (h1 : 0 ≤ n) (h2 : n < 18446744073709551616) : constA (.int .u64 n) = u64 (BitVec.ofInt 64 n) := by
  simp only [constA, u64, BitVec.toNat_ofInt]
  congr 1
  omega
@[simp] theorem const_i64 {n : Int} : constA (.int .i64 n) = .int .i64 n := rfl
@[simp] theorem const_i32 {n : Int} : constA (.int .i32 n) = .int .i32 n := rfl
@[simp] theorem const_i16 {n : Int} : constA (.int .i16 n) = .int .i16 n := rfl
@[simp] theorem const_u8 {n : Int} : constA (.int .u8 n) = .int .u8 n := rfl
@[simp] theorem const_u16 {n : Int} : constA (.int .u16 n) = .int .u16 n := rfl
@[simp] theorem const_u32 {n : Int} : constA (.int .u32 n) = .int .u32 n := rfl
@[simp] theorem const_bool {b : Bool} : constA (.bool b) = .bool b := rfl
@[simp] theorem const_str {s : ByteArray} : constA (.string s) = .str s := rfl
@[simp] theorem const_ptr : constA (.pointer none) = .ptr none := rfl
@[simp] theorem const_sl : constA (.slice none 0 0) = .sl none 0 0 := rfl
@[simp] theorem const_map : constA (.map none) = .map none := rfl
@[simp] theorem const_fn : constA .nilFunc = .nilFn := rfl
@[simp] theorem const_ifc : constA .nilIface = .nilIfc := rfl

@[simp] theorem natCast_lt_zero (n : Nat) : ((n : Int) < 0) = False := by simp

/-! Plain numbers -/
section
variable {k : IntKind} {a b : Int}
@[simp] theorem int_add : binA P .add t (.int k a) (.int k b) = some (.int k (k.wrap (a + b))) := by simp [binA, intBin]
@[simp] theorem int_sub : binA P .sub t (.int k a) (.int k b) = some (.int k (k.wrap (a - b))) := by simp [binA, intBin]
@[simp] theorem int_mul : binA P .mul t (.int k a) (.int k b) = some (.int k (k.wrap (a * b))) := by simp [binA, intBin]
@[simp] theorem int_quo : binA P .quo t (.int k a) (.int k b) = if b = 0 then none else some (.int k (k.wrap (a.tdiv b))) := by simp [binA, intBin]
@[simp] theorem int_rem : binA P .rem t (.int k a) (.int k b) = if b = 0 then none else some (.int k (a.tmod b)) := by simp [binA, intBin]
@[simp] theorem int_and : binA P .and t (.int k a) (.int k b) = some (.int k (k.wrap (BitVec.ofInt k.bits a &&& BitVec.ofInt k.bits b).toNat)) := by simp [binA, intBin]
@[simp] theorem int_or : binA P .or t (.int k a) (.int k b) = some (.int k (k.wrap (BitVec.ofInt k.bits a ||| BitVec.ofInt k.bits b).toNat)) := by simp [binA, intBin]
@[simp] theorem int_eql : binA P .eql t (.int k a) (.int k b) = some (.bool (decide (a = b))) := by simp [binA, intBin]; rw [Bool.eq_iff_iff]; simp
@[simp] theorem int_neq : binA P .neq t (.int k a) (.int k b) = some (.bool (decide (a ≠ b))) := by simp [binA, intBin]; rw [Bool.eq_iff_iff]; simp
@[simp] theorem int_lss : binA P .lss t (.int k a) (.int k b) = some (.bool (decide (a < b))) := by simp [binA, intBin]
@[simp] theorem int_leq : binA P .leq t (.int k a) (.int k b) = some (.bool (decide (a ≤ b))) := by simp [binA, intBin]
@[simp] theorem int_gtr : binA P .gtr t (.int k a) (.int k b) = some (.bool (decide (b < a))) := by simp [binA, intBin]
@[simp] theorem int_geq : binA P .geq t (.int k a) (.int k b) = some (.bool (decide (b ≤ a))) := by simp [binA, intBin]
@[simp] theorem bool_eql {a b : Bool} (h : P.underlying t = some .bool) : binA P .eql t (.bool a) (.bool b) = some (.bool (a == b)) := by simp [binA, eqlA, h]
@[simp] theorem bool_neq {a b : Bool} (h : P.underlying t = some .bool) : binA P .neq t (.bool a) (.bool b) = some (.bool (!(a == b))) := by simp [binA, eqlA, h]
def agEq (P : Program) (t : TypeId) (l m : List AV) : Option Bool :=
  if eqOK P 20 t && wt P (.ag l) t && wt P (.ag m) t && !P.eqGuardType P.depth t then eqL l m else none
@[simp] theorem ag_eql {l m : List AV} : binA P .eql t (.ag l) (.ag m) = (agEq P t l m).map fun b => .bool b := rfl
@[simp] theorem ag_neq {l m : List AV} : binA P .neq t (.ag l) (.ag m) = (agEq P t l m).map fun b => .bool (!b) := rfl
theorem agEq_of {l m : List AV} (h1 : eqOK P 20 t = true) (h2 : P.eqGuardType P.depth t = false) : agEq P t l m = if wt P (.ag l) t && wt P (.ag m) t then eqL l m else none := by
  simp [agEq, h1, h2]
@[simp] theorem eqA_u64 : eqA (u64 x) (u64 y) = some (decide (x = y)) := by
  simp only [eqA, u64, if_true]
  congr 1
  rw [Bool.eq_iff_iff]; simp
  exact ⟨fun h => BitVec.eq_of_toNat_eq (by omega), fun h => by rw [h]⟩
@[simp] theorem eqA_int {k : IntKind} {a b : Int} : eqA (.int k a) (.int k b) = some (decide (a = b)) := by
  simp only [eqA, if_true]
  rfl
@[simp] theorem eqA_bool {a b : Bool} : eqA (.bool a) (.bool b) = some (a == b) := by simp only [eqA]
@[simp] theorem eqA_ag {l m : List AV} : eqA (.ag l) (.ag m) = eqL l m := by simp only [eqA]
@[simp] theorem eqL_nil : eqL [] [] = some true := by simp only [eqL]
@[simp] theorem eqL_cons {a b : AV} {l m : List AV} : eqL (a :: l) (b :: m) = match eqA a b, eqL l m with
    | some x, some y => some (x && y)
    | _, _ => none := by rw [eqL]; cases eqA a b <;> cases eqL l m <;> rfl
end

@[simp] theorem ite_bool {c : Prop} [Decidable c] {a b : Bool} : (if c then AV.bool a else AV.bool b) = AV.bool (if c then a else b) := by split <;> rfl
@[simp] theorem ite_u64 {c : Prop} [Decidable c] : (if c then u64 x else u64 y) = u64 (if c then x else y) := by split <;> rfl
@[simp] theorem ite_int {c : Prop} [Decidable c] {k : IntKind} {a b : Int} : (if c then AV.int k a else AV.int k b) = AV.int k (if c then a else b) := by split <;> rfl

end

/-! ## A table of zero values -/

def relV : AV → Value → Bool
  | .bool b, .bool b' => b == b'
  | .int k n, .int k' n' => k == k' && n == n'
  | .str s, .string s' => decide (s = s')
  | .ptr none, .pointer none => true
  | .sl none l c, .slice none l' c' => l == 0 && c == 0 && l' == 0 && c' == 0
  | .map none, .map none => true
  | .nilFn, .nilFunc => true
  | .nilIfc, .nilIface => true
  | _, _ => false

theorem relV_ok {P : Program} {g : List G} {v : AV} {x : Value} (h : relV v x = true) : FRel P g v [x] := by
  unfold relV at h
  split at h
  all_goals first
    | (simp only [FRel]; done)
    | (simp only [Bool.and_eq_true, beq_iff_eq, decide_eq_true_eq] at h; simp [FRel, h]; done)
    | (simp at h; simp [FRel, h]; done)
    | (exfalso; simp at h; done)


mutual
/-- Is a value one of a few cells, whatever the memory is? What is left of the cells. -/
def relC : AV → List Value → Option (List Value)
  | .ag l, r => relCL l r
  | _, [] => none
  | v, x :: r => if relV v x then some r else none
def relCL : List AV → List Value → Option (List Value)
  | [], r => some r
  | v :: l, r => match relC v r with
    | some r' => relCL l r'
    | none => none
end

theorem relC_leaf {P : Program} {g : List G} {v : AV} {cs r : List Value} (ha : v.isAg = false) (h : relC v cs = some r) : ∃ c, cs = c ++ r ∧ FRel P g v c := by
  cases cs with
  | nil => cases v <;> first | (simp [relC] at h; done) | (simp [AV.isAg] at ha)
  | cons x cs =>
    have : (if relV v x then some cs else none) = some r := by
      cases v <;> first | (simpa only [relC] using h) | (simp [AV.isAg] at ha)
    split at this
    · rename_i hv
      cases this
      exact ⟨[x], rfl, relV_ok hv⟩
    · cases this

mutual
theorem relC_ok {P : Program} {g : List G} : (v : AV) → (cs r : List Value) → relC v cs = some r → ∃ c, cs = c ++ r ∧ FRel P g v c
  | .ag l, cs, r, h => by
      have h' : relCL l cs = some r := by cases cs <;> simpa only [relC] using h
      obtain ⟨c, h1, h2⟩ := relCL_ok l cs r h'
      exact ⟨c, h1, by simpa [FRel] using h2⟩
  | .bool _, cs, r, h => relC_leaf rfl h
  | .int _ _, cs, r, h => relC_leaf rfl h
  | .str _, cs, r, h => relC_leaf rfl h
  | .ptr _, cs, r, h => relC_leaf rfl h
  | .map _, cs, r, h => relC_leaf rfl h
  | .sl _ _ _, cs, r, h => relC_leaf rfl h
  | .nilFn, cs, r, h => relC_leaf rfl h
  | .nilIfc, cs, r, h => relC_leaf rfl h
  | .loc _ _ _, cs, r, h => relC_leaf rfl h
  | .lsl _ _ _ _ _ _, cs, r, h => relC_leaf rfl h
  | .fn _ _ _, cs, r, h => relC_leaf rfl h
  | .ifc _ _, cs, r, h => relC_leaf rfl h
  | .tup _, cs, r, h => relC_leaf rfl h
  | .junk, cs, r, h => relC_leaf rfl h
theorem relCL_ok {P : Program} {g : List G} : (l : List AV) → (cs r : List Value) → relCL l cs = some r → ∃ c, cs = c ++ r ∧ FRelL P g l c
  | [], cs, r, h => by simp [relCL] at h; exact ⟨[], by simpa using h, by simp [FRelL]⟩
  | v :: l, cs, r, h => by
      simp only [relCL] at h
      cases hv : relC v cs with
      | none => simp [hv] at h
      | some r1 =>
        simp only [hv] at h
        obtain ⟨c1, h1, h2⟩ := relC_ok v cs r1 hv
        obtain ⟨c2, h3, h4⟩ := relCL_ok l r1 r h
        exact ⟨c1 ++ c2, by rw [h1, h3, List.append_assoc], by simp only [FRelL]; exact ⟨c1, c2, rfl, h2, h4⟩⟩
end

def zget : List (TypeId × AV) → TypeId → Option AV
  | [], _ => none
  | (k, v) :: r, t => if t = k then some v else zget r t

def zrow (P : Program) (x : TypeId × AV) : Bool :=
  wt P x.2 x.1 && match P.info? x.1 with
    | some i => match i.zero with
      | some zv => relC x.2 zv.cells.toList matches some [] && x.2.isAg == isAggV zv
      | none => false
    | none => false

theorem zget_ok {P : Program} : ∀ (l : List (TypeId × AV)), l.all (zrow P) = true → ZOK P (zget l)
  | [], _ => fun t z h => by simp [zget] at h
  | x :: l, hl => fun t z h => by
      simp only [List.all_cons, Bool.and_eq_true] at hl
      simp only [zget] at h
      split at h
      · rename_i e
        cases h
        subst e
        have hr := hl.1
        unfold zrow at hr
        simp only [Bool.and_eq_true] at hr
        obtain ⟨h1, h2⟩ := hr
        refine ⟨h1, ?_⟩
        split at h2
        · rename_i i hi
          split at h2
          · rename_i zv hz
            simp only [Bool.and_eq_true, beq_iff_eq] at h2
            obtain ⟨h3, h4⟩ := h2
            refine ⟨i, zv, hi, hz, fun g => ⟨?_, h4⟩⟩
            cases hc : relC x.2 zv.cells.toList with
            | none => simp [hc] at h3
            | some r =>
              cases r with
              | cons a b => simp [hc] at h3
              | nil =>
                obtain ⟨c, k1, k2⟩ := relC_ok (P := P) (g := g) _ _ _ hc
                rw [k1]; simpa using k2
          · cases h2
        · cases h2
      · exact zget_ok l hl.2 t z h

end Go.Av
