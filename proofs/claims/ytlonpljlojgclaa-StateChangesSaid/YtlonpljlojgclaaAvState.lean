import Derived.Test.YtlonpljlojgclaaAvScalTest
import Derived.Test.YtlonpljlojgclaaAvTrim
set_option linter.unusedSimpArgs false
set_option linter.unusedVariables false
namespace Go.Av
open Go

/-! ## Registers, slots, states -/

structure Rg where
  kind : Int
  num : Sc
  mp : Int
  id : Int
  sz : Int
  deriving DecidableEq

structure Sl where
  kind : Int
  known : Int
  reg : Rg
  deriving DecidableEq

def eR (r : Rg) : AV := .ag [.int .i64 r.kind, .ag [.ag [u64 r.num.t.v, u64 r.num.t.m], u64 r.num.lo, u64 r.num.hi], .int .i64 r.mp, .int .i64 r.id, .int .i64 r.sz]
def eL (s : Sl) : AV := .ag [.int .i64 s.kind, .int .i64 s.known, eR s.reg]

def rz : Rg := ⟨0, sz, 0, 0, 0⟩
def lz : Sl := ⟨0, 0, rz⟩

theorem eR_def (r : Rg) : eR r = .ag [.int .i64 r.kind, .ag [.ag [u64 r.num.t.v, u64 r.num.t.m], u64 r.num.lo, u64 r.num.hi], .int .i64 r.mp, .int .i64 r.id, .int .i64 r.sz] := rfl
theorem eL_def (s : Sl) : eL s = .ag [.int .i64 s.kind, .int .i64 s.known, eR s.reg] := rfl
@[simp] theorem free_eR {r : Rg} : (eR r).free = true := rfl
@[simp] theorem free_eL {s : Sl} : (eL s).free = true := rfl
@[simp] theorem getP_eR {r : Rg} {i : Nat} {p : List Nat} : getP (eR r) (i :: p) = getP (.ag [.int .i64 r.kind, .ag [.ag [u64 r.num.t.v, u64 r.num.t.m], u64 r.num.lo, u64 r.num.hi], .int .i64 r.mp, .int .i64 r.id, .int .i64 r.sz]) (i :: p) := rfl
@[simp] theorem getP_eL {s : Sl} {i : Nat} {p : List Nat} : getP (eL s) (i :: p) = getP (.ag [.int .i64 s.kind, .int .i64 s.known, eR s.reg]) (i :: p) := rfl
@[simp] theorem setP_eR {r : Rg} {i : Nat} {p : List Nat} {u : AV} : setP (eR r) (i :: p) u = setP (.ag [.int .i64 r.kind, .ag [.ag [u64 r.num.t.v, u64 r.num.t.m], u64 r.num.lo, u64 r.num.hi], .int .i64 r.mp, .int .i64 r.id, .int .i64 r.sz]) (i :: p) u := rfl
@[simp] theorem setP_eL {s : Sl} {i : Nat} {p : List Nat} {u : AV} : setP (eL s) (i :: p) u = setP (.ag [.int .i64 s.kind, .int .i64 s.known, eR s.reg]) (i :: p) u := rfl
@[simp] theorem getP_nil {v : AV} : getP v [] = some v := by cases v <;> rfl
@[simp] theorem setP_nil {v u : AV} : setP v [] u = some u := by cases v <;> rfl

theorem eqA_eR (a b : Rg) : eqA (eR a) (eR b) = some (decide (a = b)) := by
  obtain ⟨k, ⟨⟨v, m⟩, lo, hi⟩, mp, id, z⟩ := a
  obtain ⟨k', ⟨⟨v', m'⟩, lo', hi'⟩, mp', id', z'⟩ := b
  simp only [eR, eqA_ag, eqL_cons, eqL_nil, eqA_int, eqA_u64]
  congr 1
  rw [Bool.eq_iff_iff]
  simp
theorem eqA_eL (a b : Sl) : eqA (eL a) (eL b) = some (decide (a = b)) := by
  obtain ⟨k, n, r⟩ := a
  obtain ⟨k', n', r'⟩ := b
  simp only [eL, eqA_ag, eqL_cons, eqL_nil, eqA_int, eqA_eR]
  congr 1
  rw [Bool.eq_iff_iff]
  simp
theorem eqL_map {α : Type} [DecidableEq α] (f : α → AV) (hf : ∀ a b, eqA (f a) (f b) = some (decide (a = b))) : ∀ (l m : List α), l.length = m.length → eqL (l.map f) (m.map f) = some (decide (l = m))
  | [], [], _ => rfl
  | [], _ :: _, h => by simp at h
  | _ :: _, [], h => by simp at h
  | a :: l, b :: m, h => by
      simp only [List.map_cons, eqL_cons, hf, eqL_map f hf l m (by simpa using h)]
      congr 1
      rw [Bool.eq_iff_iff]
      simp
theorem eqL_regs {l m : List Rg} (h : l.length = m.length) : eqL (l.map eR) (m.map eR) = some (decide (l = m)) := eqL_map eR eqA_eR l m h
theorem eqL_slots {l m : List Sl} (h : l.length = m.length) : eqL (l.map eL) (m.map eL) = some (decide (l = m)) := eqL_map eL eqA_eL l m h

/-- A state's value: registers, slots, range, references, ids. -/
abbrev eSt (regs : List Rg) (slots : List Sl) (range : Int) (v : AV) (ids : Int) : AV := .ag [.ag (regs.map eR), .ag (slots.map eL), .int .i64 range, v, .int .i64 ids]

theorem wtA_map {P : Program} {α : Type} {f : α → AV} {e : TypeId} (hf : ∀ a, wt P (f a) e = true) : ∀ l : List α, wtA P (l.map f) e = true
  | [] => rfl
  | a :: l => by simp [wtA, hf a, wtA_map hf l]

/-- What a slice of numbers tells. -/
def RefsAt (H : Heap) (p : Option (Nat × List Nat × Nat × TypeId)) (len cap : Nat) (l : List Int) : Prop :=
  len = l.length ∧ len ≤ cap ∧ match p with
  | none => cap = 0
  | some (n, q, s, e) => q = [] ∧ s = 0 ∧ e = 3 ∧ n < H.length ∧ (len = 0 ∨ ∃ b row, H[n]? = some b ∧ b.row? = some row ∧ row.take len = l.map fun x => AV.int .i64 x)

theorem RefsAt.append {H D : Heap} {p : Option (Nat × List Nat × Nat × TypeId)} {len cap : Nat} {l : List Int} (h : RefsAt H p len cap l) : RefsAt (H ++ D) p len cap l := by
  obtain ⟨h1, h2, h3⟩ := h
  refine ⟨h1, h2, ?_⟩
  cases p with
  | none => exact h3
  | some q =>
    obtain ⟨n, q, s, e⟩ := q
    obtain ⟨a1, a2, a3, a4, a5⟩ := h3
    refine ⟨a1, a2, a3, by simp; omega, ?_⟩
    rcases a5 with a5 | ⟨b, row, b1, b2, b3⟩
    · exact .inl a5
    · exact .inr ⟨b, row, by rw [List.getElem?_append_left a4]; exact b1, b2, b3⟩

/-- An element of such a slice. -/
theorem RefsAt.get {H : Heap} {p : Option (Nat × List Nat × Nat × TypeId)} {len cap : Nat} {l : List Int} (h : RefsAt H p len cap l) {i : Nat} (hi : i < l.length) :
    ∃ n b row x, p = some (n, [], 0, 3) ∧ n < H.length ∧ H[n]? = some b ∧ b.row? = some row ∧ row[i]? = some (.int .i64 x) ∧ l[i]? = some x := by
  obtain ⟨h1, h2, h3⟩ := h
  cases p with
  | none => simp only at h3; omega
  | some q =>
    obtain ⟨n, q, s, e⟩ := q
    obtain ⟨rfl, rfl, rfl, a4, a5⟩ := h3
    rcases a5 with a5 | ⟨b, row, b1, b2, b3⟩
    · omega
    · refine ⟨n, b, row, l[i], rfl, a4, b1, b2, ?_, by simp⟩
      have := congrArg (fun l => l[i]?) b3
      simp only [List.getElem?_take, List.getElem?_map] at this
      rw [if_pos (by omega)] at this
      rw [this]
      simp [hi]

/-- A slice of numbers in a block of one's own, that is no older than base. -/
def Owns (H : Heap) (base : Nat) (p : Option (Nat × List Nat × Nat × TypeId)) (len cap : Nat) (l : List Int) : Prop :=
  len = l.length ∧ len ≤ cap ∧ match p with
  | none => cap = 0
  | some (n, q, s, e) => q = [] ∧ s = 0 ∧ e = 3 ∧ base ≤ n ∧ n < H.length ∧ ∃ row sl, H[n]? = some (.cells 3 row sl) ∧ row.take len = (l.map fun x => AV.int .i64 x) ∧ cap ≤ row.length

theorem Owns.refs {H : Heap} {base : Nat} {p : Option (Nat × List Nat × Nat × TypeId)} {len cap : Nat} {l : List Int} (h : Owns H base p len cap l) : RefsAt H p len cap l := by
  obtain ⟨h1, h2, h3⟩ := h
  refine ⟨h1, h2, ?_⟩
  cases p with
  | none => exact h3
  | some q =>
    obtain ⟨n, q, s, e⟩ := q
    obtain ⟨a1, a2, a3, a4, a5, row, sl, b1, b2, b3⟩ := h3
    exact ⟨a1, a2, a3, a5, .inr ⟨_, row, b1, rfl, b2⟩⟩

theorem Owns.append {H D : Heap} {base : Nat} {p : Option (Nat × List Nat × Nat × TypeId)} {len cap : Nat} {l : List Int} (h : Owns H base p len cap l) : Owns (H ++ D) base p len cap l := by
  obtain ⟨h1, h2, h3⟩ := h
  refine ⟨h1, h2, ?_⟩
  cases p with
  | none => exact h3
  | some q =>
    obtain ⟨n, q, s, e⟩ := q
    obtain ⟨a1, a2, a3, a4, a5, row, sl, b1, b2, b3⟩ := h3
    exact ⟨a1, a2, a3, a4, by simp; omega, row, sl, by rw [List.getElem?_append_left a5]; exact b1, b2, b3⟩

theorem RefsAt.sl {H : Heap} {p : Option (Nat × List Nat × Nat × TypeId)} {len cap : Nat} {l : List Int} (h : RefsAt H p len cap l) :
    (p = none ∧ l = [] ∧ len = 0 ∧ cap = 0) ∨ (∃ n, p = some (n, [], 0, 3) ∧ n < H.length ∧ len = l.length ∧ len ≤ cap ∧ (l = [] ∨ ∃ b row, H[n]? = some b ∧ b.row? = some row ∧ row.take len = l.map fun x => AV.int .i64 x)) := by
  obtain ⟨h1, h2, h3⟩ := h
  cases p with
  | none =>
    simp only at h3
    subst h3
    have : l.length = 0 := by omega
    exact .inl ⟨rfl, List.eq_nil_of_length_eq_zero this, by omega, rfl⟩
  | some q =>
    obtain ⟨n, q, s, e⟩ := q
    obtain ⟨rfl, rfl, rfl, a4, a5⟩ := h3
    refine .inr ⟨n, rfl, a4, h1, h2, ?_⟩
    rcases a5 with a5 | a5
    · exact .inl (List.eq_nil_of_length_eq_zero (by omega))
    · exact .inr a5

theorem wtA_ints {P : Program} {e : TypeId} (h : leafT P (.int .i64 0) e = true) (l : List Int) : wtA P (l.map fun x => AV.int .i64 x) e = true :=
  wtA_map (f := fun x => AV.int .i64 x) (fun x => by
    simp only [wt]
    simp only [leafT] at h ⊢
    cases hu : P.underlying e with
    | none => simp [hu] at h
    | some d => rw [hu] at h; cases d <;> first | exact h | (simp [leafOK] at h)) l

/-! ### Ids that go together: two tables -/

def encM : List (Int × Int) → Nat → List (AV × AV × Nat)
  | [], _ => []
  | (a, b) :: r, k => (.int .i64 a, .int .i64 b, k) :: encM r (k + 1)

def lk (a : Int) : List (Int × Int) → Option Int
  | [] => none
  | (x, y) :: r => if a = x then some y else lk a r
def ixk (a : Int) : List (Int × Int) → Nat
  | [] => 0
  | (x, _) :: r => if a = x then 0 else ixk a r + 1

theorem find_enc (a : Int) : ∀ (l : List (Int × Int)) (k i : Nat), mapFindA (.int .i64 a) (encM l k) i = match lk a l with | none => some none | some y => some (some (i + ixk a l, .int .i64 y))
  | [], k, i => rfl
  | (x, y) :: r, k, i => by
      simp only [encM, mapFindA, keyEqA, if_true, lk, ixk]
      by_cases h : a = x
      · simp [h]
      · have : (a == x) = false := by simpa using h
        simp only [this, h, if_false]
        rw [find_enc a r (k + 1) (i + 1)]
        cases lk a r <;> simp
        omega

theorem encM_length : ∀ (l : List (Int × Int)) (k : Nat), (encM l k).length = l.length
  | [], _ => rfl
  | (_, _) :: r, k => by simp [encM, encM_length r (k + 1)]

theorem born_enc (e : AV × AV × Nat) : ∀ (l : List (Int × Int)) (k i c : Nat), c = k + l.length → e.2.2 = c → bornA (c : Int) (encM l k ++ [e]) i = some (i + l.length)
  | [], k, i, c, hc, he => by
      simp only [encM, List.nil_append, bornA, he, if_true]
      simp
  | (x, y) :: r, k, i, c, hc, he => by
      simp only [List.length_cons] at hc
      simp only [encM, List.cons_append, bornA]
      rw [if_neg (by omega), born_enc e r (k + 1) (i + 1) c (by omega) he]
      simp; omega

theorem modify_enc (e : AV × AV × Nat) (f : AV × AV × Nat → AV × AV × Nat) : ∀ (l : List (Int × Int)) (k : Nat), (encM l k ++ [e]).modify l.length f = encM l k ++ [f e]
  | [], k => rfl
  | (x, y) :: r, k => by
      simp only [encM, List.cons_append, List.length_cons, List.modify_succ_cons]
      rw [modify_enc e f r (k + 1)]

theorem born_enc0 (x y : AV) (l : List (Int × Int)) : bornA (l.length : Int) (encM l 0 ++ [(x, y, l.length)]) 0 = some l.length := by
  rw [born_enc _ l 0 0 l.length (by omega) rfl]; simp

theorem encM_snoc (a b : Int) : ∀ (l : List (Int × Int)) (k : Nat), encM (l ++ [(a, b)]) k = encM l k ++ [(.int .i64 a, .int .i64 b, k + l.length)]
  | [], k => rfl
  | (x, y) :: r, k => by
      simp only [encM, List.cons_append, List.length_cons]
      rw [encM_snoc a b r (k + 1)]
      congr 3
      simp; omega

structure Prs where
  there : List (Int × Int)
  back : List (Int × Int)

/-- Do two ids go together? -/
def pm (p : Prs) (a b : Int) : Bool × Prs :=
  match lk a p.there, lk b p.back with
  | none, none => (true, ⟨p.there ++ [(a, b)], p.back ++ [(b, a)]⟩)
  | some x, some y => (decide (x = b) && decide (y = a), p)
  | _, _ => (false, p)

def tIn (a b : Tn) : Bool := decide (a.m ||| b.m = a.m) && decide (b.v &&& ~~~a.m = a.v &&& ~~~a.m)
def scIn (a b : Sc) : Bool := decide (a.lo ≤ b.lo) && decide (b.hi ≤ a.hi) && tIn a.t b.t

def pReg (p : Prs) (a b : Rg) : Bool × Prs :=
  if a.kind = 0 then (true, p)
  else if a.kind ≠ b.kind ∨ a.mp ≠ b.mp ∨ a.sz ≠ b.sz ∨ scIn a.num b.num = false then (false, p)
  else if a.kind = 8 ∨ a.kind = 9 ∨ a.kind = 10 then pm p a.id b.id else (true, p)

def orI (a b : Int) : Int := IntKind.i64.wrap (BitVec.ofInt 64 a ||| BitVec.ofInt 64 b).toNat

def pSlot (p : Prs) (a b : Sl) : Bool × Prs :=
  if a = lz ∨ a.kind = 0 then (true, p)
  else if a.kind = 1 then (decide (a.known = 0) || (decide (b.kind = 2) && decide (b.reg.kind = 1)) || (decide (b.kind = 1) && decide (orI a.known b.known = b.known)), p)
  else if b.kind = 2 then pReg p a.reg b.reg else (false, p)

/-- Both in turn, as long as it is so. -/
def pAll {α : Type} (f : Prs → α → α → Bool × Prs) : Prs → List α → List α → Bool × Prs
  | p, a :: l, b :: m => if (f p a b).1 then pAll f (f p a b).2 l m else (false, (f p a b).2)
  | p, _, _ => (true, p)

/-- Two rows of ids. -/
def pRefs (p : Prs) (l m : List Int) : Bool × Prs := if l.length = m.length then pAll pm p l m else (false, p)

theorem pAll_step {α : Type} {f : Prs → α → α → Bool × Prs} {p : Prs} {l m : List α} {i : Nat} {x y : α} (hx : l[i]? = some x) (hy : m[i]? = some y) :
    pAll f p (l.drop i) (m.drop i) = if (f p x y).1 then pAll f (f p x y).2 (l.drop (i + 1)) (m.drop (i + 1)) else (false, (f p x y).2) := by
  have h1 : i < l.length := (List.getElem?_eq_some_iff.1 hx).1
  have h2 : i < m.length := (List.getElem?_eq_some_iff.1 hy).1
  have e1 : l[i] = x := (List.getElem?_eq_some_iff.1 hx).2
  have e2 : m[i] = y := (List.getElem?_eq_some_iff.1 hy).2
  rw [List.drop_eq_getElem_cons h1, List.drop_eq_getElem_cons h2, e1, e2, pAll]

theorem pAll_end {α : Type} {f : Prs → α → α → Bool × Prs} {p : Prs} {l m : List α} {i : Nat} (h : l.length ≤ i) : pAll f p (l.drop i) (m.drop i) = (true, p) := by
  rw [List.drop_eq_nil_of_le h]; cases m.drop i <;> rfl

def inF (ra rb : List Rg) (sa sb : List Sl) (la lb : List Int) (ga gb : Int) : Bool :=
  (pAll pReg ⟨[], []⟩ ra rb).1 && (pAll pSlot (pAll pReg ⟨[], []⟩ ra rb).2 sa sb).1 && (pRefs (pAll pSlot (pAll pReg ⟨[], []⟩ ra rb).2 sa sb).2 la lb).1 && decide (ga ≤ gb)

theorem getElem?_of_lt {α : Type} {l : List α} {i : Nat} (h : i < l.length) : ∃ x, l[i]? = some x := ⟨l[i], List.getElem?_eq_getElem h⟩

theorem wrap_succ {i : Nat} (h : i < 2 ^ 60) : IntKind.i64.wrap ((i : Int) + 1) = ((i + 1 : Nat) : Int) := by
  rw [wrap_i64_of (by omega) (by omega)]; simp

abbrev eP (H : Heap) (t : TypeId) (p : Prs) : Heap := H ++ [.map (encM p.there 0) p.there.length, .map (encM p.back 0) p.back.length, .cells t [.ag [.map (some H.length), .map (some (H.length + 1))]] false]

end Go.Av
