import Derived.Test.YtlonpljlojgclaaAvStateLaw
set_option linter.unusedSimpArgs false
set_option linter.unusedVariables false
namespace Go.Av
open Go

/-! ## The document's own table of ids that go together -/

def rtIn (a b : Tn) : Bool := decide (b.m &&& ~~~a.m = 0#64) && decide ((a.v ^^^ b.v) &&& ~~~a.m = 0#64)

theorem rtIn_eq (a b : Tn) : rtIn a b = tIn a b := by
  unfold rtIn tIn
  congr 1
  · rw [Bool.eq_iff_iff]; simp only [decide_eq_true_eq]
    constructor
    · intro h
      apply BitVec.eq_of_getLsbD_eq
      intro i hi
      have := bit_of h i
      simp only [BitVec.getLsbD_and, BitVec.getLsbD_or, BitVec.getLsbD_not, BitVec.getLsbD_zero, hi, decide_true, Bool.true_and] at this ⊢
      revert this; cases a.m.getLsbD i <;> cases b.m.getLsbD i <;> simp
    · intro h
      apply BitVec.eq_of_getLsbD_eq
      intro i hi
      have := bit_of h i
      simp only [BitVec.getLsbD_and, BitVec.getLsbD_or, BitVec.getLsbD_not, BitVec.getLsbD_zero, hi, decide_true, Bool.true_and] at this ⊢
      revert this; cases a.m.getLsbD i <;> cases b.m.getLsbD i <;> simp
  · rw [Bool.eq_iff_iff]; simp only [decide_eq_true_eq]
    constructor
    · intro h
      apply BitVec.eq_of_getLsbD_eq
      intro i hi
      have := bit_of h i
      simp only [BitVec.getLsbD_and, BitVec.getLsbD_xor, BitVec.getLsbD_not, BitVec.getLsbD_zero, hi, decide_true, Bool.true_and] at this ⊢
      revert this; cases a.m.getLsbD i <;> cases a.v.getLsbD i <;> cases b.v.getLsbD i <;> simp
    · intro h
      apply BitVec.eq_of_getLsbD_eq
      intro i hi
      have := bit_of h i
      simp only [BitVec.getLsbD_and, BitVec.getLsbD_xor, BitVec.getLsbD_not, BitVec.getLsbD_zero, hi, decide_true, Bool.true_and] at this ⊢
      revert this; cases a.m.getLsbD i <;> cases a.v.getLsbD i <;> cases b.v.getLsbD i <;> simp

abbrev Tab := List (Int × Int)

/-- The first pair that has either of two ids. -/
def hit (a b : Int) : Tab → Option (Int × Int)
  | [] => none
  | (x, y) :: r => if x = a ∨ y = b then some (x, y) else hit a b r

def tm (l : Tab) (a b : Int) : Bool × Tab :=
  match hit a b l with
  | some (x, y) => (decide (x = a) && decide (y = b), l)
  | none => (true, l ++ [(a, b)])

def tReg (l : Tab) (a b : Rg) : Bool × Tab :=
  if a.kind = 0 then (true, l)
  else if a.kind ≠ b.kind ∨ a.mp ≠ b.mp ∨ a.sz ≠ b.sz ∨ scIn a.num b.num = false then (false, l)
  else if a.kind = 8 ∨ a.kind = 9 ∨ a.kind = 10 then tm l a.id b.id else (true, l)

def andNotI (a b : Int) : Int := IntKind.i64.wrap (BitVec.ofInt 64 a &&& ~~~BitVec.ofInt 64 b).toNat

def tSlot (l : Tab) (a b : Sl) : Bool × Tab :=
  if a.kind = 0 then (true, l)
  else if a.kind = 1 then (decide (a.known = 0) || (decide (b.kind = 1) && decide (andNotI a.known b.known = 0)) || (decide (b.kind = 2) && decide (b.reg.kind = 1)), l)
  else if b.kind = 2 then tReg l a.reg b.reg else (false, l)

theorem tm_len (l : Tab) (a b : Int) : (tm l a b).2.length ≤ l.length + 1 := by
  unfold tm; split <;> simp
theorem tReg_len (l : Tab) (a b : Rg) : (tReg l a b).2.length ≤ l.length + 1 := by
  unfold tReg; split
  · simp
  split
  · simp
  split
  · exact tm_len _ _ _
  · simp
theorem tSlot_len (l : Tab) (a b : Sl) : (tSlot l a b).2.length ≤ l.length + 1 := by
  unfold tSlot; split
  · simp
  split
  · simp
  split
  · exact tReg_len _ _ _
  · simp

def tAll {α : Type} (f : Tab → α → α → Bool × Tab) : Tab → List α → List α → Bool × Tab
  | p, a :: l, b :: m => if (f p a b).1 then tAll f (f p a b).2 l m else (false, (f p a b).2)
  | p, _, _ => (true, p)

theorem tAll_step {α : Type} {f : Tab → α → α → Bool × Tab} {p : Tab} {l m : List α} {i : Nat} {x y : α} (hx : l[i]? = some x) (hy : m[i]? = some y) :
    tAll f p (l.drop i) (m.drop i) = if (f p x y).1 then tAll f (f p x y).2 (l.drop (i + 1)) (m.drop (i + 1)) else (false, (f p x y).2) := by
  have h1 : i < l.length := (List.getElem?_eq_some_iff.1 hx).1
  have h2 : i < m.length := (List.getElem?_eq_some_iff.1 hy).1
  have e1 : l[i] = x := (List.getElem?_eq_some_iff.1 hx).2
  have e2 : m[i] = y := (List.getElem?_eq_some_iff.1 hy).2
  rw [List.drop_eq_getElem_cons h1, List.drop_eq_getElem_cons h2, e1, e2, tAll]

theorem tAll_end {α : Type} {f : Tab → α → α → Bool × Tab} {p : Tab} {l m : List α} {i : Nat} (h : l.length ≤ i) : tAll f p (l.drop i) (m.drop i) = (true, p) := by
  rw [List.drop_eq_nil_of_le h]; cases m.drop i <;> rfl

def tRefs (p : Tab) (l m : List Int) : Bool × Tab := if l.length = m.length then tAll tm p l m else (false, p)

def rinF (ra rb : List Rg) (sa sb : List Sl) (la lb : List Int) (ga gb : Int) : Bool :=
  (tAll tReg [] ra rb).1 && (tAll tSlot (tAll tReg [] ra rb).2 sa sb).1 && (tRefs (tAll tSlot (tAll tReg [] ra rb).2 sa sb).2 la lb).1 && decide (ga ≤ gb)

/-- A table in memory: behind H, its head at place H.length. -/
def TabAt (H E : Heap) (l : Tab) : Prop :=
  (∃ F, E = H ++ F) ∧ H.length < E.length ∧
  ((l = [] ∧ E[H.length]? = some (.cells 89 [.ag [.sl none 0 0, .sl none 0 0]] false)) ∨
    ∃ i j, i ≠ j ∧ H.length < i ∧ H.length < j ∧ i < E.length ∧ j < E.length ∧
      E[H.length]? = some (.cells 89 [.ag [.sl (some (i, [], 0, 3)) l.length l.length, .sl (some (j, [], 0, 3)) l.length l.length]] false) ∧
      E[i]? = some (.cells 3 (l.map fun x => AV.int .i64 x.1) true) ∧ E[j]? = some (.cells 3 (l.map fun x => AV.int .i64 x.2) true))

theorem hit_step {a b x y : Int} {l : Tab} {i : Nat} (h : l[i]? = some (x, y)) : hit a b (l.drop i) = if x = a ∨ y = b then some (x, y) else hit a b (l.drop (i + 1)) := by
  have h1 : i < l.length := (List.getElem?_eq_some_iff.1 h).1
  have e1 : l[i] = (x, y) := (List.getElem?_eq_some_iff.1 h).2
  rw [List.drop_eq_getElem_cons h1, e1, hit]

end Go.Av
