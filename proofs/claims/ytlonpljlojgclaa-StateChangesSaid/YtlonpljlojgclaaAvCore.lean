import Derived.WalkKit
namespace Go.Av
open Go

/-! ## Abstract values: trees; heap names are list positions, paths are lists of indices. -/

inductive AV where
  | bool (b : Bool)
  | int (k : IntKind) (n : Int)
  | str (s : ByteArray)
  | ptr (p : Option (Nat × List Nat × TypeId))
  | loc (k : Nat) (p : List Nat) (t : TypeId)
  | sl (p : Option (Nat × List Nat × Nat × TypeId)) (len cap : Nat)
  | lsl (k : Nat) (p : List Nat) (start : Nat) (e : TypeId) (len cap : Nat)
  | map (r : Option Nat)
  | fn (f : Fn) (first captured : List AV)
  | nilFn
  | ifc (t : TypeId) (v : AV)
  | nilIfc
  | ag (l : List AV)
  | tup (l : List AV)
  | junk
  deriving Inhabited

def AV.isAg : AV → Bool
  | .ag _ => true
  | _ => false

def isAggD : TypeDesc → Bool
  | .struct _ | .array _ _ => true
  | _ => false

def isAggV : Value → Bool
  | .agg _ => true
  | _ => false

/-- What the proof knows of a heap name: the real block, where the row begins in it, its elements' type, how many, whether the real one may be longer, and how many cells the real block has. -/
structure G where
  blk : Nat
  base : Nat
  ty : TypeId
  len : Nat
  slop : Bool
  rsize : Nat

section
variable (P : Program)

/-- The offset and the type of what lies at a path in a variable of type t. -/
def offT : List Nat → TypeId → Option (Nat × TypeId)
  | [], t => some (0, t)
  | i :: p, t =>
    match P.underlying t with
    | some (.struct fs) =>
      match fs.toList[i]? with
      | some f => (offT p f.type).map fun x => (f.offset + x.1, x.2)
      | none => none
    | some (.array n e) => if i < n then (offT p e).map fun x => (i * P.cellsOf e + x.1, x.2) else none
    | _ => none

/-- The same in a row of variables of type t. -/
def offR (t : TypeId) : List Nat → Option (Nat × TypeId)
  | [] => none
  | i :: p => (offT P p t).map fun x => (i * P.cellsOf t + x.1, x.2)

/-- Where a row of e begins: the block's own row, or an array within it. -/
def contOff (ty : TypeId) (p : List Nat) (e : TypeId) : Option (Nat × Nat) :=
  match p with
  | [] => none
  | i :: q =>
    match offR P ty (i :: q) with
    | some (o, a) => match P.underlying a with
      | some (.array n e') => if e' = e then some (o, n) else none
      | _ => none
    | none => none

/-- A pointer into the block that x tells of. -/
def PtrOk (x : G) (p : List Nat) (t : TypeId) (v : Value) : Prop :=
  ∃ o, offR P x.ty p = some (o, t) ∧ p.headD 0 < x.len ∧ v = .pointer (some ⟨x.blk, x.base + o, none⟩)

/-- A slice's address and capacity, against what is known of its block. -/
def SlOk (x : G) (p : List Nat) (start : Nat) (e : TypeId) (len cap : Nat) (v : Value) : Prop :=
  ∃ a cap', v = .slice (some a) len cap' ∧ len ≤ cap ∧ cap ≤ cap' ∧
    (match p with
     | [] => x.ty = e ∧ start + cap ≤ x.len ∧ (cap' = cap ∨ (x.slop = true ∧ start + cap = x.len)) ∧
        (cap' = 0 ∨ (a = ⟨x.blk, x.base + start * P.cellsOf e, none⟩ ∧ x.base + (start + cap') * P.cellsOf e ≤ x.rsize))
     | i :: q => ∃ o m, contOff P x.ty (i :: q) e = some (o, m) ∧ i < x.len ∧ start + cap ≤ m ∧ cap' = cap ∧
        (cap' = 0 ∨ a = ⟨x.blk, x.base + (o + start * P.cellsOf e), none⟩))

variable (g : List G)

mutual
def FRel : AV → List Value → Prop
  | .bool b, cs => cs = [.bool b]
  | .int k n, cs => cs = [.int k n]
  | .str s, cs => cs = [.string s]
  | .ptr none, cs => cs = [.pointer none]
  | .ptr (some (n, p, t)), cs => ∃ x v, g[n]? = some x ∧ cs = [v] ∧ PtrOk P x p t v
  | .loc _ _ _, _ => False
  | .sl none len cap, cs => len = 0 ∧ cap = 0 ∧ cs = [.slice none 0 0]
  | .sl (some (n, p, start, e)) len cap, cs => ∃ x v, g[n]? = some x ∧ cs = [v] ∧ SlOk P x p start e len cap v
  | .lsl _ _ _ _ _ _, _ => False
  | .map none, cs => cs = [.map none]
  | .map (some n), cs => ∃ x, g[n]? = some x ∧ cs = [.map (some x.blk)]
  | .fn f a b, cs => ∃ a' b', cs = [.func f a' b'] ∧ TRelL a a'.toList ∧ TRelL b b'.toList
  | .nilFn, cs => cs = [.nilFunc]
  | .ifc t v, cs => ∃ v', cs = [.iface t v'] ∧ FRel v v'.cells.toList ∧ v.isAg = isAggV v'
  | .nilIfc, cs => cs = [.nilIface]
  | .ag l, cs => FRelL l cs
  | .tup l, cs => ∃ vs, cs = [.tuple vs] ∧ TRelL l vs.toList
  | .junk, _ => False
def FRelL : List AV → List Value → Prop
  | [], cs => cs = []
  | v :: r, cs => ∃ c1 c2, cs = c1 ++ c2 ∧ FRel v c1 ∧ FRelL r c2
def TRelL : List AV → List Value → Prop
  | [], vs => vs = []
  | v :: r, vs => ∃ v' r', vs = v' :: r' ∧ FRel v v'.cells.toList ∧ v.isAg = isAggV v' ∧ TRelL r r'
end

/-- A value against a real one. -/
def VRel (v : AV) (v' : Value) : Prop := FRel P g v v'.cells.toList ∧ v.isAg = isAggV v'

end

section
variable (P : Program)
/-- Is a value of a single cell one of a type? -/
def leafOK : AV → TypeDesc → Bool
  | .bool _, .bool => true
  | .int k _, .int k' => k == k'
  | .str _, .string => true
  | .ptr _, .pointer _ => true
  | .sl _ _ _, .slice _ => true
  | .map _, .map _ _ => true
  | .fn _ _ _, .func _ _ _ => true
  | .nilFn, .func _ _ _ => true
  | .ifc _ _, .interface _ => true
  | .nilIfc, .interface _ => true
  | _, _ => false
def leafT (v : AV) (t : TypeId) : Bool :=
  P.cellsOf t == 1 && match P.underlying t with
    | some d => leafOK v d
    | none => false
mutual
/-- Has a value the shape of a type? -/
def wt : AV → TypeId → Bool
  | .ag l, t =>
    match P.underlying t with
    | some (.struct fs) => wtF l fs.toList 0 (P.cellsOf t)
    | some (.array n e) => l.length == n && P.cellsOf t == n * P.cellsOf e && wtA l e
    | _ => false
  | v, t => leafT P v t
def wtF : List AV → List Field → Nat → Nat → Bool
  | [], [], off, size => off == size
  | v :: l, f :: fs, off, size => f.offset == off && wt v f.type && wtF l fs (off + P.cellsOf f.type) size
  | _, _, _, _ => false
def wtA : List AV → TypeId → Bool
  | [], _ => true
  | v :: l, e => wt v e && wtA l e
end
end

def getP : AV → List Nat → Option AV
  | v, [] => some v
  | .ag l, i :: p => match l[i]? with
    | some x => getP x p
    | none => none
  | _, _ :: _ => none

def setP : AV → List Nat → AV → Option AV
  | _, [], u => some u
  | .ag l, i :: p, u => match l[i]? with
    | some x => (setP x p u).map fun y => .ag (l.set i y)
    | none => none
  | _, _ :: _, _ => none

end Go.Av
