import Derived.Test.YtlonpljlojgclaaAvOk6
set_option linter.unusedSimpArgs false
set_option linter.unusedVariables false
namespace Go.Av
open Go

/-! ## Code in a plain form, and what its runs are -/

structure Foot where
  rb : List Nat
  wb : List Nat
  hr : Bool
  hw : Bool
  deriving DecidableEq, Inhabited

structure SOp where
  dst : Option Nat
  op : Op
  g : Option (Nat × Bool)

inductive SC where
  | skip
  | region (ops : List SOp)
  | draw (ops : List (SOp × Foot))
  | draws (R : Nat) (ops : List (SOp × Foot))
  | seq (a b : SC)
  | cond (c : Operand) (x y : SC)
  | block (id : Nat) (b : SC)
  | loop (b : SC)
  | exit (id : Nat)
  | ret
  | scope (b : SC)
  | label (l : Nat)
  | goto (l : Nat)

inductive Out where
  | ret (v : AV)
  | panic (v : AV)

inductive XE where
  | normal
  | exit (id : Nat)
  | goto (l : Nat)
  | ret
  | panic (v : AV)

section
variable (P : Program)

def ORel (g : List G) : Out → Ending → Prop
  | .ret v, e => ∃ v', e = .returned v' ∧ VRel P g v v'
  | .panic v, e => ∃ v', e = .panicked [{ v := v', recovered := false }] ∧ VRel P g v v'

def ERel (g : List G) : XE → Exit → Prop
  | .normal, e => e = .normal
  | .exit id, e => e = .exit id
  | .goto l, e => e = .goto l
  | .ret, e => e = .ret
  | .panic v, e => ∃ v', e = .panic [{ v := v', recovered := false }] ∧ VRel P g v v'

def callOK (f : FuncId) : Prop := ∀ args w, (callFunc f args).run P w = .ok (.enter f args) w

/-- What a call comes to: from any memory that the heap describes. -/
structure CallRuns (f : FuncId) (args : List AV) (H : Heap) (out : Out) (H' : Heap) : Prop where
  ok : callOK P f
  run : ∀ g w args', Sim P g H w → TRelL P g args args' →
    Calls P f args'.toArray w (fun e w' => ∃ g', ORel P g' out e ∧ Sim P g' H' w' ∧ Ext g (OwnH g H) w g' (OwnH g' H') w')

def CPost (N : Nat) (g : List G) (bx : Nat → Option G) (S : St) (w : World) (a : Act) (e : XE) (S' : St) : Exit → Act → World → Prop :=
  fun x a' w' => ∃ g' bx', ERel P g' e x ∧ SRel P N g' bx' S' a' w' ∧ a'.defers = a.defers ∧ Ext g (Own g S.heap bx) w g' (Own g' S'.heap bx') w'

/-- What code comes to: from any frame and memory that the state describes. -/
def CRun (N : Nat) (c : Code) (S : St) (e : XE) (S' : St) : Prop :=
  ∀ g bx a w, SRel P N g bx S a w → c.wp P (CPost P N g bx S w a e S') a w

end

def undefA : AV := .tup []

def St.putO (S : St) (dst : Option Nat) (v : AV) : St :=
  match dst with
  | some d => { S with tmp := (d, v) :: S.tmp }
  | none => S

/-- Is an operation to be done? -/
def guardA (S : St) : Option (Nat × Bool) → Option Bool
  | none => some true
  | some (d, want) => match tget S.tmp d with
    | .bool b => some (b == want)
    | .tup [] => some false
    | _ => none

def calleeA : AV → Option (FuncId × List AV × List AV)
  | .fn (.func f) a b => some (f, a, b)
  | _ => none

/-- One operation: what follows it, or a panic. -/
def stepA (P : Program) (C : Cfg) (o : SOp) (S : St) (K : St → Prop) (Q : XE → St → Prop) : Prop :=
  match o.op with
  | .call { callee := .value f, args := as, argTypes := _ } =>
    match calleeA (evalA S.tmp f) with
    | some (f, a, b) =>
      freeAll (as.toList.map (evalA S.tmp)) = true ∧
      ∃ out H', CallRuns P f (a ++ as.toList.map (evalA S.tmp) ++ b) S.heap out H' ∧
        match out with
        | .ret v => K ({ S with heap := H' }.putO o.dst v)
        | .panic v => Q (.panic v) { S with heap := H' }
    | none => False
  | .panic x =>
    match evalA S.tmp x with
    | .ifc t v => Q (.panic (.ifc t v)) S
    | _ => False
  | op => match opFn P C o.dst op S.view with
    | some E => K ((S.app E).putO o.dst E.v)
    | none => False

def RWp (P : Program) (C : Cfg) : List SOp → (XE → St → Prop) → St → Prop
  | [], Q, S => Q .normal S
  | o :: r, Q, S => match guardA S o.g with
    | some true => stepA P C o S (RWp P C r Q) Q
    | some false => RWp P C r Q (S.putO o.dst undefA)
    | none => False

/-- Does an operation stay within its footprint? -/
def fitsFoot (C : Cfg) (F : Foot) (o : SOp) (ρ : Operand → AV) : Bool :=
  match o.op with
  | .load _ x => match ρ x with
    | .loc k _ _ => F.rb.contains k
    | _ => F.hr
  | .store _ x _ => match ρ x with
    | .loc k _ _ => F.wb.contains k
    | _ => F.hw
  | .alloc _ | .box _ _ | .buildSlice _ _ _ => match o.dst with
    | some d => if C.L.contains d then F.wb.contains d else F.hw
    | none => true
  | .makeSlice _ _ _ | .mapEntry _ _ _ | .entryStore _ _ _ _ | .insert _ _ _ _ | .mapUpdate _ _ _ _ => F.hw
  | .lookup _ _ _ _ => F.hr
  | .makeFunc _ _ _ => true
  | .move _ | .assign _ | .pick _ _ _ | .build _ _ | .nilCheck _ | .binOp _ _ _ _ _ | .unOp _ _ _ | .convert _ _ _ | .fieldAddr _ _ _ | .indexAddr _ _ _ | .field _ _ _ | .index _ _ _ | .extract _ _ | .slice _ _ _ _ _ => true
  | .call { callee := .builtin b, args := as, .. } => match b with
    | .len | .max | .min => true
    | _ => F.hw && as.toList.all fun x => match ρ x with
        | .lsl k _ _ _ _ _ => F.rb.contains k
        | _ => true
  | .call { callee := .value _, .. } => F.hw
  | _ => false

/-- The mark of a load of a block that nothing in the region changes. -/
def stableN : Nat := 1000000

/-- Does an operation stay within its footprint, if the blocks of prot stay as they are? -/
def fitsFootS (C : Cfg) (prot : List Nat) (F : Foot) (o : SOp) (ρ : Operand → AV) : Bool :=
  match o.op with
  | .load _ x => match ρ x with
    | .loc k _ _ => F.rb.contains k
    | .ptr (some (n, _, _)) => F.hr || (F.rb.contains stableN && prot.contains n)
    | _ => F.hr
  | _ => fitsFoot C F o ρ

def noPanic (Q : XE → St → Prop) : XE → St → Prop
  | .panic _, _ => False
  | e, S => Q e S

def RWpD (P : Program) (C : Cfg) : List (SOp × Foot) → (XE → St → Prop) → St → Prop
  | [], Q, S => Q .normal S
  | o :: r, Q, S => match guardA S o.1.g with
    | some true => fitsFoot C o.2 o.1 (evalA S.tmp) = true ∧ stepA P C o.1 S (RWpD P C r Q) (fun _ _ => False)
    | some false => RWpD P C r Q (S.putO o.1.dst undefA)
    | none => False

def RWpS (P : Program) (C : Cfg) (prot : List Nat) (H0 : Heap) : Nat → List (SOp × Foot) → (XE → St → Prop) → St → Prop
  | r, [], Q, S => (r ≠ 0 → ∀ n ∈ prot, S.heap[n]? = H0[n]?) ∧ Q .normal S
  | r, o :: l, Q, S => (r ≠ 0 → ∀ n ∈ prot, S.heap[n]? = H0[n]?) ∧ match guardA S o.1.g with
    | some true => fitsFootS C prot o.2 o.1 (evalA S.tmp) = true ∧ stepA P C o.1 S (RWpS P C prot H0 (r - 1) l Q) (fun _ _ => False)
    | some false => RWpS P C prot H0 (r - 1) l Q (S.putO o.1.dst undefA)
    | none => False

def thenK (K : St → Prop) (Q : XE → St → Prop) : XE → St → Prop
  | .normal, S => K S
  | e, S => Q e S

def inBlockK (id : Nat) (Q : XE → St → Prop) : XE → St → Prop
  | .exit id', S => if id' = id then Q .normal S else Q (.exit id') S
  | e, S => Q e S

/-- Does S1 say no more than S2? -/
structure Weaker (S1 S2 : St) : Prop where
  tmp : ∀ t, tget S1.tmp t = .junk ∨ tget S1.tmp t = tget S2.tmp t
  box : ∀ k, bget S1.box k = none ∨ bget S1.box k = bget S2.box k
  loc : ∀ t k p T, tget S1.tmp t = .loc k p T → bget S1.box k ≠ none
  lsl : ∀ t k p s e l c, tget S1.tmp t = .lsl k p s e l c → bget S1.box k ≠ none
  heap : S1.heap = S2.heap

def LoopN (W : (XE → St → Prop) → St → Prop) : Nat → (XE → St → Prop) → St → Prop
  | 0, _, _ => False
  | n + 1, Q, S => W (thenK (fun S' => ∃ S'', Weaker S'' S' ∧ LoopN W n Q S'') Q) S

def LoopWp (W : (XE → St → Prop) → St → Prop) (Q : XE → St → Prop) (S : St) : Prop := ∃ n, LoopN W n Q S

def hasL : SC → Nat → Bool
  | .seq a b, l => hasL a l || hasL b l
  | .label l', l => l' == l
  | _, _ => false

/-- Jumps, at most so many. -/
def jumpK (W : Nat → (XE → St → Prop) → St → Prop) : Nat → (XE → St → Prop) → XE → St → Prop
  | 0, Q, e, S => match e with
    | .goto _ => False
    | e => Q e S
  | n + 1, Q, e, S => match e with
    | .goto l => ∃ S', Weaker S' S ∧ W l (jumpK W n Q) S'
    | e => Q e S

mutual
def SWp (P : Program) (C : Cfg) : SC → (XE → St → Prop) → St → Prop
  | .skip, Q, S => Q .normal S
  | .region ops, Q, S => RWp P C ops Q S
  | .draw ops, Q, S => RWpD P C ops Q S
  | .draws R ops, Q, S => ∃ prot, RWpS P C prot S.heap (R + 1) ops Q S
  | .seq a b, Q, S => SWp P C a (thenK (SWp P C b Q) Q) S
  | .cond c x y, Q, S => match evalA S.tmp c with
    | .bool t => (t = true → SWp P C x Q S) ∧ (t = false → SWp P C y Q S)
    | _ => False
  | .block id b, Q, S => SWp P C b (inBlockK id Q) S
  | .loop b, Q, S => ∃ S0, Weaker S0 S ∧ LoopWp (SWp P C b) Q S0
  | .exit id, Q, S => Q (.exit id) S
  | .ret, Q, S => Q .ret S
  | .scope b, Q, S => ∃ n, SWp P C b (jumpK (fun l => SFrom P C b l) n Q) S
  | .label _, Q, S => Q .normal S
  | .goto l, Q, S => Q (.goto l) S
/-- From a label on. -/
def SFrom (P : Program) (C : Cfg) : SC → Nat → (XE → St → Prop) → St → Prop
  | .seq a b, l, Q, S => if hasL a l then SFrom P C a l (thenK (SWp P C b Q) Q) S else SFrom P C b l Q S
  | .label l', l, Q, S => if l' = l then Q .normal S else False
  | .skip, _, _, _ => False
  | .region _, _, _, _ => False
  | .draw _, _, _, _ => False
  | .draws _ _, _, _, _ => False
  | .cond _ _ _, _, _, _ => False
  | .block _ _, _, _, _ => False
  | .loop _, _, _, _ => False
  | .exit _, _, _, _ => False
  | .ret, _, _, _ => False
  | .scope _, _, _, _ => False
  | .goto _, _, _, _ => False
end

/-! ### From the program's own code -/

def guardOf (ops : Array Oper) (o : Oper) : Option (Nat × Bool) → Option (Option (Nat × Bool))
  | none => some none
  | some (j, want) => match (ops[j]?).bind (·.dst) with
    | some d => some (some (d, want))
    | none => none

def sopOf (C : Cfg) (ops : Array Oper) (o : Oper) : Option SOp :=
  if o.dst.all (· < C.N) then match guardOf ops o o.guard with
    | some g => some ⟨o.dst, o.op, g⟩
    | none => none
  else none

def sopsOf (C : Cfg) (ops : Array Oper) : List Oper → Option (List SOp)
  | [] => some []
  | o :: r => match sopOf C ops o, sopsOf C ops r with
    | some x, some y => some (x :: y)
    | _, _ => none

/-- Where a slot's pointer leads: a local box, as far as the region itself tells. -/
def rootOf (C : Cfg) (ops : List Oper) : Nat → Nat → Option Nat
  | 0, _ => none
  | n + 1, t => if C.L.contains t then some t else
    match ops.find? (fun o => o.dst == some t) with
    | some { op := .fieldAddr _ (.tmp x) _, .. } => rootOf C ops n x
    | some { op := .indexAddr _ (.tmp x) _, .. } => rootOf C ops n x
    | some { op := .move (.tmp x), .. } => rootOf C ops n x
    | _ => none

def footOf (C : Cfg) (ops : List Oper) (o : Oper) : Foot :=
  match o.op with
  | .load _ (.tmp x) => match rootOf C ops 8 x with
    | some k => ⟨[k], [], false, false⟩
    | none => ⟨C.L, [], true, false⟩
  | .store _ (.tmp x) _ => match rootOf C ops 8 x with
    | some k => ⟨[], [k], false, false⟩
    | none => ⟨[], C.L, false, true⟩
  | .alloc _ | .box _ _ | .buildSlice _ _ _ => match o.dst with
    | some d => if C.L.contains d then ⟨[], [d], false, false⟩ else ⟨[], [], false, true⟩
    | none => ⟨[], [], false, false⟩
  | .makeSlice _ _ _ => ⟨[], [], false, true⟩
  | .lookup _ _ _ _ => ⟨[], [], true, false⟩
  | .makeFunc _ _ _ => ⟨[], [], false, false⟩
  | .move _ | .assign _ | .pick _ _ _ | .build _ _ | .nilCheck _ | .binOp _ _ _ _ _ | .unOp _ _ _ | .convert _ _ _ | .fieldAddr _ _ _ | .indexAddr _ _ _ | .field _ _ _ | .index _ _ _ | .extract _ _ | .slice _ _ _ _ _ => ⟨[], [], false, false⟩
  | .call { callee := .builtin b, args := as, .. } => match b with
    | .len | .max | .min => ⟨[], [], false, false⟩
    | .append => match as.toList with
      | [_, .tmp x] => match rootOf C ops 8 x with
        | some k => ⟨[k], [], true, true⟩
        | none => ⟨C.L, [], true, true⟩
      | _ => ⟨C.L, [], true, true⟩
    | _ => ⟨C.L, [], true, true⟩
  | _ => ⟨[], [], true, true⟩

/-- May two operations come in either order? -/
def Foot.apart (x y : Foot) : Bool :=
  x.wb.all (fun k => !y.rb.contains k && !y.wb.contains k) && y.wb.all (fun k => !x.rb.contains k) && !(x.hw && (y.hr || y.hw)) && !(y.hw && x.hr)

def edgesBack (ops : List Oper) : Bool :=
  (List.range ops.length).all fun i => (ops.getD i default).after.toList.all fun e => !Region.binds .any e || e.on < i

def befStep (acc : List Nat) (o : Oper) : Nat := o.after.toList.foldr (fun e s => if Region.binds .any e then s ||| (2 ^ e.on ||| acc.getD e.on 0) else s) 0

/-- Of each operation which ones come before it in any order: bit by bit. -/
def befGo : List Oper → List Nat → List Nat
  | [], acc => acc
  | o :: r, acc => befGo r (acc ++ [befStep acc o])

def pairsApart (ops : Array Oper) (fs : List Foot) (bef : List Nat) : Bool :=
  (List.range ops.size).all fun j => (List.range j).all fun i =>
    (bef.getD j 0).testBit i || (((ops.getD i default).apart ops (ops.getD j default)) && (fs.getD i default).apart (fs.getD j default))

/-- From R on whatever writes memory comes behind all loads of blocks that stay. -/
def released (fs : List Foot) (bef : List Nat) (n R : Nat) : Bool :=
  (List.range n).all fun i => !(fs.getD i default).rb.contains stableN || (decide (i < R) && (List.range n).all fun j => decide (j < R) || !(fs.getD j default).hw || (bef.getD j 0).testBit i)

def releaseOf (fs : List Foot) (bef : List Nat) (n : Nat) : Nat := ((List.range n).find? (released fs bef n)).getD n

/-- A load of a block that nothing in the region changes. -/
def stableF (o : Oper) (F : Foot) : Foot :=
  match o.op with
  | .load _ _ => if F.hr then ⟨[stableN], F.wb, false, F.hw⟩ else F
  | _ => F

def toSC (C : Cfg) : Code → Option SC
  | .skip => some .skip
  | .region _ ops d =>
    match sopsOf C ops ops.toList with
    | some l =>
      if d then
        let fs := ops.toList.map (footOf C ops.toList)
        if edgesBack ops.toList && pairsApart ops fs (befGo ops.toList []) then some (.draw (l.zip fs)) else
        let fs2 := ops.toList.map fun o => stableF o (footOf C ops.toList o)
        if edgesBack ops.toList && pairsApart ops fs2 (befGo ops.toList []) then some (.draws (releaseOf fs2 (befGo ops.toList []) ops.size) (l.zip fs2)) else none
      else some (.region l)
    | none => none
  | .seq a b => match toSC C a, toSC C b with
    | some x, some y => some (.seq x y)
    | _, _ => none
  | .cond c a b => match toSC C a, toSC C b with
    | some x, some y => some (.cond c x y)
    | _, _ => none
  | .block id b => (toSC C b).map (.block id)
  | .loop b => (toSC C b).map .loop
  | .exit id => some (.exit id)
  | .scope b => (toSC C b).map .scope
  | .label l => some (.label l)
  | .goto l => some (.goto l)
  | .ret => some .ret
  | .rangeFunc _ _ _ _ => none
  | .refuse _ => none

end Go.Av
