import Derived.Test.YtlonpljlojgclaaAvUpd
namespace Go.Av
open Go

/-! ## The operations on abstract values -/

structure Cfg where
  N : Nat
  L : List Nat
  Z : TypeId → Option AV

structure View where
  ρ : Operand → AV
  bget : Nat → Option BoxC
  hget : Nat → Option Blk
  hlen : Nat

structure Eff where
  v : AV
  bw : Option (Nat × BoxC)
  hs : List (Nat × Blk)
  hp : List Blk

def pv (v : AV) : Option Eff := some ⟨v, none, [], []⟩

def constA : Value → AV
  | .bool b => .bool b
  | .int k n => .int k n
  | .string s => .str s
  | .pointer none => .ptr none
  | .slice none 0 0 => .sl none 0 0
  | .map none => .map none
  | .nilFunc => .nilFn
  | .nilIface => .nilIfc
  | _ => .junk

def evalA (tmp : List (Nat × AV)) : Operand → AV
  | .tmp t => tget tmp t
  | .const v => constA v
  | .global _ => .junk
  | .func f => .fn (.func f) [] []

def St.view (S : St) : View := ⟨evalA S.tmp, bget S.box, fun n => S.heap[n]?, S.heap.length⟩

def hset (H : Heap) : List (Nat × Blk) → Heap
  | [] => H
  | (n, b) :: r => hset (H.set n b) r

def St.app (S : St) (E : Eff) : St :=
  { tmp := S.tmp, box := match E.bw with | some kb => kb :: S.box | none => S.box, heap := hset S.heap E.hs ++ E.hp }

def intBin (op : BinOp) (k : IntKind) (a b : Int) : Option AV :=
  match op with
  | .add => some (.int k (k.wrap (a + b)))
  | .sub => some (.int k (k.wrap (a - b)))
  | .mul => some (.int k (k.wrap (a * b)))
  | .quo => if b = 0 then none else some (.int k (k.wrap (a.tdiv b)))
  | .rem => if b = 0 then none else some (.int k (a.tmod b))
  | .and => some (.int k (k.wrap (BitVec.ofInt k.bits a &&& BitVec.ofInt k.bits b).toNat))
  | .or => some (.int k (k.wrap (BitVec.ofInt k.bits a ||| BitVec.ofInt k.bits b).toNat))
  | .xor => some (.int k (k.wrap (BitVec.ofInt k.bits a ^^^ BitVec.ofInt k.bits b).toNat))
  | .andNot => some (.int k (k.wrap (BitVec.ofInt k.bits a &&& ~~~ BitVec.ofInt k.bits b).toNat))
  | .eql => some (.bool (a == b))
  | .neq => some (.bool (a != b))
  | .lss => some (.bool (a < b))
  | .leq => some (.bool (a ≤ b))
  | .gtr => some (.bool (a > b))
  | .geq => some (.bool (a ≥ b))
  | .shl | .shr => none

def shiftA (op : BinOp) (k : IntKind) (a b : Int) : Option AV :=
  if b < 0 then none else
  match op with
  | .shl => some (.int k (k.wrap (a * 2 ^ min b.toNat k.bits)))
  | .shr => some (.int k (a.fdiv (2 ^ min b.toNat k.bits)))
  | _ => none

mutual
def eqA : AV → AV → Option Bool
  | .bool a, .bool b => some (a == b)
  | .int k a, .int k' b => if k = k' then some (a == b) else none
  | .str a, .str b => some (a.toList == b.toList)
  | .ag l, .ag m => eqL l m
  | _, _ => none
def eqL : List AV → List AV → Option Bool
  | [], [] => some true
  | a :: l, b :: m => match eqA a b, eqL l m with
    | some x, some y => some (x && y)
    | _, _ => none
  | _, _ => none
end

/-- May values of a type be compared by eqA? -/
def eqOK (P : Program) : Nat → TypeId → Bool
  | 0, _ => false
  | d + 1, t => match P.underlying t with
    | some .bool | some (.int _) | some .string => true
    | some (.struct fs) => !P.stoodInHeld t && fs.toList.all fun f => f.name != "_" && eqOK P d f.type
    | some (.array _ e) => eqOK P d e
    | _ => false

def isNilA : AV → Option Bool
  | .ptr none | .sl none _ _ | .map none | .nilFn | .nilIfc => some true
  | .ptr (some _) | .sl (some _) _ _ | .map (some _) | .fn _ _ _ | .ifc _ _ => some false
  | _ => none

/-- Against nil. -/
def nilEqA (P : Program) (t : TypeId) (x y : AV) : Option Bool :=
  match P.underlying t, x, y with
  | some (.slice _), .sl p _ _, .sl none _ _ => some p.isNone
  | some (.map _ _), .map p, .map none => some p.isNone
  | some (.pointer _), .ptr p, .ptr none => some p.isNone
  | some (.func _ _ _), .nilFn, .nilFn => some true
  | some (.func _ _ _), .fn _ _ _, .nilFn => some false
  | _, _, _ => none

/-- '==' -/
def eqlA (P : Program) (t : TypeId) (x y : AV) : Option Bool :=
  match x, y with
  | .bool a, .bool b => match P.underlying t with
    | some .bool => some (a == b)
    | _ => none
  | .ag l, .ag m => if eqOK P 20 t && wt P (.ag l) t && wt P (.ag m) t && !P.eqGuardType P.depth t then eqL l m else none
  | x, y => nilEqA P t x y

def strBin (op : BinOp) (a b : ByteArray) : Option AV :=
  match op with
  | .eql => some (.bool (a.toList == b.toList))
  | .neq => some (.bool (!(a.toList == b.toList)))
  | .add => if a.size + b.size ≤ 2 ^ 48 then some (.str (a ++ b)) else none
  | _ => none

def binA (P : Program) (op : BinOp) (t : TypeId) (x y : AV) : Option AV :=
  match x, y with
  | .int k a, .int k' b => if op = .shl ∨ op = .shr then shiftA op k a b else if k = k' then intBin op k a b else none
  | .str a, .str b => strBin op a b
  | x, y => match op with
    | .eql => (eqlA P t x y).map fun b => .bool b
    | .neq => (eqlA P t x y).map fun b => .bool (!b)
    | _ => none

def unA (op : UnOp) (x : AV) : Option AV :=
  match op, x with
  | .not, .bool b => some (.bool (!b))
  | .neg, .int k n => some (.int k (k.wrap (0 - n)))
  | _, _ => none

def convA (P : Program) (s d : TypeId) (x : AV) : Option AV :=
  match P.underlying s, P.underlying d, x with
  | some _, some (.int k), .int _ n => some (.int k (k.wrap n))
  | _, _, _ => none

def Blk.row? : Blk → Option (List AV)
  | .cells _ l _ => some l
  | .ro _ l => some l
  | _ => none

def loadA (V : View) (t : TypeId) : AV → Option AV
  | .ptr (some (n, p, T)) => if T = t then match (V.hget n).bind Blk.row? with
      | some l => getP (.ag l) p
      | none => none
    else none
  | .loc k p T => if T = t then match V.bget k with
      | some (_, l) => getP (.ag l) p
      | none => none
    else none
  | _ => none

def storeA (P : Program) (V : View) (t : TypeId) (y : AV) : AV → Option Eff
  | .ptr (some (n, p, T)) => if T = t ∧ wt P y t = true then match V.hget n with
      | some (.cells u l s) => match setP (.ag l) p y with
        | some (.ag l') => some ⟨.tup [], none, [(n, .cells u l' s)], []⟩
        | _ => none
      | _ => none
    else none
  | .loc k p T => if T = t ∧ wt P y t = true then match V.bget k with
      | some (u, l) => match setP (.ag l) p y with
        | some (.ag l') => some ⟨.tup [], some (k, (u, l')), [], []⟩
        | _ => none
      | none => none
    else none
  | _ => none

def allocA (C : Cfg) (V : View) (dst : Option Tmp) (t : TypeId) (z : AV) : Option Eff :=
  match dst with
  | none => none
  | some d =>
    if C.L.contains d then match V.bget d with
      | none => some ⟨.loc d [0] t, some (d, (t, [z])), [], []⟩
      | some _ => none
    else some ⟨.ptr (some (V.hlen, [0], t)), none, [], [.cells t [z] false]⟩

def rowA (C : Cfg) (V : View) (dst : Option Tmp) (e : TypeId) (l : List AV) : Option Eff :=
  match dst with
  | none => none
  | some d =>
    if C.L.contains d then match V.bget d with
      | none => some ⟨.lsl d [] 0 e l.length l.length, some (d, (e, l)), [], []⟩
      | some _ => none
    else some ⟨.sl (some (V.hlen, [], 0, e)) l.length l.length, none, [], [.cells e l false]⟩

def fillA (P : Program) (ty : Nat → Option TypeId) : List (Nat × AV) → List AV → Option (List AV)
  | [], l => some l
  | (i, v) :: r, l => match ty i with
    | some t => if wt P v t then fillA P ty r (l.set i v) else none
    | none => none

def buildA (P : Program) (C : Cfg) (t : TypeId) (parts : List (Nat × AV)) : Option AV :=
  match C.Z t with
  | some (.ag l) => match P.underlying t with
    | some (.struct fs) => (fillA P (fun i => (fs.toList[i]?).map fun f => f.type) parts l).map .ag
    | some (.array n e) => if n = 0 then none else (fillA P (fun i => if i < n then some e else none) parts l).map .ag
    | _ => none
  | _ => none

def fieldAddrA (P : Program) (s : TypeId) (f : Nat) (x : AV) : Option AV :=
  match P.underlying s with
  | some (.struct fs) => match fs.toList[f]? with
    | some fl => if P.cellsOf fl.type = 0 then none else match x with
      | .ptr (some (n, p, T)) => if T = s then some (.ptr (some (n, p ++ [f], fl.type))) else none
      | .loc k p T => if T = s then some (.loc k (p ++ [f]) fl.type) else none
      | _ => none
    | none => none
  | _ => none

def indexAddrA (P : Program) (t : TypeId) (x ix : AV) : Option AV :=
  match ix with
  | .int _ i => match P.underlying t with
    | some (.array n e) => if P.cellsOf e ≠ 0 ∧ 0 ≤ i ∧ i < n then match x with
        | .ptr (some (b, p, T)) => if T = t then some (.ptr (some (b, p ++ [i.toNat], e))) else none
        | .loc k p T => if T = t then some (.loc k (p ++ [i.toNat]) e) else none
        | _ => none
      else none
    | some (.slice e) => match x with
      | .sl (some (b, p, s, E)) len _ => if E = e ∧ P.cellsOf e ≠ 0 ∧ 0 ≤ i ∧ i < len then some (.ptr (some (b, p ++ [s + i.toNat], e))) else none
      | .lsl k p s E len _ => if E = e ∧ P.cellsOf e ≠ 0 ∧ 0 ≤ i ∧ i < len then some (.loc k (p ++ [s + i.toNat]) e) else none
      | _ => none
    | _ => none
  | _ => none

def fieldA (P : Program) (t : TypeId) (f : Nat) (x : AV) : Option AV :=
  match x with
  | .ag l => match P.underlying t with
    | some (.struct _) => if wt P (.ag l) t then l[f]? else none
    | _ => none
  | _ => none

def indexA (P : Program) (t : TypeId) (x ix : AV) : Option AV :=
  match ix with
  | .int _ i => match P.underlying t, x with
    | some (.array n _), .ag l => if 0 ≤ i ∧ i < n ∧ wt P (.ag l) t = true then l[i.toNat]? else none
    | some .string, .str s => if 0 ≤ i then match s[i.toNat]? with
        | some b => some (.int .u8 b.toNat)
        | none => none
      else none
    | _, _ => none
  | _ => none

def extractA (i : Nat) : AV → Option AV
  | .tup l => l[i]?
  | _ => none

def natOf : AV → Option Nat
  | .int _ i => if 0 ≤ i then some i.toNat else none
  | _ => none

def boundA (dflt top : Nat) : Option AV → Option Nat
  | none => some dflt
  | some v => match natOf v with
    | some i => if i ≤ top then some i else none
    | none => none

def sliceA (P : Program) (t : TypeId) (x : AV) (lo hi mx : Option AV) : Option AV :=
  if mx.isSome ∧ hi.isNone then none else
  match P.underlying t, x with
  | some (.slice e), .sl (some (b, p, s, E)) len cap =>
    if E = e ∧ P.cellsOf e ≠ 0 then match boundA cap cap mx with
      | some m => match boundA len m hi with
        | some h => match boundA 0 h lo with
          | some l => some (.sl (some (b, p, s + l, e)) (h - l) (m - l))
          | none => none
        | none => none
      | none => none
    else none
  | some (.slice e), .sl none _ _ =>
    if P.cellsOf e = 0 then none else
    match boundA 0 0 mx with
    | some _ => match boundA 0 0 hi with
      | some _ => match boundA 0 0 lo with
        | some _ => some (.sl none 0 0)
        | none => none
      | none => none
    | none => none
  | _, _ => none

def lenA (P : Program) (t : TypeId) (x : AV) : Option AV :=
  match P.underlying t, x with
  | some .string, .str s => some (.int .i64 s.size)
  | some (.slice _), .sl _ n _ => some (.int .i64 n)
  | some (.slice _), .lsl _ _ _ _ n _ => some (.int .i64 n)
  | _, _ => none

def max2A : AV → AV → Option AV
  | .int k x, .int _ y => some (.int k (if y > x then y else x))
  | _, _ => none
def min2A : AV → AV → Option AV
  | .int k x, .int _ y => some (.int k (if y < x then y else x))
  | _, _ => none

def builtinA (P : Program) (_C : Cfg) (b : Builtin) (ts : List TypeId) (args : List AV) : Option AV :=
  match b, ts, args with
  | .len, t :: _, x :: _ => lenA P t x
  | .max, _, [x, y] => max2A x y
  | .min, _, [x, y] => min2A x y
  | _, _, _ => none

/-! Maps whose keys are numbers, strings or bools -/

def keyEqA : AV → AV → Option Bool
  | .int k a, .int k' b => if k = k' then some (a == b) else none
  | .str a, .str b => some (a == b)
  | .bool a, .bool b => some (a == b)
  | _, _ => none

def kindOK : TypeDesc → AV → Bool
  | .int _, .int _ _ => true
  | .string, .str _ => true
  | .bool, .bool _ => true
  | _, _ => false

def mapFindA (k : AV) : List (AV × AV × Nat) → Nat → Option (Option (Nat × AV))
  | [], _ => some none
  | e :: es, i => match keyEqA k e.1 with
    | some true => some (some (i, e.2.1))
    | some false => mapFindA k es (i + 1)
    | none => none

def mapPutA (P : Program) (V : View) (t : TypeId) (m k x : AV) : Option Eff :=
  match P.underlying t with
  | some (.map kt _) => match P.underlying kt with
    | some d => if kindOK d k && x.free then match m with
        | .map (some n) => match V.hget n with
          | some (.map es clock) => match mapFindA k es 0 with
            | some none => some ⟨.tup [], none, [(n, .map (es ++ [(k, x, clock)]) (clock + 1))], []⟩
            | some (some (i, _)) => some ⟨.tup [], none, [(n, .map (es.modify i fun e => (k, x, e.2.2)) clock)], []⟩
            | none => none
          | _ => none
        | _ => none
      else none
    | none => none
  | _ => none

def mapEs (V : View) : AV → Option (List (AV × AV × Nat))
  | .map none => some []
  | .map (some n) => match V.hget n with
    | some (.map es _) => some es
    | _ => none
  | _ => none

def mapGetA (P : Program) (C : Cfg) (V : View) (t : TypeId) (m k : AV) (ok : Bool) : Option AV :=
  match P.underlying t with
  | some (.map kt et) => match P.underlying kt with
    | some d => if kindOK d k then match mapEs V m with
        | some es => match mapFindA k es 0 with
          | some none => (C.Z et).map fun z => if ok then .tup [z, .bool false] else z
          | some (some (_, v)) => some (if ok then .tup [v, .bool true] else v)
          | none => none
        | none => none
      else none
    | none => none
  | _ => none

/-! Rows that grow -/

/-- What lies in a slice. -/
def elemsA (V : View) (e : TypeId) (x : AV) : Option (List AV) :=
  match x with
  | .sl none len _ => if len = 0 then some [] else none
  | .sl (some (n, p, s, E)) len _ => if len = 0 then some [] else
    match p with
    | [] => if E = e then match (V.hget n).bind Blk.row? with
        | some l => if s + len ≤ l.length then some ((l.drop s).take len) else none
        | none => none
      else none
    | _ => none
  | .lsl k p s E len _ => if len = 0 then some [] else
    match p with
    | [] => if E = e then match V.bget k with
        | some (_, l) => if s + len ≤ l.length then some ((l.drop s).take len) else none
        | none => none
      else none
    | _ => none
  | _ => none

/-- A row's cells from a place on, others in their place. -/
def putRow (l : List AV) (k : Nat) (xs : List AV) : List AV := l.take k ++ (xs ++ l.drop (k + xs.length))

def sizeOK (P : Program) (e : TypeId) (n : Nat) : Bool := decide (n * P.bytesOf e ≤ 2 ^ 47) && decide (n ≤ 2 ^ 47)

def growA (P : Program) (C : Cfg) (V : View) (e : TypeId) (hs : List (Nat × Blk)) (l : List AV) : Option Eff :=
  if sizeOK P e l.length && (C.Z e).isSome then some ⟨.sl (some (V.hlen, [], 0, e)) l.length l.length, none, hs, [.cells e l true]⟩ else none

def appendA (P : Program) (C : Cfg) (V : View) (t tx : TypeId) (s x : AV) : Option Eff :=
  match P.underlying t, P.underlying tx with
  | some (.slice e), some (.slice _) =>
    if P.cellsOf e = 0 then none else
    match elemsA V e x with
    | none => none
    | some xs =>
      if xs.length = 0 then match s with
        | .sl none _ _ => pv (.sl none 0 0)
        | .sl (some q) len cap => pv (.sl (some q) len cap)
        | _ => none
      else match s with
        | .sl none _ _ => growA P C V e [] xs
        | .sl (some (n, [], st, E)) len cap =>
          if E = e ∧ st + len ≤ st + cap then
            match V.hget n with
            | some (.cells u l sl) =>
              if len + xs.length ≤ cap then some ⟨.sl (some (n, [], st, e)) (len + xs.length) cap, none, [(n, .cells u (putRow l (st + len) xs) sl)], []⟩
              else growA P C V e (if sl && st + cap == l.length then [(n, .dead)] else []) ((l.drop st).take len ++ xs)
            | some (.ro u l) => if len + xs.length ≤ cap then none else growA P C V e [] ((l.drop st).take len ++ xs)
            | _ => none
          else none
        | _ => none
  | _, _ => none

def makeSliceA (P : Program) (C : Cfg) (V : View) (t : TypeId) (len cap : AV) : Option Eff :=
  match P.underlying t with
  | some (.slice e) => match natOf len, natOf cap with
    | some n, some m => if n ≤ m ∧ sizeOK P e m = true ∧ P.cellsOf e ≠ 0 then
        if m = 0 then some ⟨.sl (some (V.hlen, [], 0, e)) n m, none, [], [.cells e [] false]⟩
        else match C.Z e with
          | some z => some ⟨.sl (some (V.hlen, [], 0, e)) n m, none, [], [.cells e (List.replicate m z) false]⟩
          | none => none
      else none
    | _, _ => none
  | _ => none

def clearA (P : Program) (C : Cfg) (V : View) (t : TypeId) (x : AV) : Option Eff :=
  match P.underlying t, x with
  | some (.slice e), .sl p len _ =>
    if len = 0 then pv (.tup []) else match p with
      | some (n, [], s, E) => match V.hget n, C.Z e with
        | some (.cells u l sl), some z => if E = e ∧ s + len ≤ l.length then some ⟨.tup [], none, [(n, .cells u (putRow l s (List.replicate len z)) sl)], []⟩ else none
        | _, _ => none
      | _ => none
  | _, _ => none

/-- A map's entry, there or new, and its stamp. -/
def mapEntryA (P : Program) (C : Cfg) (V : View) (t : TypeId) (m k : AV) : Option Eff :=
  match P.underlying t with
  | some (.map kt et) => match P.underlying kt with
    | some d => if kindOK d k then match m with
        | .map (some n) => match V.hget n with
          | some (.map es clock) => match mapFindA k es 0 with
            | some none => match C.Z et with
              | some z => some ⟨.tup [z, .int .i64 (clock : Nat)], none, [(n, .map (es ++ [(k, z, clock)]) (clock + 1))], []⟩
              | none => none
            | some (some (i, v)) => match es[i]? with
              | some (_, _, b) => some ⟨.tup [v, .int .i64 (b : Nat)], none, [(n, .map (es.modify i fun e => (k, e.2.1, e.2.2)) clock)], []⟩
              | none => none
            | none => none
          | _ => none
        | _ => none
      else none
    | none => none
  | _ => none

def bornA (s : Int) : List (AV × AV × Nat) → Nat → Option Nat
  | [], _ => none
  | e :: es, i => if (e.2.2 : Int) = s then some i else bornA s es (i + 1)

def entryStoreA (V : View) (m st x : AV) : Option Eff :=
  match m, st with
  | .map (some n), .int _ s => if x.free then match V.hget n with
      | some (.map es clock) => match bornA s es 0 with
        | some i => some ⟨.tup [], none, [(n, .map (es.modify i fun e => (e.1, x, e.2.2)) clock)], []⟩
        | none => none
      | _ => none
    else none
  | _, _ => none

def freeAll : List AV → Bool
  | [] => true
  | v :: l => v.free && freeAll l

def makeFuncA (f : Fn) (a b : List AV) : Option Eff :=
  match f with
  | .func f => if freeAll a && freeAll b then pv (.fn (.func f) a b) else none
  | _ => none

def builtinE (P : Program) (C : Cfg) (V : View) (b : Builtin) (ts : List TypeId) (args : List AV) : Option Eff :=
  match b, ts, args with
  | .append, [t, tx], [s, x] => appendA P C V t tx s x
  | .clear, [t], [x] => clearA P C V t x
  | b, ts, args => (builtinA P C b ts args).bind pv

/-- One operation that is no call of a Go function. -/
def opFn (P : Program) (C : Cfg) (dst : Option Tmp) (op : Op) (V : View) : Option Eff :=
  match op with
  | .move x | .assign x => pv (V.ρ x)
  | .pick c x y => match V.ρ c with
    | .bool b => pv (if b then V.ρ x else V.ρ y)
    | _ => none
  | .alloc t => match C.Z t with
    | some z => allocA C V dst t z
    | none => none
  | .box t x => if wt P (V.ρ x) t then allocA C V dst t (V.ρ x) else none
  | .build t ps => (buildA P C t (ps.toList.map fun q => (q.1, V.ρ q.2))).bind pv
  | .buildSlice t n ps => match P.underlying t with
    | some (.slice e) => if P.cellsOf e ≠ 0 ∧ n * P.cellsOf e ≤ 2 ^ 24 then
        match (if n = 0 then some [] else (C.Z e).map fun z => List.replicate n z) with
        | some l => match fillA P (fun i => if i < n then some e else none) (ps.toList.map fun q => (q.1, V.ρ q.2)) l with
          | some l' => rowA C V dst e l'
          | none => none
        | none => none
      else none
    | _ => none
  | .load t x => (loadA V t (V.ρ x)).bind pv
  | .store t x y => storeA P V t (V.ρ y) (V.ρ x)
  | .nilCheck x => match V.ρ x with
    | .ptr (some q) => pv (.ptr (some q))
    | .loc k p t => pv (.loc k p t)
    | _ => none
  | .binOp op t x y _ => (binA P op t (V.ρ x) (V.ρ y)).bind pv
  | .unOp op _ x => (unA op (V.ρ x)).bind pv
  | .convert s d x => (convA P s d (V.ρ x)).bind pv
  | .fieldAddr s x f => (fieldAddrA P s f (V.ρ x)).bind pv
  | .indexAddr t x i => (indexAddrA P t (V.ρ x) (V.ρ i)).bind pv
  | .field t x f => (fieldA P t f (V.ρ x)).bind pv
  | .index t x i => (indexA P t (V.ρ x) (V.ρ i)).bind pv
  | .extract x i => (extractA i (V.ρ x)).bind pv
  | .slice t x lo hi mx => (sliceA P t (V.ρ x) (lo.map V.ρ) (hi.map V.ρ) (mx.map V.ρ)).bind pv
  | .makeMap _ none => some ⟨.map (some V.hlen), none, [], [.map [] 0]⟩
  | .insert t m k x => mapPutA P V t (V.ρ m) (V.ρ k) (V.ρ x)
  | .mapUpdate t m k x => mapPutA P V t (V.ρ m) (V.ρ k) (V.ρ x)
  | .lookup t m k ok => (mapGetA P C V t (V.ρ m) (V.ρ k) ok).bind pv
  | .call { callee := .builtin b, args, argTypes } => builtinE P C V b argTypes.toList (args.toList.map V.ρ)
  | .makeSlice t l c => makeSliceA P C V t (V.ρ l) (V.ρ c)
  | .makeFunc f a b => makeFuncA f (a.toList.map V.ρ) (b.toList.map V.ρ)
  | .mapEntry t m k => mapEntryA P C V t (V.ρ m) (V.ρ k)
  | .entryStore _ m s x => entryStoreA V (V.ρ m) (V.ρ s) (V.ρ x)
  | _ => none

end Go.Av
