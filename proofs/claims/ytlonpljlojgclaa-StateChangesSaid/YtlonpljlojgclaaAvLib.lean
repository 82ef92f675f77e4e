import Derived.Test.YtlonpljlojgclaaAvRow
set_option linter.unusedSimpArgs false
set_option linter.unusedVariables false
namespace Go.Av
open Go

/-! ## Runs by rewriting: each piece of code opened only where it is reached -/

/-- Keeps rewriting out of what is not reached yet. -/
inductive Dm.{u} {α : Sort u} (a : α) : Type
  | mk

def brK (o : Option Bool) (A B : Prop) (_ : Dm A) (_ : Dm B) : Prop :=
  match o with
  | some true => A
  | some false => B
  | none => False

@[simp ↓] theorem brK_true {A B : Prop} {a : Dm A} {b : Dm B} : brK (some true) A B a b = A := rfl
@[simp ↓] theorem brK_false {A B : Prop} {a : Dm A} {b : Dm B} : brK (some false) A B a b = B := rfl
theorem brK_split {b : Bool} {A B : Prop} {x : Dm A} {y : Dm B} (h1 : b = true → A) (h2 : b = false → B) : brK (some b) A B x y := by
  cases b
  · exact h2 rfl
  · exact h1 rfl

def boolO : AV → Option Bool
  | .bool b => some b
  | _ => none
@[simp] theorem boolO_bool (b : Bool) : boolO (.bool b) = some b := rfl

def effK (E : Option Eff) (d : Option Nat) (S : St) (K : St → Prop) (_ : Dm S) (_ : Dm K) : Prop :=
  match E with
  | some E => K ((S.app E).putO d E.v)
  | none => False

@[simp] theorem effK_v {v : AV} {d : Nat} {tmp : List (Nat × AV)} {box : List (Nat × BoxC)} {heap : Heap} {K : St → Prop} {x : Dm (⟨tmp, box, heap⟩ : St)} {y : Dm K} : effK (some ⟨v, none, [], []⟩) (some d) ⟨tmp, box, heap⟩ K x y = K ⟨(d, v) :: tmp, box, heap⟩ := by simp [effK, St.app, St.putO, hset]
@[simp] theorem effK_v0 {v : AV} {tmp : List (Nat × AV)} {box : List (Nat × BoxC)} {heap : Heap} {K : St → Prop} {x : Dm (⟨tmp, box, heap⟩ : St)} {y : Dm K} : effK (some ⟨v, none, [], []⟩) none ⟨tmp, box, heap⟩ K x y = K ⟨tmp, box, heap⟩ := by simp [effK, St.app, St.putO, hset]
@[simp] theorem effK_b {v : AV} {kb : Nat × BoxC} {d : Nat} {tmp : List (Nat × AV)} {box : List (Nat × BoxC)} {heap : Heap} {K : St → Prop} {x : Dm (⟨tmp, box, heap⟩ : St)} {y : Dm K} : effK (some ⟨v, some kb, [], []⟩) (some d) ⟨tmp, box, heap⟩ K x y = K ⟨(d, v) :: tmp, kb :: box, heap⟩ := by simp [effK, St.app, St.putO, hset]
@[simp] theorem effK_b0 {v : AV} {kb : Nat × BoxC} {tmp : List (Nat × AV)} {box : List (Nat × BoxC)} {heap : Heap} {K : St → Prop} {x : Dm (⟨tmp, box, heap⟩ : St)} {y : Dm K} : effK (some ⟨v, some kb, [], []⟩) none ⟨tmp, box, heap⟩ K x y = K ⟨tmp, kb :: box, heap⟩ := by simp [effK, St.app, St.putO, hset]
@[simp] theorem effK_h {v : AV} {n : Nat} {b : Blk} {d : Nat} {tmp : List (Nat × AV)} {box : List (Nat × BoxC)} {heap : Heap} {K : St → Prop} {x : Dm (⟨tmp, box, heap⟩ : St)} {y : Dm K} : effK (some ⟨v, none, [(n, b)], []⟩) (some d) ⟨tmp, box, heap⟩ K x y = K ⟨(d, v) :: tmp, box, heap.set n b⟩ := by simp [effK, St.app, St.putO, hset]
@[simp] theorem effK_h0 {v : AV} {n : Nat} {b : Blk} {tmp : List (Nat × AV)} {box : List (Nat × BoxC)} {heap : Heap} {K : St → Prop} {x : Dm (⟨tmp, box, heap⟩ : St)} {y : Dm K} : effK (some ⟨v, none, [(n, b)], []⟩) none ⟨tmp, box, heap⟩ K x y = K ⟨tmp, box, heap.set n b⟩ := by simp [effK, St.app, St.putO, hset]
@[simp] theorem effK_hp {v : AV} {n : Nat} {b b' : Blk} {d : Nat} {tmp : List (Nat × AV)} {box : List (Nat × BoxC)} {heap : Heap} {K : St → Prop} {x : Dm (⟨tmp, box, heap⟩ : St)} {y : Dm K} : effK (some ⟨v, none, [(n, b)], [b']⟩) (some d) ⟨tmp, box, heap⟩ K x y = K ⟨(d, v) :: tmp, box, heap.set n b ++ [b']⟩ := by simp [effK, St.app, St.putO, hset]
@[simp] theorem effK_p {v : AV} {b : Blk} {d : Nat} {tmp : List (Nat × AV)} {box : List (Nat × BoxC)} {heap : Heap} {K : St → Prop} {x : Dm (⟨tmp, box, heap⟩ : St)} {y : Dm K} : effK (some ⟨v, none, [], [b]⟩) (some d) ⟨tmp, box, heap⟩ K x y = K ⟨(d, v) :: tmp, box, heap ++ [b]⟩ := by simp [effK, St.app, St.putO, hset]

/-- What is called, and with what. -/
def callO (f : AV) (args : List AV) : Option (FuncId × List AV) :=
  match calleeA f with
  | some (f, a, b) => if freeAll args then some (f, a ++ args ++ b) else none
  | none => none

def callK (P : Program) (c : Option (FuncId × List AV)) (d : Option Nat) (S : St) (K : St → Prop) (Q : XE → St → Prop) (_ : Dm S) (_ : Dm K) (_ : Dm Q) : Prop :=
  match c with
  | some (f, args) => ∃ out H', CallRuns P f args S.heap out H' ∧
      match out with
      | .ret v => K ({ S with heap := H' }.putO d v)
      | .panic v => Q (.panic v) { S with heap := H' }
  | none => False


theorem callK_ret {P : Program} {f : FuncId} {args : List AV} {d : Nat} {tmp : List (Nat × AV)} {box : List (Nat × BoxC)} {heap H' : Heap} {K : St → Prop} {Q : XE → St → Prop} {v : AV} {x : Dm (⟨tmp, box, heap⟩ : St)} {y : Dm K} {z : Dm Q} (h : CallRuns P f args heap (.ret v) H')
    (hK : K ⟨(d, v) :: tmp, box, H'⟩) : callK P (some (f, args)) (some d) ⟨tmp, box, heap⟩ K Q x y z := ⟨_, _, h, hK⟩

theorem callK_panic {P : Program} {f : FuncId} {args : List AV} {d : Option Nat} {tmp : List (Nat × AV)} {box : List (Nat × BoxC)} {heap H' : Heap} {K : St → Prop} {Q : XE → St → Prop} {v : AV} {x : Dm (⟨tmp, box, heap⟩ : St)} {y : Dm K} {z : Dm Q} (h : CallRuns P f args heap (.panic v) H')
    (hK : Q (.panic v) ⟨tmp, box, H'⟩) : callK P (some (f, args)) d ⟨tmp, box, heap⟩ K Q x y z := ⟨_, _, h, hK⟩

section
variable {P : Program} {C : Cfg} {Q : XE → St → Prop} {S S' : St} {K : St → Prop} {d : Option Nat} {g : Option (Nat × Bool)}


@[simp ↓] theorem SWp_skip : SWp P C .skip Q S = Q .normal S := by rw [SWp]
@[simp ↓] theorem SWp_region {l : List SOp} : SWp P C (.region l) Q S = RWp P C l Q S := by rw [SWp]
@[simp ↓] theorem SWp_draw {l : List (SOp × Foot)} : SWp P C (.draw l) Q S = RWpD P C l Q S := by rw [SWp]
@[simp ↓] theorem SWp_seq {a b : SC} : SWp P C (.seq a b) Q S = SWp P C a (thenK (SWp P C b Q) Q) S := by rw [SWp]
@[simp ↓] theorem SWp_block {id : Nat} {b : SC} : SWp P C (.block id b) Q S = SWp P C b (inBlockK id Q) S := by rw [SWp]
def loopK (P : Program) (C : Cfg) (b : SC) (Q : XE → St → Prop) (S : St) (_ : Dm b) (_ : Dm Q) (_ : Dm S) : Prop := ∃ S0, Weaker S0 S ∧ LoopWp (SWp P C b) Q S0
@[simp ↓] theorem SWp_loop {b : SC} : SWp P C (.loop b) Q S = loopK P C b Q S .mk .mk .mk := by rw [SWp]; rfl
@[simp ↓] theorem SWp_exit {id : Nat} : SWp P C (.exit id) Q S = Q (.exit id) S := by rw [SWp]
@[simp ↓] theorem SWp_ret : SWp P C .ret Q S = Q .ret S := by rw [SWp]
@[simp ↓] theorem SWp_label {l : Nat} : SWp P C (.label l) Q S = Q .normal S := by rw [SWp]
@[simp ↓] theorem SWp_goto {l : Nat} : SWp P C (.goto l) Q S = Q (.goto l) S := by rw [SWp]
@[simp ↓] theorem SWp_cond {c : Operand} {x y : SC} : SWp P C (.cond c x y) Q S = brK (boolO (evalA S.tmp c)) (SWp P C x Q S) (SWp P C y Q S) .mk .mk := by
  rw [SWp]
  cases h : evalA S.tmp c <;> simp [boolO, brK]
  rename_i b
  cases b <;> simp

def scopeK (P : Program) (C : Cfg) (b : SC) (Q : XE → St → Prop) (S : St) (_ : Dm b) (_ : Dm Q) (_ : Dm S) : Prop := ∃ n, SWp P C b (jumpK (fun l => SFrom P C b l) n Q) S
@[simp ↓] theorem SWp_scope {b : SC} : SWp P C (.scope b) Q S = scopeK P C b Q S .mk .mk .mk := by rw [SWp]; rfl
theorem scope_run {b : SC} {x : Dm b} {y : Dm Q} {z : Dm S} (n : Nat) (h : SWp P C b (jumpK (fun l => SFrom P C b l) n Q) S) : scopeK P C b Q S x y z := ⟨n, h⟩
@[simp ↓] theorem jumpK_normal {W : Nat → (XE → St → Prop) → St → Prop} {n : Nat} : jumpK W n Q .normal S = Q .normal S := by cases n <;> rfl
@[simp ↓] theorem jumpK_ret {W : Nat → (XE → St → Prop) → St → Prop} {n : Nat} : jumpK W n Q .ret S = Q .ret S := by cases n <;> rfl
@[simp ↓] theorem jumpK_exit {W : Nat → (XE → St → Prop) → St → Prop} {n i : Nat} : jumpK W n Q (.exit i) S = Q (.exit i) S := by cases n <;> rfl
@[simp ↓] theorem jumpK_panic {W : Nat → (XE → St → Prop) → St → Prop} {n : Nat} {v : AV} : jumpK W n Q (.panic v) S = Q (.panic v) S := by cases n <;> rfl
@[simp ↓] theorem SFrom_seq {a b : SC} {l : Nat} : SFrom P C (.seq a b) l Q S = if hasL a l then SFrom P C a l (thenK (SWp P C b Q) Q) S else SFrom P C b l Q S := by rw [SFrom]
@[simp ↓] theorem SFrom_label {l l' : Nat} : SFrom P C (.label l') l Q S = if l' = l then Q .normal S else False := by rw [SFrom]
attribute [simp] hasL

@[simp ↓] theorem RWp_nil : RWp P C [] Q S = Q .normal S := rfl
@[simp ↓] theorem RWp_cons {o : SOp} {r : List SOp} : RWp P C (o :: r) Q S = brK (guardA S o.g) (stepA P C o S (RWp P C r Q) Q) (RWp P C r Q (S.putO o.dst undefA)) .mk .mk := by
  rw [RWp]
  cases h : guardA S o.g with
  | none => simp [brK]
  | some b => cases b <;> simp [brK]
@[simp ↓] theorem RWpD_nil : RWpD P C [] Q S = Q .normal S := rfl
@[simp ↓] theorem RWpD_cons {o : SOp × Foot} {r : List (SOp × Foot)} : RWpD P C (o :: r) Q S = brK (guardA S o.1.g) (brK (some (fitsFoot C o.2 o.1 (evalA S.tmp))) (stepA P C o.1 S (RWpD P C r Q) (fun _ _ => False)) False .mk .mk) (RWpD P C r Q (S.putO o.1.dst undefA)) .mk .mk := by
  rw [RWpD]
  cases h : guardA S o.1.g with
  | none => simp [brK]
  | some b =>
    cases b
    · simp [brK]
    · cases h2 : fitsFoot C o.2 o.1 (evalA S.tmp) <;> simp [brK]

/-- And one condition more. -/
def andK (p A : Prop) (_ : Dm A) : Prop := p ∧ A
@[simp] theorem andK_true {A : Prop} {x : Dm A} : andK True A x = A := by simp [andK]
theorem andK_of {p A : Prop} {x : Dm A} (h1 : p) (h2 : A) : andK p A x := ⟨h1, h2⟩
def drawsK (P : Program) (C : Cfg) (R : Nat) (l : List (SOp × Foot)) (Q : XE → St → Prop) (S : St) (_ : Dm l) (_ : Dm Q) (_ : Dm S) : Prop := ∃ prot, RWpS P C prot S.heap (R + 1) l Q S
@[simp ↓] theorem SWp_draws {R : Nat} {l : List (SOp × Foot)} : SWp P C (.draws R l) Q S = drawsK P C R l Q S .mk .mk .mk := by rw [SWp]; rfl
theorem draws_run {R : Nat} {l : List (SOp × Foot)} {x : Dm l} {y : Dm Q} {z : Dm S} (prot : List Nat) {H0 : Heap} (hH : S.heap = H0) (h : RWpS P C prot H0 (R + 1) l Q S) : drawsK P C R l Q S x y z := by subst hH; exact ⟨prot, h⟩
@[simp ↓] theorem RWpS_nil {prot : List Nat} {H0 : Heap} {r : Nat} : RWpS P C prot H0 r [] Q S = andK (r ≠ 0 → ∀ n ∈ prot, S.heap[n]? = H0[n]?) (Q .normal S) .mk := rfl
@[simp ↓] theorem RWpS_cons {prot : List Nat} {H0 : Heap} {rr : Nat} {o : SOp × Foot} {r : List (SOp × Foot)} : RWpS P C prot H0 rr (o :: r) Q S = andK (rr ≠ 0 → ∀ n ∈ prot, S.heap[n]? = H0[n]?)
    (brK (guardA S o.1.g) (brK (some (fitsFootS C prot o.2 o.1 (evalA S.tmp))) (stepA P C o.1 S (RWpS P C prot H0 (rr - 1) r Q) (fun _ _ => False)) False .mk .mk) (RWpS P C prot H0 (rr - 1) r Q (S.putO o.1.dst undefA)) .mk .mk) .mk := by
  rw [RWpS]
  unfold andK
  congr 1
  cases h : guardA S o.1.g with
  | none => simp [brK]
  | some b =>
    cases b
    · simp [brK]
    · cases h2 : fitsFootS C prot o.2 o.1 (evalA S.tmp) <;> simp [brK]
@[simp] theorem prot_one {n : Nat} {H H0 : Heap} : (∀ k ∈ [n], H[k]? = H0[k]?) = (H[n]? = H0[n]?) := by simp
attribute [simp] fitsFootS stableN

@[simp ↓] theorem putO_some {tmp : List (Nat × AV)} {box : List (Nat × BoxC)} {heap : Heap} {d : Nat} {v : AV} : St.putO ⟨tmp, box, heap⟩ (some d) v = ⟨(d, v) :: tmp, box, heap⟩ := rfl
@[simp ↓] theorem putO_none {v : AV} : St.putO S none v = S := rfl
@[simp ↓] theorem guardA_none : guardA S none = some true := rfl
theorem guardA_some {t : Nat} {want : Bool} : guardA S (some (t, want)) = match tget S.tmp t with
    | .bool b => some (b == want)
    | .tup [] => some false
    | _ => none := rfl
@[simp] theorem guardA_some' {t : Nat} {want : Bool} : guardA S (some (t, want)) = (fun v => match v with
    | AV.bool b => some (b == want)
    | .tup [] => some false
    | _ => none) (tget S.tmp t) := rfl

@[simp] theorem tget_cons {k t : Nat} {v : AV} {r : List (Nat × AV)} : tget ((k, v) :: r) t = if t = k then v else tget r t := rfl
@[simp] theorem tget_nil {t : Nat} : tget [] t = .junk := rfl
@[simp] theorem bget_cons {k t : Nat} {v : BoxC} {r : List (Nat × BoxC)} : bget ((k, v) :: r) t = if t = k then some v else bget r t := rfl
@[simp] theorem bget_nil {t : Nat} : bget [] t = none := rfl
@[simp ↓] theorem thenK_normal : thenK K Q .normal S = K S := rfl
@[simp ↓] theorem thenK_exit {i : Nat} : thenK K Q (.exit i) S = Q (.exit i) S := rfl
@[simp ↓] theorem thenK_goto {i : Nat} : thenK K Q (.goto i) S = Q (.goto i) S := rfl
@[simp ↓] theorem thenK_ret : thenK K Q .ret S = Q .ret S := rfl
@[simp ↓] theorem thenK_panic {v : AV} : thenK K Q (.panic v) S = Q (.panic v) S := rfl
@[simp ↓] theorem inBlockK_normal {id : Nat} : inBlockK id Q .normal S = Q .normal S := rfl
@[simp ↓] theorem inBlockK_exit {id i : Nat} : inBlockK id Q (.exit i) S = if i = id then Q .normal S else Q (.exit i) S := rfl
@[simp ↓] theorem inBlockK_goto {id i : Nat} : inBlockK id Q (.goto i) S = Q (.goto i) S := rfl
@[simp ↓] theorem inBlockK_ret {id : Nat} : inBlockK id Q .ret S = Q .ret S := rfl
@[simp ↓] theorem inBlockK_panic {id : Nat} {v : AV} : inBlockK id Q (.panic v) S = Q (.panic v) S := rfl

def optK (o : Option AV) (R : Out → Heap → Prop) (H : Heap) : Prop :=
  match o with
  | some v => R (.ret v) H
  | none => False
@[simp] theorem optK_some {v : AV} {R : Out → Heap → Prop} {H : Heap} : optK (some v) R H = R (.ret v) H := rfl
@[simp ↓] theorem finK_normal {rs : List ResultVar} {R : Out → Heap → Prop} : finK rs R .normal S = optK (resultsA S rs) R S.heap := by
  simp only [finK, optK]; split <;> simp_all
@[simp ↓] theorem finK_ret {rs : List ResultVar} {R : Out → Heap → Prop} : finK rs R .ret S = optK (resultsA S rs) R S.heap := by
  simp only [finK, optK]; split <;> simp_all
@[simp ↓] theorem finK_panic {rs : List ResultVar} {R : Out → Heap → Prop} {v : AV} : finK rs R (.panic v) S = R (.panic v) S.heap := rfl
@[simp] theorem resultA_tmp {t : Nat} : resultA S (.tmp t) = (fun v => if v.free then some v else none) (tget S.tmp t) := rfl
@[simp] theorem resultA_cell {t : Nat} {T : TypeId} : resultA S (.cell t T) = loadA S.view T (tget S.tmp t) := rfl
@[simp] theorem resultsA_one {r : ResultVar} : resultsA S [r] = resultA S r := rfl
@[simp] theorem resultsA_none : resultsA S [] = some (.tup []) := rfl
def mapO (S : St) : List ResultVar → Option (List AV)
  | [] => some []
  | r :: l => match resultA S r, mapO S l with
    | some v, some vs => some (v :: vs)
    | _, _ => none
theorem mapO_eq : ∀ l : List ResultVar, l.mapM (resultA S) = mapO S l
  | [] => rfl
  | r :: l => by
      rw [List.mapM_cons, mapO_eq l]
      simp only [mapO]
      cases resultA S r <;> cases mapO S l <;> rfl
@[simp] theorem resultsA_two {r r' : ResultVar} {l : List ResultVar} : resultsA S (r :: r' :: l) = (mapO S (r :: r' :: l)).map .tup := by
  simp only [resultsA, mapO_eq]
attribute [simp] mapO argSlots St.view pv

attribute [simp] evalA undefA
@[simp] theorem free_bool {b : Bool} : (AV.bool b).free = true := rfl
@[simp] theorem free_int {k : IntKind} {n : Int} : (AV.int k n).free = true := rfl
@[simp] theorem free_str {s : ByteArray} : (AV.str s).free = true := rfl
@[simp] theorem free_ptr {p : Option (Nat × List Nat × TypeId)} : (AV.ptr p).free = true := rfl
@[simp] theorem free_sl {p : Option (Nat × List Nat × Nat × TypeId)} {l c : Nat} : (AV.sl p l c).free = true := rfl
@[simp] theorem free_map {p : Option Nat} : (AV.map p).free = true := rfl
@[simp] theorem free_fn {f : Fn} {a b : List AV} : (AV.fn f a b).free = true := rfl
@[simp] theorem free_nilFn : AV.nilFn.free = true := rfl
@[simp] theorem free_ifc {t : TypeId} {v : AV} : (AV.ifc t v).free = true := rfl
@[simp] theorem free_nilIfc : AV.nilIfc.free = true := rfl
@[simp] theorem free_ag {l : List AV} : (AV.ag l).free = true := rfl
@[simp] theorem free_tup {l : List AV} : (AV.tup l).free = true := rfl
@[simp] theorem free_loc {k : Nat} {p : List Nat} {t : TypeId} : (AV.loc k p t).free = false := rfl
@[simp] theorem free_lsl {k : Nat} {p : List Nat} {s : Nat} {t : TypeId} {l c : Nat} : (AV.lsl k p s t l c).free = false := rfl
@[simp] theorem free_junk : AV.junk.free = false := rfl

/-! Of each operation -/
@[simp ↓] theorem stepA_makeMap {t : TypeId} : stepA P C ⟨d, .makeMap t none, g⟩ S K Q = effK (some ⟨.map (some S.view.hlen), none, [], [.map [] 0]⟩) d S K .mk .mk := rfl
@[simp ↓] theorem stepA_insert {t : TypeId} {m k x : Operand} : stepA P C ⟨d, .insert t m k x, g⟩ S K Q = effK (mapPutA P S.view t (evalA S.tmp m) (evalA S.tmp k) (evalA S.tmp x)) d S K .mk .mk := rfl
@[simp ↓] theorem stepA_mapUpdate {t : TypeId} {m k x : Operand} : stepA P C ⟨d, .mapUpdate t m k x, g⟩ S K Q = effK (mapPutA P S.view t (evalA S.tmp m) (evalA S.tmp k) (evalA S.tmp x)) d S K .mk .mk := rfl
@[simp ↓] theorem stepA_lookup {t : TypeId} {m k : Operand} {ok : Bool} : stepA P C ⟨d, .lookup t m k ok, g⟩ S K Q = effK ((mapGetA P C S.view t (evalA S.tmp m) (evalA S.tmp k) ok).bind pv) d S K .mk .mk := rfl
attribute [simp] mapPutA mapGetA mapEs mapFindA kindOK keyEqA
@[simp] theorem set_last {H : Heap} {b b' : Blk} : (H ++ [b]).set H.length b' = H ++ [b'] := by simp
@[simp ↓] theorem stepA_move {x : Operand} : stepA P C ⟨d, .move x, g⟩ S K Q = effK (pv (evalA S.tmp x)) d S K .mk .mk := rfl
@[simp ↓] theorem stepA_assign {x : Operand} : stepA P C ⟨d, .assign x, g⟩ S K Q = effK (pv (evalA S.tmp x)) d S K .mk .mk := rfl
def pickA (c x y : AV) : Option AV :=
  match c with
  | .bool b => some (if b then x else y)
  | _ => none
@[simp ↓] theorem stepA_pick {c x y : Operand} : stepA P C ⟨d, .pick c x y, g⟩ S K Q = effK ((pickA (evalA S.tmp c) (evalA S.tmp x) (evalA S.tmp y)).bind pv) d S K .mk .mk := by
  simp only [stepA, opFn, St.view]
  cases evalA S.tmp c <;> rfl
@[simp] theorem pickA_bool {b : Bool} {x y : AV} : pickA (.bool b) x y = some (if b then x else y) := rfl
@[simp ↓] theorem stepA_alloc {t : TypeId} : stepA P C ⟨d, .alloc t, g⟩ S K Q = effK ((C.Z t).bind (allocA C S.view d t)) d S K .mk .mk := by
  simp only [stepA, opFn, effK]
  cases C.Z t <;> rfl
@[simp ↓] theorem stepA_box {t : TypeId} {x : Operand} : stepA P C ⟨d, .box t x, g⟩ S K Q = effK (if wt P (evalA S.tmp x) t then allocA C S.view d t (evalA S.tmp x) else none) d S K .mk .mk := rfl
@[simp ↓] theorem stepA_build {t : TypeId} {ps : Array (Nat × Operand)} : stepA P C ⟨d, .build t ps, g⟩ S K Q = effK ((buildA P C t (ps.toList.map fun q => (q.1, evalA S.tmp q.2))).bind pv) d S K .mk .mk := rfl
def buildSliceA (P : Program) (C : Cfg) (V : View) (d : Option Tmp) (t : TypeId) (n : Nat) (ps : List (Nat × AV)) : Option Eff :=
  match P.underlying t with
    | some (.slice e) => if P.cellsOf e ≠ 0 ∧ n * P.cellsOf e ≤ 2 ^ 24 then
        match (if n = 0 then some [] else (C.Z e).map fun z => List.replicate n z) with
        | some l => match fillA P (fun i => if i < n then some e else none) ps l with
          | some l' => rowA C V d e l'
          | none => none
        | none => none
      else none
    | _ => none
@[simp ↓] theorem stepA_buildSlice {t : TypeId} {n : Nat} {ps : Array (Nat × Operand)} : stepA P C ⟨d, .buildSlice t n ps, g⟩ S K Q = effK (buildSliceA P C S.view d t n (ps.toList.map fun q => (q.1, evalA S.tmp q.2))) d S K .mk .mk := rfl
@[simp ↓] theorem stepA_load {t : TypeId} {x : Operand} : stepA P C ⟨d, .load t x, g⟩ S K Q = effK ((loadA S.view t (evalA S.tmp x)).bind pv) d S K .mk .mk := rfl
@[simp ↓] theorem stepA_store {t : TypeId} {x y : Operand} : stepA P C ⟨d, .store t x y, g⟩ S K Q = effK (storeA P S.view t (evalA S.tmp y) (evalA S.tmp x)) d S K .mk .mk := rfl
def nilCheckA : AV → Option AV
  | .ptr (some q) => some (.ptr (some q))
  | .loc k p t => some (.loc k p t)
  | _ => none
@[simp ↓] theorem stepA_nilCheck {x : Operand} : stepA P C ⟨d, .nilCheck x, g⟩ S K Q = effK ((nilCheckA (evalA S.tmp x)).bind pv) d S K .mk .mk := by
  simp only [stepA, opFn, effK, St.view]
  cases h : evalA S.tmp x <;> try rfl
  rename_i p
  cases p <;> rfl
@[simp ↓] theorem stepA_binOp {op : BinOp} {t u : TypeId} {x y : Operand} : stepA P C ⟨d, .binOp op t x y u, g⟩ S K Q = effK ((binA P op t (evalA S.tmp x) (evalA S.tmp y)).bind pv) d S K .mk .mk := rfl
@[simp ↓] theorem stepA_unOp {op : UnOp} {t : TypeId} {x : Operand} : stepA P C ⟨d, .unOp op t x, g⟩ S K Q = effK ((unA op (evalA S.tmp x)).bind pv) d S K .mk .mk := rfl
@[simp ↓] theorem stepA_convert {s t : TypeId} {x : Operand} : stepA P C ⟨d, .convert s t x, g⟩ S K Q = effK ((convA P s t (evalA S.tmp x)).bind pv) d S K .mk .mk := rfl
@[simp ↓] theorem stepA_fieldAddr {s : TypeId} {x : Operand} {f : Nat} : stepA P C ⟨d, .fieldAddr s x f, g⟩ S K Q = effK ((fieldAddrA P s f (evalA S.tmp x)).bind pv) d S K .mk .mk := rfl
@[simp ↓] theorem stepA_indexAddr {t : TypeId} {x i : Operand} : stepA P C ⟨d, .indexAddr t x i, g⟩ S K Q = effK ((indexAddrA P t (evalA S.tmp x) (evalA S.tmp i)).bind pv) d S K .mk .mk := rfl
@[simp ↓] theorem stepA_field {s : TypeId} {x : Operand} {f : Nat} : stepA P C ⟨d, .field s x f, g⟩ S K Q = effK ((fieldA P s f (evalA S.tmp x)).bind pv) d S K .mk .mk := rfl
@[simp ↓] theorem stepA_index {t : TypeId} {x i : Operand} : stepA P C ⟨d, .index t x i, g⟩ S K Q = effK ((indexA P t (evalA S.tmp x) (evalA S.tmp i)).bind pv) d S K .mk .mk := rfl
@[simp ↓] theorem stepA_extract {x : Operand} {i : Nat} : stepA P C ⟨d, .extract x i, g⟩ S K Q = effK ((extractA i (evalA S.tmp x)).bind pv) d S K .mk .mk := rfl
@[simp ↓] theorem stepA_slice {t : TypeId} {x : Operand} {lo hi mx : Option Operand} : stepA P C ⟨d, .slice t x lo hi mx, g⟩ S K Q = effK ((sliceA P t (evalA S.tmp x) (lo.map (evalA S.tmp)) (hi.map (evalA S.tmp)) (mx.map (evalA S.tmp))).bind pv) d S K .mk .mk := rfl
@[simp ↓] theorem stepA_builtin {b : Builtin} {as : Array Operand} {ts : Array TypeId} : stepA P C ⟨d, .call ⟨.builtin b, as, ts⟩, g⟩ S K Q = effK (builtinE P C S.view b ts.toList (as.toList.map (evalA S.tmp))) d S K .mk .mk := rfl
@[simp] theorem builtinE_append {V : View} {t tx : TypeId} {s x : AV} : builtinE P C V .append [t, tx] [s, x] = appendA P C V t tx s x := rfl
@[simp] theorem builtinE_clear {V : View} {t : TypeId} {x : AV} : builtinE P C V .clear [t] [x] = clearA P C V t x := rfl
@[simp] theorem builtinE_len {V : View} {ts : List TypeId} {xs : List AV} : builtinE P C V .len ts xs = (builtinA P C .len ts xs).bind pv := rfl
@[simp] theorem builtinE_max {V : View} {ts : List TypeId} {xs : List AV} : builtinE P C V .max ts xs = (builtinA P C .max ts xs).bind pv := rfl
@[simp] theorem builtinE_min {V : View} {ts : List TypeId} {xs : List AV} : builtinE P C V .min ts xs = (builtinA P C .min ts xs).bind pv := rfl
@[simp ↓] theorem stepA_makeSlice {t : TypeId} {l c : Operand} : stepA P C ⟨d, .makeSlice t l c, g⟩ S K Q = effK (makeSliceA P C S.view t (evalA S.tmp l) (evalA S.tmp c)) d S K .mk .mk := rfl
@[simp ↓] theorem stepA_makeFunc {f : Fn} {a b : Array Operand} : stepA P C ⟨d, .makeFunc f a b, g⟩ S K Q = effK (makeFuncA f (a.toList.map (evalA S.tmp)) (b.toList.map (evalA S.tmp))) d S K .mk .mk := rfl
@[simp ↓] theorem stepA_mapEntry {t : TypeId} {m k : Operand} : stepA P C ⟨d, .mapEntry t m k, g⟩ S K Q = effK (mapEntryA P C S.view t (evalA S.tmp m) (evalA S.tmp k)) d S K .mk .mk := rfl
@[simp ↓] theorem stepA_entryStore {t : TypeId} {m st x : Operand} : stepA P C ⟨d, .entryStore t m st x, g⟩ S K Q = effK (entryStoreA S.view (evalA S.tmp m) (evalA S.tmp st) (evalA S.tmp x)) d S K .mk .mk := rfl
@[simp] theorem makeFuncA_func {f : FuncId} {a b : List AV} : makeFuncA (.func f) a b = if freeAll a && freeAll b then pv (.fn (.func f) a b) else none := rfl
@[simp] theorem bin_eql_sl {t : TypeId} {p q : Option (Nat × List Nat × Nat × TypeId)} {l c m k : Nat} : binA P .eql t (.sl p l c) (.sl q m k) = (nilEqA P t (.sl p l c) (.sl q m k)).map fun b => .bool b := rfl
@[simp] theorem bin_neq_sl {t : TypeId} {p q : Option (Nat × List Nat × Nat × TypeId)} {l c m k : Nat} : binA P .neq t (.sl p l c) (.sl q m k) = (nilEqA P t (.sl p l c) (.sl q m k)).map fun b => .bool !b := rfl
@[simp] theorem bin_eql_map {t : TypeId} {p q : Option Nat} : binA P .eql t (.map p) (.map q) = (nilEqA P t (.map p) (.map q)).map fun b => .bool b := rfl
@[simp] theorem bin_neq_map {t : TypeId} {p q : Option Nat} : binA P .neq t (.map p) (.map q) = (nilEqA P t (.map p) (.map q)).map fun b => .bool !b := rfl
@[simp] theorem bin_eql_ptr {t : TypeId} {p q : Option (Nat × List Nat × TypeId)} : binA P .eql t (.ptr p) (.ptr q) = (nilEqA P t (.ptr p) (.ptr q)).map fun b => .bool b := rfl
@[simp] theorem bin_neq_ptr {t : TypeId} {p q : Option (Nat × List Nat × TypeId)} : binA P .neq t (.ptr p) (.ptr q) = (nilEqA P t (.ptr p) (.ptr q)).map fun b => .bool !b := rfl
@[simp] theorem bin_str {op : BinOp} {t : TypeId} {a b : ByteArray} : binA P op t (.str a) (.str b) = strBin op a b := rfl
attribute [simp] nilEqA strBin
theorem getElem?_last {H L : Heap} {k : Nat} : (H ++ L)[H.length + k]? = L[k]? := by rw [List.getElem?_append_right (by omega)]; congr 1; omega
@[simp] theorem getElem?_last0 {H L : Heap} : (H ++ L)[H.length]? = L[0]? := by rw [List.getElem?_append_right (Nat.le_refl _)]; simp
attribute [simp] getElem?_last
@[simp] theorem set_append_last {H L : Heap} {k : Nat} {b : Blk} : (H ++ L).set (H.length + k) b = H ++ L.set k b := by rw [List.set_append_right _ _ (by omega)]; congr 2; omega
@[simp] theorem set_append_last0 {H L : Heap} {b : Blk} : (H ++ L).set H.length b = H ++ L.set 0 b := by rw [List.set_append_right _ _ (Nat.le_refl _)]; simp
@[simp ↓] theorem stepA_callV {f : Operand} {as : Array Operand} {ts : Array TypeId} : stepA P C ⟨d, .call ⟨.value f, as, ts⟩, g⟩ S K Q = callK P (callO (evalA S.tmp f) (as.toList.map (evalA S.tmp))) d S K Q .mk .mk .mk := by
  simp only [stepA, callK, callO]
  cases h : calleeA (evalA S.tmp f) with
  | none => rfl
  | some x =>
    obtain ⟨f', a, b⟩ := x
    simp only []
    by_cases hf : freeAll (as.toList.map (evalA S.tmp)) = true
    · simp [hf]; rfl
    · simp [hf]

@[simp] theorem indexA_ag {t : TypeId} {l : List AV} {k : IntKind} {i : Int} : indexA P t (.ag l) (.int k i) = match P.underlying t with
    | some (.array n _) => if 0 ≤ i ∧ i < n ∧ wt P (.ag l) t = true then l[i.toNat]? else none
    | _ => none := by
  simp only [indexA]
  cases P.underlying t with
  | none => rfl
  | some d => cases d <;> rfl

attribute [simp] getP setP loadA storeA allocA rowA Blk.row? fieldAddrA indexAddrA fieldA extractA fillA buildA buildSliceA lenA nilCheckA wt wtF wtA leafT freeAll callO calleeA Foot.apart fitsFoot

@[simp] theorem leafOK_bool {b : Bool} : leafOK (.bool b) .bool = true := rfl
@[simp] theorem leafOK_int {k k' : IntKind} {n : Int} : leafOK (.int k n) (.int k') = (k == k') := rfl
@[simp] theorem leafOK_str {s : ByteArray} : leafOK (.str s) .string = true := rfl
@[simp] theorem leafOK_ptr {p : Option (Nat × List Nat × TypeId)} {e : TypeId} : leafOK (.ptr p) (.pointer e) = true := rfl
@[simp] theorem leafOK_sl {p : Option (Nat × List Nat × Nat × TypeId)} {l c : Nat} {e : TypeId} : leafOK (.sl p l c) (.slice e) = true := rfl
@[simp] theorem leafOK_map {p : Option Nat} {k e : TypeId} : leafOK (.map p) (.map k e) = true := rfl
@[simp] theorem leafOK_fn {f : Fn} {a b : List AV} {ps rs : Array TypeId} {v : Bool} : leafOK (.fn f a b) (.func ps rs v) = true := rfl
@[simp] theorem leafOK_nilFn {ps rs : Array TypeId} {v : Bool} : leafOK .nilFn (.func ps rs v) = true := rfl
@[simp] theorem leafOK_ifc {t : TypeId} {x : AV} {ms : Array (String × TypeId)} : leafOK (.ifc t x) (.interface ms) = true := rfl
@[simp] theorem leafOK_nilIfc {ms : Array (String × TypeId)} : leafOK .nilIfc (.interface ms) = true := rfl

end

end Go.Av
