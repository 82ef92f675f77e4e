import Derived.Test.YtlonpljlojgclaaAvOps
set_option linter.unusedSimpArgs false
set_option linter.unusedVariables false
namespace Go.Av
open Go

section
variable {P : Program} {g : List G} {bx : Nat → Option G} {w : World}

theorem VRel.int {k : IntKind} {n : Int} : VRel P g (.int k n) (.int k n) := ⟨by simp [FRel, Value.cells], rfl⟩
theorem VRel.bool {b : Bool} : VRel P g (.bool b) (.bool b) := ⟨by simp [FRel, Value.cells], rfl⟩
theorem VRel.str {s : ByteArray} : VRel P g (.str s) (.string s) := ⟨by simp [FRel, Value.cells], rfl⟩
theorem VRel.undef : VRel P g (.tup []) undef := ⟨by simp [FRel, Go.undef, Value.cells, TRelL], rfl⟩

theorem VRel.leaf {v : AV} {v' : Value} (hv : v.isAg = false) (h : VRel P g v v') : FRel P g v [v'] := by
  obtain ⟨h1, h2⟩ := h
  rw [hv] at h2
  cases v' <;> first | exact h1 | (simp [isAggV] at h2)

theorem VRel.int_inv {k : IntKind} {n : Int} {v' : Value} (h : VRel P g (.int k n) v') : v' = .int k n := by
  have := h.leaf rfl; simpa [FRel] using this
theorem VRel.bool_inv {b : Bool} {v' : Value} (h : VRel P g (.bool b) v') : v' = .bool b := by
  have := h.leaf rfl; simpa [FRel] using this
theorem VRel.str_inv {s : ByteArray} {v' : Value} (h : VRel P g (.str s) v') : v' = .string s := by
  have := h.leaf rfl; simpa [FRel] using this
theorem VRel.ag_inv {l : List AV} {v' : Value} (h : VRel P g (.ag l) v') : ∃ cs, v' = .agg cs ∧ FRelL P g l cs.toList := by
  obtain ⟨h1, h2⟩ := h
  cases v' <;> simp [isAggV, AV.isAg] at h2
  rename_i cs
  exact ⟨cs, rfl, by simpa [FRel, Value.cells] using h1⟩
theorem VRel.tup_inv {l : List AV} {v' : Value} (h : VRel P g (.tup l) v') : ∃ vs, v' = .tuple vs ∧ TRelL P g l vs.toList := by
  have := h.leaf rfl
  simp only [FRel] at this
  obtain ⟨vs, h1, h2⟩ := this
  exact ⟨vs, by simpa using h1, h2⟩

theorem VRel.ag {l : List AV} {cs : Array Value} (h : FRelL P g l cs.toList) : VRel P g (.ag l) (.agg cs) := ⟨by simpa [FRel, Value.cells] using h, rfl⟩

/-- A value of a shape, made of cells. -/
theorem VRel.of_cells {v : AV} {cs : List Value} (hv : v.isAg = true) (h : FRel P g v cs) : VRel P g v (.agg cs.toArray) := by
  cases v <;> simp [AV.isAg] at hv
  exact VRel.ag (by simpa [FRel] using h)

theorem VRel.of_cell {v : AV} {c : Value} (hv : v.isAg = false) (h : FRel P g v [c]) : VRel P g v c := by
  obtain ⟨c', h1, h2⟩ := FRel_leaf_one hv h
  obtain rfl : c = c' := by simpa using h1
  refine ⟨?_, by rw [hv, h2]⟩
  cases c <;> first | exact h | (simp [isAggV] at h2)

theorem TRelL.get : (l : List AV) → (vs : List Value) → TRelL P g l vs → (i : Nat) → (x : AV) → l[i]? = some x → ∃ x', vs[i]? = some x' ∧ VRel P g x x'
  | [], vs, h, i, x, hi => by simp at hi
  | v :: r, vs, h, i, x, hi => by
      simp only [TRelL] at h
      obtain ⟨v', r', rfl, h1, h2, h3⟩ := h
      cases i with
      | zero => simp at hi; subst hi; exact ⟨v', rfl, h1, h2⟩
      | succ i => simp at hi; obtain ⟨x', e1, e2⟩ := TRelL.get r r' h3 i x hi; exact ⟨x', by simpa using e1, e2⟩

theorem constA_ok (v : Value) : VRelE P g bx (constA v) v := by
  unfold constA
  split <;> first
    | exact True.intro
    | exact VRelE.of_VRel VRel.int
    | exact VRelE.of_VRel VRel.bool
    | exact VRelE.of_VRel VRel.str
    | (refine VRelE.of_VRel (VRel.of_cell rfl ?_); simp [FRel]; done)

/-- The operands, on both sides. -/
theorem evalA_ok {N : Nat} {S : St} {a : Act} (h : SRel P N g bx S a w) (x : Operand) : VRelE P g bx (evalA S.tmp x) (a.eval x) := by
  cases x with
  | tmp t => exact h.env t
  | const v => exact constA_ok v
  | global n => trivial
  | func f =>
    refine VRelE.of_VRel (v := .fn (.func f) [] []) (VRel.of_cell rfl ?_)
    simp [FRel, TRelL]
    rfl

/-! ### Arithmetic -/

theorem intBin_ok {op : BinOp} {k : IntKind} {a b : Int} {v : AV} (h : intBin op k a b = some v) (t : TypeId) :
    ∃ v', (binOp op t (.int k a) (.int k b)).run P w = .ok v' w ∧ VRel P g v v' := by
  cases op <;> simp only [intBin] at h <;> first
    | (cases h; refine ⟨_, ?_, VRel.int⟩; simp [binOp, Op.intArith, Op.intBits]; done)
    | (cases h; refine ⟨_, ?_, VRel.bool⟩; simp [binOp, Op.intCmp]; done)
    | (split at h
       · cases h
       · rename_i hb; cases h; refine ⟨_, ?_, VRel.int⟩; simp [binOp, Op.intDiv, hb]; done)
    | cases h

theorem shiftA_ok {op : BinOp} {k k' : IntKind} {a b : Int} {v : AV} (h : shiftA op k a b = some v) (t : TypeId) :
    ∃ v', (binOp op t (.int k a) (.int k' b)).run P w = .ok v' w ∧ VRel P g v v' := by
  unfold shiftA at h
  split at h
  · cases h
  · rename_i hb
    cases op <;> simp only at h <;> first
      | (cases h; refine ⟨_, ?_, VRel.int⟩; simp [binOp, Op.shift, hb]; done)
      | cases h

theorem eqGuard_int (op : BinOp) (t : TypeId) (x y : Operand) (k k' : IntKind) (a b : Int) : (eqGuard op t x y (.int k a) (.int k' b)).run P w = .ok () w := by
  cases op <;> simp [eqGuard]
theorem eqGuard_str (op : BinOp) (t : TypeId) (x y : Operand) (a b : ByteArray) : (eqGuard op t x y (.string a) (.string b)).run P w = .ok () w := by
  cases op <;> simp [eqGuard]
theorem eqGuard_bool (op : BinOp) (t : TypeId) (x y : Operand) (a b : Bool) : (eqGuard op t x y (.bool a) (.bool b)).run P w = .ok () w := by
  cases op <;> simp [eqGuard]

theorem strBin_ok {op : BinOp} {a b : ByteArray} {v : AV} (h : strBin op a b = some v) (t : TypeId) :
    ∃ v', (binOp op t (.string a) (.string b)).run P w = .ok v' w ∧ VRel P g v v' := by
  cases op <;> simp only [strBin] at h <;> first
    | (cases h; refine ⟨_, ?_, VRel.bool⟩; simp [binOp, Op.stringOp, beq_toListBytes]; done)
    | (split at h
       · rename_i hs
         cases h
         refine ⟨_, ?_, VRel.str⟩
         have hm : IntKind.i64.max = 9223372036854775807 := by decide
         have : ¬ (((a.size + b.size : Nat) : Int) > IntKind.i64.max) := by rw [hm]; omega
         simp only [binOp, Op.stringOp, this, if_false, Sem.run_pure]
       · cases h)
    | cases h

/-! ### Comparisons of structs and arrays -/

/-- What a part of an aggregate is. -/
theorem run_part_ok {x : AV} {t : TypeId} (hx : wt P x t = true) {c0 c1 c2 : List Value} {cs : Array Value} (hcs : cs.toList = c0 ++ c1 ++ c2) (h : FRel P g x c1) :
    ∃ v, (part t cs c0.length).run P w = .ok v w ∧ VRel P g x v := by
  obtain ⟨d, hu, hd⟩ := isAg_of_wt hx
  have hlen := wt_len (g := g) x t c1 hx h
  have hagg : (isAgg t).run P w = .ok x.isAg w := by
    unfold isAgg
    rw [Sem.run_bind, run_underlying hu w, hd]
    cases d <;> simp [isAggD]
  cases hag : x.isAg with
  | true =>
    refine ⟨.agg c1.toArray, ?_, VRel.of_cells hag h⟩
    have hsz : (sizeOf t).run P w = .ok c1.length w := by
      rw [hlen]
      unfold sizeOf typeInfo Program.cellsOf
      have : ∃ i, P.info? t = some i := by
        unfold Program.underlying at hu
        cases hi : P.info? t with
        | none => simp [hi] at hu
        | some i => exact ⟨i, rfl⟩
      obtain ⟨i, hi⟩ := this
      simp [hi]
    have hex : cs.extract c0.length (c0.length + c1.length) = c1.toArray := by
      apply Array.ext'
      simp [hcs]
    simp [part, hagg, hag, hsz, hex]
  | false =>
    obtain ⟨c, rfl, hc⟩ := FRel_leaf_one hag h
    refine ⟨c, ?_, VRel.of_cell hag h⟩
    have hget : cs[c0.length]? = some c := by
      rw [← Array.getElem?_toList, hcs]
      simp
    simp [part, hagg, hag, hget]

end
end Go.Av
