import Derived.Test.YtlonpljlojgclaaAvDraw
import Derived.WideKeyArgs
import Derived.OpenShut
import Derived.SizedLaws
set_option linter.unusedSimpArgs false
set_option linter.unusedVariables false
namespace Go.Av
open Go

/-! ## Arguments that can be read as data -/

/-- A type of numbers, bools, strings, structs, arrays and slices of those, whose table fits. -/
def pureT (P : Program) : Nat → TypeId → Bool
  | 0, _ => false
  | d + 1, t => match P.underlying t with
    | some .bool | some (.int _) | some .string => P.cellsOf t == 1
    | some (.struct fs) => fs.toList.all (fun f => pureT P d f.type) && (fs.toList.foldl (fun (x : Bool × Nat) f => (x.1 && f.offset == x.2, x.2 + P.cellsOf f.type)) (true, 0) == (true, P.cellsOf t))
    | some (.array n e) => pureT P d e && P.cellsOf t == n * P.cellsOf e
    | some (.slice e) => P.cellsOf t == 1 && pureT P d e && P.cellsOf e != 0
    | _ => false

mutual
/-- Are all numbers within their kinds? -/
def okI : AV → Bool
  | .int k n => (Lit.int k n).wf
  | .ag l => okIL l
  | _ => true
def okIL : List AV → Bool
  | [] => true
  | v :: l => okI v && okIL l
end

theorem okIL_mem : ∀ {l : List AV}, okIL l = true → ∀ v ∈ l, okI v = true
  | [], _, v, h => by simp at h
  | x :: l, hl, v, h => by
      simp only [okIL, Bool.and_eq_true] at hl
      rcases List.mem_cons.1 h with rfl | h
      · exact hl.1
      · exact okIL_mem hl.2 v h

mutual
/-- Do the slices of a value lead to rows that are only read? -/
def valid (P : Program) (H : Heap) : AV → Prop
  | .sl (some (n, p, s, e)) len cap => p = [] ∧ s = 0 ∧ len ≤ cap ∧ cap * P.bytesOf e ≤ reachBytes ∧
      ((cap = 0 ∧ H[n]? = some .dead) ∨ ∃ l, H[n]? = some (.ro e l) ∧ l.length = cap ∧ wtA P l e = true ∧ okIL l = true)
  | .ag l => validL P H l
  | .ptr (some _) | .map (some _) | .fn _ _ _ | .tup _ | .junk | .loc _ _ _ | .lsl _ _ _ _ _ _ => False
  | _ => True
def validL (P : Program) (H : Heap) : List AV → Prop
  | [] => True
  | v :: l => valid P H v ∧ validL P H l
end

mutual
/-- Are a value's slices rows of what their types say? -/
def tyS (P : Program) : AV → TypeId → Bool
  | .ag l, t => match P.underlying t with
    | some (.struct fs) => tySF P l fs.toList
    | some (.array _ e) => tySA P l e
    | _ => true
  | .sl none len cap, _ => len == 0 && cap == 0
  | .sl (some (_, _, _, E)) _ _, t => match P.underlying t with
    | some (.slice e) => E == e
    | _ => false
  | _, _ => true
def tySF (P : Program) : List AV → List Field → Bool
  | v :: l, f :: fs => tyS P v f.type && tySF P l fs
  | _, _ => true
def tySA (P : Program) : List AV → TypeId → Bool
  | v :: l, e => tyS P v e && tySA P l e
  | [], _ => true
end

/-- A value of a type. -/
structure WT (P : Program) (v : AV) (t : TypeId) : Prop where
  wt : wt P v t = true
  ty : tyS P v t = true

theorem tySF_of_all {P : Program} : ∀ (vs : List AV) (fs : List Field), (∀ (i : Nat) (v : AV) (f : Field), vs[i]? = some v → fs[i]? = some f → tyS P v f.type = true) → tySF P vs fs = true
  | [], fs, _ => by simp [tySF]
  | v :: vs, [], _ => by simp [tySF]
  | v :: vs, f :: fs, h => by
      simp only [tySF, Bool.and_eq_true]
      exact ⟨h 0 v f rfl rfl, tySF_of_all vs fs (fun i v f h1 h2 => h (i + 1) v f (by simpa using h1) (by simpa using h2))⟩
theorem tySA_of_all {P : Program} {e : TypeId} : ∀ (vs : List AV), (∀ v ∈ vs, tyS P v e = true) → tySA P vs e = true
  | [], _ => by simp [tySA]
  | v :: vs, h => by
      simp only [tySA, Bool.and_eq_true]
      exact ⟨h v (by simp), tySA_of_all vs (fun x hx => h x (by simp [hx]))⟩

/-- Memory that is only read. -/
def RoHeap (H : Heap) : Prop := ∀ b ∈ H, (∃ t l, b = Blk.ro t l ∧ okIL l = true) ∨ b = .dead

section
variable {P : Program} {W : World} {Hh : Type} {enc : TypeId × Value → Hh}

theorem getElem?_append_cases {α : Type} {l m : List α} {n : Nat} {x : α} (h : (l ++ m)[n]? = some x) : (n < l.length ∧ l[n]? = some x) ∨ (l.length ≤ n ∧ m[n - l.length]? = some x) := by
  rcases Nat.lt_or_ge n l.length with h' | h'
  · left; rw [List.getElem?_append_left h'] at h; exact ⟨h', h⟩
  · right; rw [List.getElem?_append_right h'] at h; exact ⟨h', h⟩

/-- Sim of memory that is only read: block by block. -/
theorem Sim.ro_append {g g' : List G} {H H' : Heap} (h : Sim P g H W) (hro : RoHeap H) (hro' : RoHeap H') (hl : g'.length = H'.length)
    (hb : ∀ (n : Nat) (x : G) (b : Blk), g'[n]? = some x → H'[n]? = some b → BlkRel P (g ++ g') x b W.heap[x.blk]?) : Sim P (g ++ g') (H ++ H') W := by
  have hr : RoHeap (H ++ H') := fun b hb => (List.mem_append.1 hb).elim (hro b) (hro' b)
  refine ⟨by simp [h.len, hl], fun n x b h1 h2 => ?_, fun n m x y b c _ _ h3 _ h5 => ?_⟩
  · rcases getElem?_append_cases h1 with ⟨l1, e1⟩ | ⟨l1, e1⟩
    · rcases getElem?_append_cases h2 with ⟨l2, e2⟩ | ⟨l2, e2⟩
      · exact (h.blk n x b e1 e2).mono (GLe.append g g')
      · rw [h.len] at l1; omega
    · rcases getElem?_append_cases h2 with ⟨l2, e2⟩ | ⟨l2, e2⟩
      · rw [h.len] at l1; omega
      · rw [h.len] at e1; exact hb _ x b e1 e2
  · exfalso
    rcases hr b (List.mem_of_getElem? h3) with ⟨t, l, rfl, _⟩ | rfl <;> simp [Blk.own] at h5

theorem wtA_of_all {e : TypeId} : ∀ (l : List AV), (∀ v ∈ l, wt P v e = true) → wtA P l e = true
  | [], _ => rfl
  | v :: l, h => by simp [wtA, h v (by simp), wtA_of_all l (fun x hx => h x (by simp [hx]))]

theorem wtF_of_all : ∀ (l : List AV) (fs : List Field) (off size : Nat), l.length = fs.length → (∀ (i : Nat) (v : AV) (f : Field), l[i]? = some v → fs[i]? = some f → wt P v f.type = true) →
    (fs.foldl (fun (x : Bool × Nat) f => (x.1 && f.offset == x.2, x.2 + P.cellsOf f.type)) (true, off) == (true, size)) = true → wtF P l fs off size = true
  | [], [], off, size, _, _, h => by simpa [wtF] using h
  | [], _ :: _, _, _, h, _, _ => by simp at h
  | _ :: _, [], _, _, h, _, _ => by simp at h
  | v :: l, f :: fs, off, size, hl, hw, h => by
      simp only [List.foldl_cons, Bool.true_and] at h
      have hoff : (f.offset == off) = true := by
        cases he : f.offset == off with
        | true => rfl
        | false =>
          exfalso
          rw [he] at h
          have : ∀ (fs : List Field) (n : Nat), (fs.foldl (fun (x : Bool × Nat) f => (x.1 && f.offset == x.2, x.2 + P.cellsOf f.type)) (false, n)).1 = false := by
            intro fs
            induction fs with
            | nil => intro n; rfl
            | cons f fs ih => intro n; simp only [List.foldl_cons, Bool.false_and]; exact ih _
          have h2 := this fs (off + P.cellsOf f.type)
          simp only [beq_iff_eq] at h
          rw [h] at h2
          cases h2
      rw [hoff] at h
      simp only [wtF, hoff, Bool.true_and, hw 0 v f rfl rfl]
      exact wtF_of_all l fs _ size (by simpa using hl) (fun i v' f' h1 h2 => hw (i + 1) v' f' (by simpa using h1) (by simpa using h2)) h

mutual
theorem valid_append {H H' : Heap} : (v : AV) → valid P H v → valid P (H ++ H') v
  | .sl (some (n, p, s, e)) len cap, h => by
      simp only [valid] at h ⊢
      obtain ⟨h1, h2, h3, h4, h5⟩ := h
      refine ⟨h1, h2, h3, h4, ?_⟩
      have key : ∀ b, H[n]? = some b → (H ++ H')[n]? = some b := fun b hb => by
        have : n < H.length := (List.getElem?_eq_some_iff.1 hb).1
        rw [List.getElem?_append_left this]; exact hb
      rcases h5 with ⟨h5, h6⟩ | ⟨l, h5, h6⟩
      · exact .inl ⟨h5, key _ h6⟩
      · exact .inr ⟨l, key _ h5, h6⟩
  | .ag l, h => by simp only [valid] at h ⊢; exact validL_append l h
  | .bool _, h => trivial
  | .int _ _, h => trivial
  | .str _, h => trivial
  | .ptr none, h => trivial
  | .ptr (some _), h => by simp [valid] at h
  | .loc _ _ _, h => by simp [valid] at h
  | .sl none _ _, h => trivial
  | .lsl _ _ _ _ _ _, h => by simp [valid] at h
  | .map none, h => trivial
  | .map (some _), h => by simp [valid] at h
  | .fn _ _ _, h => by simp [valid] at h
  | .nilFn, h => trivial
  | .ifc _ _, h => trivial
  | .nilIfc, h => trivial
  | .tup _, h => by simp [valid] at h
  | .junk, h => by simp [valid] at h
theorem validL_append {H H' : Heap} : (l : List AV) → validL P H l → validL P (H ++ H') l
  | [], h => trivial
  | v :: l, h => by simp only [validL] at h ⊢; exact ⟨valid_append v h.1, validL_append l h.2⟩
end

def ReadOne (P : Program) (W : World) (t : TypeId) (cs : List Value) : Prop :=
  ∀ g H, Sim P g H W → RoHeap H → ∃ g' H' v, Sim P (g ++ g') (H ++ H') W ∧ RoHeap H' ∧ FRel P (g ++ g') v cs ∧ WT P v t ∧ okI v = true ∧ valid P (H ++ H') v

theorem weights_mem_all {Hh : Type} {P : Program} {e : TypeId} : ∀ {ds : List (DataW Hh)} {d : DataW Hh}, d ∈ ds → ∀ n ∈ d.weights P e, n ∈ DataW.weightsAll P e ds
  | x :: ds, d, h, n, hn => by
      simp only [DataW.weightsAll, List.mem_append]
      rcases List.mem_cons.1 h with rfl | h
      · exact .inl hn
      · exact .inr (weights_mem_all h n hn)

theorem RoHeap.append {H H' : Heap} (h : RoHeap H) (h' : RoHeap H') : RoHeap (H ++ H') := fun b hb => (List.mem_append.1 hb).elim (h b) (h' b)

theorem readMany : ∀ (items : List (TypeId × List Value)), (∀ it ∈ items, ReadOne P W it.1 it.2) → ∀ g H, Sim P g H W → RoHeap H →
    ∃ g' H' vs, Sim P (g ++ g') (H ++ H') W ∧ RoHeap H' ∧ vs.length = items.length ∧ FRelL P (g ++ g') vs (items.flatMap (·.2)) ∧ (∀ (i : Nat) (v : AV) (it : TypeId × List Value), vs[i]? = some v → items[i]? = some it → WT P v it.1) ∧ okIL vs = true ∧ validL P (H ++ H') vs
  | [], _, g, H, hs, hr => ⟨[], [], [], by simpa using hs, by intro b hb; simp at hb, rfl, by simp [FRelL], fun i v it h => by simp at h, rfl, trivial⟩
  | it :: items, hall, g, H, hs, hr => by
      obtain ⟨g1, H1, v, a1, a2, a3, a4, a5, a6⟩ := hall it (by simp) g H hs hr
      obtain ⟨g2, H2, vs, b1, b2, b3, b4, b5, b6, b7⟩ := readMany items (fun x hx => hall x (by simp [hx])) _ _ a1 (hr.append a2)
      refine ⟨g1 ++ g2, H1 ++ H2, v :: vs, by simpa using b1, a2.append b2, by simp [b3], ?_, fun i v' it' h1 h2 => ?_, by simp [okIL, a5, b6], by rw [← List.append_assoc]; exact ⟨valid_append _ a6, b7⟩⟩
      · simp only [FRelL, List.flatMap_cons]
        rw [← List.append_assoc]
        exact ⟨it.2, _, rfl, FRel.mono (GLe.append _ _) _ _ a3, b4⟩
      · cases i with
        | zero => simp at h1 h2; subst h1; subst h2; exact a4
        | succ i => exact b5 i v' it' (by simpa using h1) (by simpa using h2)

/-- A struct's fields, side by side. -/
theorem pieces_fields (cs : List Value) : ∀ (fs : List Field) (off size : Nat), (fs.foldl (fun (x : Bool × Nat) f => (x.1 && f.offset == x.2, x.2 + P.cellsOf f.type)) (true, off) == (true, size)) = true → cs.length = size →
    fs.flatMap (fun f => (cs.drop f.offset).take (P.cellsOf f.type)) = cs.drop off
  | [], off, size, h, hl => by
      simp only [List.foldl_nil, beq_iff_eq, Prod.mk.injEq, true_and] at h
      simp; omega
  | f :: fs, off, size, h, hl => by
      simp only [List.foldl_cons, Bool.true_and] at h
      have hoff : f.offset = off := by
        cases he : f.offset == off with
        | true => simpa using he
        | false =>
          exfalso
          rw [he] at h
          have : ∀ (fs : List Field) (n : Nat), (fs.foldl (fun (x : Bool × Nat) f => (x.1 && f.offset == x.2, x.2 + P.cellsOf f.type)) (false, n)).1 = false := by
            intro fs
            induction fs with
            | nil => intro n; rfl
            | cons f fs ih => intro n; simp only [List.foldl_cons, Bool.false_and]; exact ih _
          have h2 := this fs (off + P.cellsOf f.type)
          simp only [beq_iff_eq] at h
          rw [h] at h2
          cases h2
      rw [hoff] at h
      simp only [beq_self_eq_true] at h
      rw [List.flatMap_cons, pieces_fields cs fs _ size h hl, hoff]
      have := List.take_append_drop (P.cellsOf f.type) (cs.drop off)
      rw [List.drop_drop] at this
      exact this

theorem pieces_elems (cs : List Value) (sz : Nat) : ∀ (n k : Nat), cs.length = (k + n) * sz → (List.range' k n).flatMap (fun i => (cs.drop (i * sz)).take sz) = cs.drop (k * sz)
  | 0, k, h => by simp at h ⊢; omega
  | n + 1, k, h => by
      rw [List.range'_succ, List.flatMap_cons, pieces_elems cs sz n (k + 1) (by rw [h]; congr 1; omega)]
      have := List.take_append_drop sz (cs.drop (k * sz))
      rw [List.drop_drop] at this
      rw [show (k + 1) * sz = k * sz + sz from by rw [Nat.add_mul, Nat.one_mul]]
      exact this

theorem flatMap_get {sz : Nat} : ∀ (ls : List (List Value)) (k j : Nat), (∀ l ∈ ls, l.length = sz) → k < ls.length → j < sz → (ls.flatten)[k * sz + j]? = (ls[k]?).bind (·[j]?)
  | [], k, j, _, h, _ => by simp at h
  | l :: ls, 0, j, hl, h, hj => by
      have := hl l (by simp)
      simp [List.getElem?_append_left (show j < l.length by omega)]
  | l :: ls, k + 1, j, hl, h, hj => by
      have h1 := hl l (by simp)
      have := flatMap_get ls k j (fun x hx => hl x (by simp [hx])) (by simpa using h) hj
      simp only [List.flatten_cons, List.getElem?_cons_succ]
      rw [List.getElem?_append_right (by rw [h1, Nat.add_mul]; omega)]
      rw [show (k + 1) * sz + j - l.length = k * sz + j from by rw [h1, Nat.add_mul]; omega]
      exact this

theorem flatten_length {sz : Nat} : ∀ (ls : List (List Value)), (∀ l ∈ ls, l.length = sz) → ls.flatten.length = ls.length * sz
  | [], _ => by simp
  | l :: ls, h => by
      simp only [List.flatten_cons, List.length_append, List.length_cons, Nat.add_mul, Nat.one_mul]
      rw [flatten_length ls (fun x hx => h x (by simp [hx])), h l (by simp)]
      omega

/-- Whatever reads as data has an abstract value, over memory that is only read. -/
theorem readA : ∀ (fuel d : Nat) (t : TypeId) (cs : List Value) (x : DataW Hh × List MemPlace), pureT P d t = true → DataW.trod enc P W 0 (fun _ => true) true fuel t cs = some x → (∀ n ∈ x.1.weights P t, n ≤ reachBytes) → ReadOne P W t cs := by
  intro fuel
  induction fuel with
  | zero => intro d t cs x _ h _; simp [DataW.trod] at h
  | succ fuel ih =>
    intro d t cs x hp h hwt g H hs hro
    cases d with
    | zero => simp [pureT] at hp
    | succ d =>
    unfold pureT at hp
    have leaf : ∀ (v : AV) (k : TypeDesc), P.underlying t = some k → isAggD k = false → leafOK v k = true → P.cellsOf t = 1 → v.isAg = false → okI v = true → (∀ H, valid P H v) → (∀ g, FRel P g v cs) → tyS P v t = true →
        ∃ g' H' v, Sim P (g ++ g') (H ++ H') W ∧ RoHeap H' ∧ FRel P (g ++ g') v cs ∧ WT P v t ∧ okI v = true ∧ valid P (H ++ H') v := by
      intro v k hu _ hl hc hag hok hval hf hty
      refine ⟨[], [], v, by simpa using hs, by intro b hb; simp at hb, hf _, ⟨?_, hty⟩, hok, hval _⟩
      have : leafT P v t = true := by simp [leafT, hc, hu, hl]
      cases v <;> first | (simp [AV.isAg] at hag; done) | (simpa [wt] using this)
    cases hu : P.underlying t with
    | none => simp [hu] at hp
    | some k =>
      cases k with
      | bool =>
        simp only [hu, beq_iff_eq] at hp
        obtain ⟨b, rfl, _⟩ := DataW.trod_bool hu h
        exact leaf (.bool b) _ hu rfl rfl hp rfl rfl (fun _ => trivial) (fun g => by simp [FRel]) (by simp [tyS])
      | int kk =>
        simp only [hu, beq_iff_eq] at hp
        obtain ⟨n, rfl, _, hw⟩ := DataW.trod_int hu h
        exact leaf (.int kk n) _ hu rfl (by simp [leafOK]) hp rfl hw (fun _ => trivial) (fun g => by simp [FRel]) (by simp [tyS])
      | string =>
        simp only [hu, beq_iff_eq] at hp
        obtain ⟨s, rfl, _, _⟩ := DataW.trod_string hu h
        exact leaf (.str s) _ hu rfl rfl hp rfl rfl (fun _ => trivial) (fun g => by simp [FRel]) (by simp [tyS])
      | struct fs =>
        simp only [hu, Bool.and_eq_true] at hp
        obtain ⟨hall, hfold⟩ := hp
        obtain ⟨xs, n, hfu, hx, hlen, hxl, hel⟩ := DataW.trod_struct hu h
        obtain rfl : fuel = n := by omega
        have hitems : ∀ it ∈ fs.toList.map (fun f => (f.type, (cs.drop f.offset).take (P.cellsOf f.type))), ReadOne P W it.1 it.2 := by
          intro it hit
          simp only [List.mem_map] at hit
          obtain ⟨f, hf, rfl⟩ := hit
          obtain ⟨i, hi⟩ := List.getElem?_of_mem hf
          have hfi : fs[i]? = some f := by simpa using hi
          have hil : i < xs.length := by
            rw [hxl]
            rcases Nat.lt_or_ge i fs.size with h' | h'
            · exact h'
            · simp [Array.getElem?_eq_none h'] at hfi
          refine ih d f.type _ xs[i] (List.all_eq_true.1 hall f hf) (by rw [hel i f hfi]; simp [hil]) (fun n hn => hwt n ?_)
          rw [hx]
          simp only [DataW.weights, hu]
          exact DataW.weights_mem_each (j := i) (t := f.type) (d := xs[i].1) (by rw [List.getElem?_map, hi]; rfl) (by simp [hil]) n hn
        obtain ⟨g', H', vs, b1, b2, b3, b4, b5, b6, b7⟩ := readMany _ hitems g H hs hro
        have hcs : (fs.toList.map (fun f => (f.type, (cs.drop f.offset).take (P.cellsOf f.type)))).flatMap (·.2) = cs := by
          rw [List.flatMap_map]
          have := pieces_fields (P := P) cs fs.toList 0 _ hfold hlen
          simpa using this
        rw [hcs] at b4
        refine ⟨g', H', .ag vs, b1, b2, by simpa [FRel] using b4, ?_, by simpa [okI] using b6, by simpa [valid] using b7⟩
        refine ⟨?_, ?_⟩
        · simp only [wt, hu]
          exact wtF_of_all vs fs.toList 0 _ (by rw [b3]; simp) (fun i v f h1 h2 => (b5 i v (f.type, (cs.drop f.offset).take (P.cellsOf f.type)) h1 (by rw [List.getElem?_map, h2]; rfl)).wt) hfold
        · simp only [tyS, hu]
          exact tySF_of_all vs fs.toList (fun i v f h1 h2 => (b5 i v (f.type, (cs.drop f.offset).take (P.cellsOf f.type)) h1 (by rw [List.getElem?_map, h2]; rfl)).ty)
      | array n e =>
        simp only [hu, Bool.and_eq_true, beq_iff_eq] at hp
        obtain ⟨hpe, hc⟩ := hp
        obtain ⟨xs, m, hfu, hx, hlen, hxl, hel⟩ := DataW.trod_array hu h
        obtain rfl : fuel = m := by omega
        have hitems : ∀ it ∈ (List.range' 0 n).map (fun i => (e, (cs.drop (i * P.cellsOf e)).take (P.cellsOf e))), ReadOne P W it.1 it.2 := by
          intro it hit
          simp only [List.mem_map, List.mem_range'_1] at hit
          obtain ⟨i, ⟨_, hi⟩, rfl⟩ := hit
          have hil : i < xs.length := by omega
          refine ih d e _ xs[i] hpe (by rw [hel i (by omega)]; simp [hil]) (fun n hn => hwt n ?_)
          rw [hx]
          simp only [DataW.weights, hu]
          exact weights_mem_all (d := xs[i].1) (List.mem_map.2 ⟨xs[i], by simp, rfl⟩) n hn
        obtain ⟨g', H', vs, b1, b2, b3, b4, b5, b6, b7⟩ := readMany _ hitems g H hs hro
        have hcs : ((List.range' 0 n).map (fun i => (e, (cs.drop (i * P.cellsOf e)).take (P.cellsOf e)))).flatMap (·.2) = cs := by
          rw [List.flatMap_map]
          have := pieces_elems cs (P.cellsOf e) n 0 (by rw [hlen, hc]; simp)
          simpa using this
        rw [hcs] at b4
        refine ⟨g', H', .ag vs, b1, b2, by simpa [FRel] using b4, ?_, by simpa [okI] using b6, by simpa [valid] using b7⟩
        have b5' : ∀ v ∈ vs, WT P v e := by
          intro v hv
          obtain ⟨i, hi⟩ := List.getElem?_of_mem hv
          have hin : i < n := by
            have : i < vs.length := (List.getElem?_eq_some_iff.1 hi).1
            rw [b3] at this; simpa using this
          exact b5 i v (e, (cs.drop (i * P.cellsOf e)).take (P.cellsOf e)) hi (by simp [hin])
        refine ⟨?_, ?_⟩
        · simp only [wt, hu, Bool.and_eq_true, beq_iff_eq]
          exact ⟨⟨by rw [b3]; simp, hc⟩, wtA_of_all vs (fun v hv => (b5' v hv).wt)⟩
        · simp only [tyS, hu]
          exact tySA_of_all vs (fun v hv => (b5' v hv).ty)
      | slice e =>
        simp only [hu, Bool.and_eq_true, beq_iff_eq, bne_iff_ne] at hp
        obtain ⟨⟨hc1, hpe⟩, hne⟩ := hp
        rcases DataW.trod_slice hu h with ⟨rfl, _⟩ | ⟨a, len, cap, elems, rest, n, hfu, rfl, hx, hb, hl, hm, hel, hlen, hsp, _⟩
        · exact leaf (.sl none 0 0) _ hu rfl rfl hc1 rfl rfl (fun _ => trivial) (fun g => by simp [FRel]) (by simp [tyS])
        · obtain rfl : fuel = n := by omega
          obtain ⟨hrl, hrest⟩ := hsp rfl
          have hwb : cap * P.bytesOf e ≤ reachBytes := by
            refine hwt _ ?_
            rw [hx]
            simp only [DataW.weights, hu, List.length_map]
            rw [hel, hrl, show len + (cap - len) = cap from by omega]
            exact List.mem_cons_self
          have hsub : ∀ y ∈ elems ++ rest, ∀ n ∈ y.1.weights P e, n ≤ reachBytes := by
            intro y hy n hn
            refine hwt n ?_
            rw [hx]
            simp only [DataW.weights, hu]
            refine List.mem_cons_of_mem _ (List.mem_append.2 ?_)
            rcases List.mem_append.1 hy with hy | hy
            · exact .inl (weights_mem_all (List.mem_map.2 ⟨y, hy, rfl⟩) n hn)
            · exact .inr (weights_mem_all (List.mem_map.2 ⟨y, hy, rfl⟩) n hn)
          -- each element's cells
          have each : ∀ i, i < cap → ∃ ci, W.cells? 0 (a.add (i * P.cellsOf e)) (P.cellsOf e) = some ci ∧ ReadOne P W e ci := by
            intro i hi
            have : ∃ y ∈ elems ++ rest, (W.cells? 0 (a.add (i * P.cellsOf e)) (P.cellsOf e)).bind (DataW.trod enc P W 0 (fun _ => true) true fuel e) = some y := by
              by_cases hil : i < len
              · rw [hlen i hil]; exact ⟨elems[i], by simp, by simp [hel, hil]⟩
              · have := hrest (i - len) (by omega)
                rw [show len + (i - len) = i from by omega] at this
                rw [this]; exact ⟨rest[i - len]'(by omega), by simp, by simp⟩
            obtain ⟨y, hym, hy⟩ := this
            obtain ⟨ci, h1, h2⟩ := Option.bind_eq_some_iff.1 hy
            exact ⟨ci, h1, ih d e ci y hpe h2 (hsub y hym)⟩
          by_cases hcap : cap = 0
          · subst hcap
            obtain rfl : len = 0 := by omega
            refine ⟨[⟨a.block, a.off, e, 0, false, 0⟩], [.dead], .sl (some (g.length, [], 0, e)) 0 0, ?_, ?_, ?_, ?_, rfl, ?_⟩
            · exact hs.ro_append hro (by intro b hb; simp at hb; exact .inr hb) rfl (fun n x b h1 h2 => by
                cases n with
                | zero => simp at h2; subst h2; trivial
                | succ n => simp at h2)
            · intro b hb; simp at hb; exact .inr hb
            · simp only [FRel]
              exact ⟨⟨a.block, a.off, e, 0, false, 0⟩, _, by simp, rfl, a, 0, rfl, Nat.le_refl _, Nat.le_refl _, rfl, by simp, .inl rfl, .inl rfl⟩
            · exact ⟨by simp [wt, leafT, hc1, hu, leafOK], by simp [tyS, hu]⟩
            · simp only [valid]
              exact ⟨trivial, trivial, Nat.le_refl _, by simp, .inl ⟨trivial, by rw [hs.len]; simp⟩⟩
          · -- the block
            let ci : Nat → List Value := fun i => (W.cells? 0 (a.add (i * P.cellsOf e)) (P.cellsOf e)).getD []
            have hci : ∀ i, i < cap → W.cells? 0 (a.add (i * P.cellsOf e)) (P.cellsOf e) = some (ci i) ∧ ReadOne P W e (ci i) := by
              intro i hi
              obtain ⟨c, h1, h2⟩ := each i hi
              have : ci i = c := by simp only [ci, h1, Option.getD_some]
              rw [this]; exact ⟨h1, h2⟩
            have hcil : ∀ i, i < cap → (ci i).length = P.cellsOf e := fun i hi => (World.cells?_some (hci i hi).1).2.1
            obtain ⟨g', H', vs, b1, b2, b3, b4, b5, b6, b7⟩ := readMany ((List.range cap).map fun i => (e, ci i)) (fun it hit => by
              simp only [List.mem_map, List.mem_range] at hit
              obtain ⟨i, hi, rfl⟩ := hit
              exact (hci i hi).2) g H hs hro
            have hflat : ((List.range cap).map fun i => (e, ci i)).flatMap (·.2) = ((List.range cap).map ci).flatten := by
              rw [List.flatMap_map, List.flatMap_def]
            rw [hflat] at b4
            have hls : ∀ l ∈ (List.range cap).map ci, l.length = P.cellsOf e := by
              intro l hl'
              simp only [List.mem_map, List.mem_range] at hl'
              obtain ⟨i, hi, rfl⟩ := hl'
              exact hcil i hi
            have hfl := flatten_length _ hls
            simp only [List.length_map, List.length_range] at hfl
            have hpos : 0 < P.cellsOf e := by omega
            have hspot : a.spot = none ∧ ∃ c el fr, W.heap[a.block]? = some (.cells c el fr) := by
              have h0 := (World.cells?_some (hci 0 (by omega)).1).2.2 0 hpos
              have hl0 : 0 < (ci 0).length := by rw [hcil 0 (by omega)]; exact hpos
              simp only [Nat.zero_mul, Addr.add, if_true] at h0
              rw [List.getElem?_eq_getElem hl0] at h0
              unfold World.cell? at h0
              split at h0
              · rename_i c el fr hbk
                split at h0
                · cases h0
                · rename_i hsp'
                  refine ⟨?_, c, el, fr, hbk⟩
                  cases hsa : a.spot with
                  | none => rfl
                  | some s => simp [hsa] at hsp'
              · cases h0
            obtain ⟨hspn, c, el, fr, hblk⟩ := hspot
            obtain ⟨ab, ao, asp⟩ := a
            simp only at hspn hblk
            subst hspn
            have hget : ∀ k, k < cap * P.cellsOf e → c[ao + k]? = (((List.range cap).map ci).flatten)[k]? := by
              intro k hk
              have hk1 : k / P.cellsOf e < cap := by rw [Nat.div_lt_iff_lt_mul hpos]; exact hk
              have hk2 : k % P.cellsOf e < P.cellsOf e := Nat.mod_lt _ hpos
              have hkk : k = k / P.cellsOf e * P.cellsOf e + k % P.cellsOf e := by
                have := Nat.div_add_mod k (P.cellsOf e)
                rw [Nat.mul_comm] at this; exact this.symm
              have h1 := (World.cells?_some (hci _ hk1).1).2.2 _ hk2
              rw [add_none, add_none] at h1
              have h2 := flatMap_get (sz := P.cellsOf e) ((List.range cap).map ci) (k / P.cellsOf e) (k % P.cellsOf e) hls (by simpa using hk1) hk2
              rw [← hkk] at h2
              rw [h2]
              simp only [List.getElem?_map, List.getElem?_range hk1, Option.map_some, Option.bind_some]
              rw [← h1]
              simp only [World.cell?, hblk]
              rw [show ao + k / P.cellsOf e * P.cellsOf e + k % P.cellsOf e = ao + k from by omega]
              simp
            have hsize : ao + cap * P.cellsOf e ≤ c.size := by
              rcases Nat.lt_or_ge c.size (ao + cap * P.cellsOf e) with h' | h'
              · exfalso
                have hpos' : 0 < cap * P.cellsOf e := Nat.mul_pos (by omega) hpos
                have := hget (cap * P.cellsOf e - 1) (by omega)
                rw [Array.getElem?_eq_none (by omega), List.getElem?_eq_getElem (by rw [hfl]; omega)] at this
                cases this
              · exact h'
            have hsplit : c.toList = c.toList.take ao ++ ((List.range cap).map ci).flatten ++ c.toList.drop (ao + cap * P.cellsOf e) := by
              apply List.ext_getElem?
              intro j
              by_cases h1 : j < ao
              · rw [List.append_assoc, List.getElem?_append_left (by simp; omega)]
                simp [h1]
              · by_cases h2 : j < ao + cap * P.cellsOf e
                · rw [List.append_assoc, List.getElem?_append_right (by simp; omega), List.getElem?_append_left (by simp only [hfl, List.length_take, Array.length_toList]; omega)]
                  have := hget (j - ao) (by omega)
                  rw [show ao + (j - ao) = j from by omega] at this
                  rw [Array.getElem?_toList, this]
                  congr 1
                  simp; omega
                · rw [List.getElem?_append_right (by simp only [List.length_append, hfl, List.length_take, Array.length_toList]; omega)]
                  rw [List.getElem?_drop]
                  congr 1
                  simp only [List.length_append, hfl, List.length_take, Array.length_toList]
                  omega
            have hwa : wtA P vs e = true := wtA_of_all vs (fun v hv => by
              obtain ⟨i, hi⟩ := List.getElem?_of_mem hv
              have hin : i < cap := by
                have : i < vs.length := (List.getElem?_eq_some_iff.1 hi).1
                rw [b3] at this; simpa using this
              exact (b5 i v (e, ci i) hi (by simp [hin])).wt)
            have hvl : vs.length = cap := by rw [b3]; simp
            refine ⟨g' ++ [⟨ab, ao, e, cap, false, c.size⟩], H' ++ [.ro e vs], .sl (some ((g ++ g').length, [], 0, e)) len cap, ?_, ?_, ?_, ?_, rfl, ?_⟩
            · rw [← List.append_assoc, ← List.append_assoc]
              refine b1.ro_append (hro.append b2) (by intro b hb; simp at hb; exact .inl ⟨e, vs, hb, b6⟩) rfl (fun n x b h1 h2 => ?_)
              cases n with
              | zero =>
                simp at h1 h2
                subst h1; subst h2
                exact ⟨rfl, hvl.symm, rfl, hwa, c, el, fr, hblk, rfl, c.toList.take ao, _, _, hsplit, by simp; omega, FRelL.mono (GLe.append _ _) _ _ b4⟩
              | succ n => simp at h2
            · exact b2.append (by intro b hb; simp at hb; exact .inl ⟨e, vs, hb, b6⟩)
            · simp only [FRel]
              refine ⟨⟨ab, ao, e, cap, false, c.size⟩, _, ?_, rfl, ⟨ab, ao, none⟩, cap, rfl, hl, Nat.le_refl _, rfl, by simp, .inl rfl, .inr ⟨by simp, by simpa using hsize⟩⟩
              rw [← List.append_assoc]
              simp
            · exact ⟨by simp [wt, leafT, hc1, hu, leafOK], by simp [tyS, hu]⟩
            · simp only [valid]
              refine ⟨trivial, trivial, hl, hwb, .inr ⟨vs, ?_, hvl, hwa, b6⟩⟩
              rw [b1.len, ← List.append_assoc]
              simp
      | _ => simp [hu] at hp

end
end Go.Av
