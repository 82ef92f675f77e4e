import Derived.Test.YtlonpljlojgclaaAvCore
set_option linter.unusedSimpArgs false
set_option linter.unusedVariables false
namespace Go.Av
open Go

section
variable {P : Program} {g g' : List G}

def GLe (g g' : List G) : Prop := ∀ (n : Nat) (x : G), g[n]? = some x → g'[n]? = some x

theorem GLe.refl (g : List G) : GLe g g := fun _ _ h => h
theorem GLe.trans {a b c : List G} (h : GLe a b) (h' : GLe b c) : GLe a c := fun n x hx => h' n x (h n x hx)
theorem GLe.append (g l : List G) : GLe g (g ++ l) := fun n x hx => by
  have hn : n < g.length := by
    rcases Nat.lt_or_ge n g.length with h | h
    · exact h
    · simp [List.getElem?_eq_none h] at hx
  rw [List.getElem?_append_left hn]; exact hx

mutual
theorem FRel.mono (hg : GLe g g') : (v : AV) → (cs : List Value) → FRel P g v cs → FRel P g' v cs
  | .bool b, cs, h => by simpa [FRel] using h
  | .int k n, cs, h => by simpa [FRel] using h
  | .str s, cs, h => by simpa [FRel] using h
  | .ptr none, cs, h => by simpa [FRel] using h
  | .ptr (some (n, p, t)), cs, h => by
      simp only [FRel] at h ⊢
      obtain ⟨x, o, h1, h2⟩ := h
      exact ⟨x, o, hg _ _ h1, h2⟩
  | .loc _ _ _, cs, h => by simp [FRel] at h
  | .sl none len cap, cs, h => by simpa [FRel] using h
  | .sl (some (n, p, start, e)) len cap, cs, h => by
      simp only [FRel] at h ⊢
      obtain ⟨x, v, h1, h2⟩ := h
      exact ⟨x, v, hg _ _ h1, h2⟩
  | .lsl _ _ _ _ _ _, cs, h => by simp [FRel] at h
  | .map none, cs, h => by simpa [FRel] using h
  | .map (some n), cs, h => by
      simp only [FRel] at h ⊢
      obtain ⟨x, h1, h2⟩ := h
      exact ⟨x, hg _ _ h1, h2⟩
  | .fn f a b, cs, h => by
      simp only [FRel] at h ⊢
      obtain ⟨a', b', h1, h2, h3⟩ := h
      exact ⟨a', b', h1, TRelL.mono hg a _ h2, TRelL.mono hg b _ h3⟩
  | .nilFn, cs, h => by simpa [FRel] using h
  | .ifc t v, cs, h => by
      simp only [FRel] at h ⊢
      obtain ⟨v', h1, h2, h3⟩ := h
      exact ⟨v', h1, FRel.mono hg v _ h2, h3⟩
  | .nilIfc, cs, h => by simpa [FRel] using h
  | .ag l, cs, h => by
      simp only [FRel] at h ⊢
      exact FRelL.mono hg l cs h
  | .tup l, cs, h => by
      simp only [FRel] at h ⊢
      obtain ⟨vs, h1, h2⟩ := h
      exact ⟨vs, h1, TRelL.mono hg l _ h2⟩
  | .junk, cs, h => by simp [FRel] at h
theorem FRelL.mono (hg : GLe g g') : (l : List AV) → (cs : List Value) → FRelL P g l cs → FRelL P g' l cs
  | [], cs, h => by simpa [FRelL] using h
  | v :: r, cs, h => by
      simp only [FRelL] at h ⊢
      obtain ⟨c1, c2, h1, h2, h3⟩ := h
      exact ⟨c1, c2, h1, FRel.mono hg v _ h2, FRelL.mono hg r _ h3⟩
theorem TRelL.mono (hg : GLe g g') : (l : List AV) → (vs : List Value) → TRelL P g l vs → TRelL P g' l vs
  | [], vs, h => by simpa [TRelL] using h
  | v :: r, vs, h => by
      simp only [TRelL] at h ⊢
      obtain ⟨v', r', h1, h2, h3, h4⟩ := h
      exact ⟨v', r', h1, FRel.mono hg v _ h2, h3, TRelL.mono hg r _ h4⟩
end

theorem VRel.mono (hg : GLe g g') {v : AV} {v' : Value} (h : VRel P g v v') : VRel P g' v v' := ⟨FRel.mono hg _ _ h.1, h.2⟩

theorem FRel_leaf_one {v : AV} {cs : List Value} (hv : v.isAg = false) (h : FRel P g v cs) : ∃ c, cs = [c] ∧ isAggV c = false := by
  match v, h with
  | .bool b, h => simp only [FRel] at h; exact ⟨_, h, rfl⟩
  | .int k n, h => simp only [FRel] at h; exact ⟨_, h, rfl⟩
  | .str s, h => simp only [FRel] at h; exact ⟨_, h, rfl⟩
  | .ptr none, h => simp only [FRel] at h; exact ⟨_, h, rfl⟩
  | .ptr (some (n, p, t)), h => simp only [FRel] at h; obtain ⟨x, v, _, h, o, _, _, rfl⟩ := h; exact ⟨_, h, rfl⟩
  | .loc _ _ _, h => simp [FRel] at h
  | .sl none len cap, h => simp only [FRel] at h; exact ⟨_, h.2.2, rfl⟩
  | .sl (some (n, p, start, e)) len cap, h =>
      simp only [FRel, SlOk] at h
      obtain ⟨x, v, _, hv, a, cap', h2, _⟩ := h
      exact ⟨v, hv, by rw [h2]; rfl⟩
  | .lsl _ _ _ _ _ _, h => simp [FRel] at h
  | .map none, h => simp only [FRel] at h; exact ⟨_, h, rfl⟩
  | .map (some n), h => simp only [FRel] at h; obtain ⟨x, _, h⟩ := h; exact ⟨_, h, rfl⟩
  | .fn f a b, h => simp only [FRel] at h; obtain ⟨a', b', h, _⟩ := h; exact ⟨_, h, rfl⟩
  | .nilFn, h => simp only [FRel] at h; exact ⟨_, h, rfl⟩
  | .ifc t v, h => simp only [FRel] at h; obtain ⟨v', h, _⟩ := h; exact ⟨_, h, rfl⟩
  | .nilIfc, h => simp only [FRel] at h; exact ⟨_, h, rfl⟩
  | .ag l, h => simp [AV.isAg] at hv
  | .tup l, h => simp only [FRel] at h; obtain ⟨vs, h, _⟩ := h; exact ⟨_, h, rfl⟩
  | .junk, h => simp [FRel] at h

theorem wt_leafT {v : AV} {t : TypeId} (hv : v.isAg = false) (h : wt P v t = true) : leafT P v t = true := by
  cases v <;> first | (simp [AV.isAg] at hv; done) | (simpa only [wt] using h)

theorem leafOK_desc {v : AV} {d : TypeDesc} (h : leafOK v d = true) : isAggD d = false := by
  cases d <;> first | rfl | (cases v <;> simp [leafOK] at h)

theorem wt_leaf {v : AV} {t : TypeId} (hv : v.isAg = false) (h : wt P v t = true) :
    P.cellsOf t = 1 ∧ ∃ d, P.underlying t = some d ∧ leafOK v d = true := by
  have h' := wt_leafT hv h
  unfold leafT at h'
  simp only [Bool.and_eq_true, beq_iff_eq] at h'
  refine ⟨h'.1, ?_⟩
  cases hu : P.underlying t with
  | none => simp [hu] at h'
  | some d => exact ⟨d, rfl, by simpa [hu] using h'.2⟩

theorem isAg_of_wt {v : AV} {t : TypeId} (h : wt P v t = true) :
    ∃ d, P.underlying t = some d ∧ v.isAg = isAggD d := by
  cases hv : v.isAg with
  | false => obtain ⟨_, d, h1, h2⟩ := wt_leaf hv h; exact ⟨d, h1, (leafOK_desc h2).symm⟩
  | true =>
    cases v <;> simp [AV.isAg] at hv
    rename_i l
    simp only [wt] at h
    cases hu : P.underlying t with
    | none => simp [hu] at h
    | some d => refine ⟨d, rfl, ?_⟩; cases d <;> simp_all [isAggD]

mutual
theorem wt_len : (v : AV) → (t : TypeId) → (cs : List Value) → wt P v t = true → FRel P g v cs → cs.length = P.cellsOf t
  | .ag l, t, cs, h, hr => by
      simp only [wt] at h
      simp only [FRel] at hr
      cases hu : P.underlying t with
      | none => simp [hu] at h
      | some d =>
        cases d with
        | struct fs =>
          simp only [hu] at h
          have := wtF_len l fs.toList 0 (P.cellsOf t) cs h hr
          omega
        | array n e =>
          simp only [hu, Bool.and_eq_true, beq_iff_eq] at h
          obtain ⟨⟨h1, h2⟩, h3⟩ := h
          have := wtA_len l e cs h3 hr
          rw [this, h2, h1]
        | _ => simp [hu] at h
  | .bool b, t, cs, h, hr => by obtain ⟨c, rfl, _⟩ := FRel_leaf_one rfl hr; exact (wt_leaf rfl h).1.symm
  | .int k n, t, cs, h, hr => by obtain ⟨c, rfl, _⟩ := FRel_leaf_one rfl hr; exact (wt_leaf rfl h).1.symm
  | .str b, t, cs, h, hr => by obtain ⟨c, rfl, _⟩ := FRel_leaf_one rfl hr; exact (wt_leaf rfl h).1.symm
  | .ptr b, t, cs, h, hr => by obtain ⟨c, rfl, _⟩ := FRel_leaf_one rfl hr; exact (wt_leaf rfl h).1.symm
  | .loc _ _ _, t, cs, h, hr => by obtain ⟨c, rfl, _⟩ := FRel_leaf_one rfl hr; exact (wt_leaf rfl h).1.symm
  | .sl _ _ _, t, cs, h, hr => by obtain ⟨c, rfl, _⟩ := FRel_leaf_one rfl hr; exact (wt_leaf rfl h).1.symm
  | .lsl _ _ _ _ _ _, t, cs, h, hr => by obtain ⟨c, rfl, _⟩ := FRel_leaf_one rfl hr; exact (wt_leaf rfl h).1.symm
  | .map _, t, cs, h, hr => by obtain ⟨c, rfl, _⟩ := FRel_leaf_one rfl hr; exact (wt_leaf rfl h).1.symm
  | .fn _ _ _, t, cs, h, hr => by obtain ⟨c, rfl, _⟩ := FRel_leaf_one rfl hr; exact (wt_leaf rfl h).1.symm
  | .nilFn, t, cs, h, hr => by obtain ⟨c, rfl, _⟩ := FRel_leaf_one rfl hr; exact (wt_leaf rfl h).1.symm
  | .ifc _ _, t, cs, h, hr => by obtain ⟨c, rfl, _⟩ := FRel_leaf_one rfl hr; exact (wt_leaf rfl h).1.symm
  | .nilIfc, t, cs, h, hr => by obtain ⟨c, rfl, _⟩ := FRel_leaf_one rfl hr; exact (wt_leaf rfl h).1.symm
  | .tup _, t, cs, h, hr => by obtain ⟨c, rfl, _⟩ := FRel_leaf_one rfl hr; exact (wt_leaf rfl h).1.symm
  | .junk, t, cs, h, hr => by obtain ⟨c, rfl, _⟩ := FRel_leaf_one rfl hr; exact (wt_leaf rfl h).1.symm
theorem wtF_len : (l : List AV) → (fs : List Field) → (off size : Nat) → (cs : List Value) → wtF P l fs off size = true → FRelL P g l cs → off + cs.length = size
  | [], [], off, size, cs, h, hr => by simp only [wtF, beq_iff_eq] at h; simp only [FRelL] at hr; subst hr; simpa using h
  | [], _ :: _, off, size, cs, h, hr => by simp [wtF] at h
  | _ :: _, [], off, size, cs, h, hr => by simp [wtF] at h
  | v :: l, f :: fs, off, size, cs, h, hr => by
      simp only [wtF, Bool.and_eq_true, beq_iff_eq] at h
      simp only [FRelL] at hr
      obtain ⟨⟨_, h2⟩, h3⟩ := h
      obtain ⟨c1, c2, rfl, r1, r2⟩ := hr
      have e1 := wt_len v f.type c1 h2 r1
      have e2 := wtF_len l fs _ size c2 h3 r2
      simp only [List.length_append]
      omega
theorem wtA_len : (l : List AV) → (e : TypeId) → (cs : List Value) → wtA P l e = true → FRelL P g l cs → cs.length = l.length * P.cellsOf e
  | [], e, cs, h, hr => by simp only [FRelL] at hr; subst hr; simp
  | v :: l, e, cs, h, hr => by
      simp only [wtA, Bool.and_eq_true] at h
      simp only [FRelL] at hr
      obtain ⟨c1, c2, rfl, r1, r2⟩ := hr
      have e1 := wt_len v e c1 h.1 r1
      have e2 := wtA_len l e c2 h.2 r2
      simp only [List.length_append, List.length_cons, Nat.add_mul, Nat.one_mul]
      omega
end

/-- A field of a struct, among the cells. -/
theorem field_ok : (l : List AV) → (fs : List Field) → (off size : Nat) → (cs : List Value) → wtF P l fs off size = true → FRelL P g l cs →
    (i : Nat) → (f : Field) → fs[i]? = some f →
    ∃ x c0 c1 c2, l[i]? = some x ∧ cs = c0 ++ c1 ++ c2 ∧ off + c0.length = f.offset ∧ wt P x f.type = true ∧ FRel P g x c1 ∧
      (∀ y, wt P y f.type = true → wtF P (l.set i y) fs off size = true) ∧ (∀ y d1, FRel P g y d1 → FRelL P g (l.set i y) (c0 ++ d1 ++ c2))
  | [], [], off, size, cs, h, hr, i, f, hf => by simp at hf
  | [], _ :: _, off, size, cs, h, hr, i, f, hf => by simp [wtF] at h
  | _ :: _, [], off, size, cs, h, hr, i, f, hf => by simp at hf
  | v :: l, f0 :: fs, off, size, cs, h, hr, i, f, hf => by
      simp only [wtF, Bool.and_eq_true, beq_iff_eq] at h
      simp only [FRelL] at hr
      obtain ⟨⟨h1, h2⟩, h3⟩ := h
      obtain ⟨c1, c2, rfl, r1, r2⟩ := hr
      cases i with
      | zero =>
        simp only [List.getElem?_cons_zero, Option.some.injEq] at hf
        subst hf
        refine ⟨v, [], c1, c2, rfl, by simp, by simpa using h1.symm, h2, r1, fun y hy => ?_, fun y d1 hd => ?_⟩
        · simp [wtF, h1, hy, h3]
        · simp only [List.set_cons_zero, FRelL]; exact ⟨d1, c2, by simp, hd, r2⟩
      | succ i =>
        simp only [List.getElem?_cons_succ] at hf
        obtain ⟨x, a0, a1, a2, e1, e2, e3, e4, e5, e6, e7⟩ := field_ok l fs _ size c2 h3 r2 i f hf
        have hl := wt_len v f0.type c1 h2 r1
        refine ⟨x, c1 ++ a0, a1, a2, by simpa using e1, by rw [e2]; simp, by simp only [List.length_append]; omega, e4, e5, fun y hy => ?_, fun y d1 hd => ?_⟩
        · simp [wtF, h1, h2, e6 y hy]
        · simp only [List.set_cons_succ, FRelL]; exact ⟨c1, a0 ++ d1 ++ a2, by simp, r1, e7 y d1 hd⟩

/-- An element of an array or a row, among the cells. -/
theorem elem_ok : (l : List AV) → (e : TypeId) → (cs : List Value) → wtA P l e = true → FRelL P g l cs →
    (i : Nat) → i < l.length →
    ∃ x c0 c1 c2, l[i]? = some x ∧ cs = c0 ++ c1 ++ c2 ∧ c0.length = i * P.cellsOf e ∧ wt P x e = true ∧ FRel P g x c1 ∧
      (∀ y, wt P y e = true → wtA P (l.set i y) e = true) ∧ (∀ y d1, FRel P g y d1 → FRelL P g (l.set i y) (c0 ++ d1 ++ c2))
  | [], e, cs, h, hr, i, hi => by simp at hi
  | v :: l, e, cs, h, hr, i, hi => by
      simp only [wtA, Bool.and_eq_true] at h
      simp only [FRelL] at hr
      obtain ⟨h2, h3⟩ := h
      obtain ⟨c1, c2, rfl, r1, r2⟩ := hr
      cases i with
      | zero =>
        refine ⟨v, [], c1, c2, rfl, by simp, by simp, h2, r1, fun y hy => ?_, fun y d1 hd => ?_⟩
        · simp [wtA, hy, h3]
        · simp only [List.set_cons_zero, FRelL]; exact ⟨d1, c2, by simp, hd, r2⟩
      | succ i =>
        obtain ⟨x, a0, a1, a2, e1, e2, e3, e4, e5, e6, e7⟩ := elem_ok l e c2 h3 r2 i (by simpa using hi)
        have hl := wt_len v e c1 h2 r1
        refine ⟨x, c1 ++ a0, a1, a2, by simpa using e1, by rw [e2]; simp, by simp only [List.length_append, Nat.add_mul, Nat.one_mul]; omega, e4, e5, fun y hy => ?_, fun y d1 hd => ?_⟩
        · simp [wtA, h2, e6 y hy]
        · simp only [List.set_cons_succ, FRelL]; exact ⟨c1, a0 ++ d1 ++ a2, by simp, r1, e7 y d1 hd⟩

/-- What lies at a path, among the cells; and what comes of a write there. -/
theorem path_ok : (p : List Nat) → (v : AV) → (t : TypeId) → (o : Nat) → (u : TypeId) → (cs : List Value) → wt P v t = true → offT P p t = some (o, u) → FRel P g v cs →
    ∃ x c0 c1 c2, getP v p = some x ∧ cs = c0 ++ c1 ++ c2 ∧ c0.length = o ∧ wt P x u = true ∧ FRel P g x c1 ∧
      (∀ y, wt P y u = true → ∃ v', setP v p y = some v' ∧ wt P v' t = true ∧ ∀ d1, FRel P g y d1 → FRel P g v' (c0 ++ d1 ++ c2))
  | [], v, t, o, u, cs, h, ho, hr => by
      simp only [offT, Option.some.injEq, Prod.mk.injEq] at ho
      obtain ⟨rfl, rfl⟩ := ho
      exact ⟨v, [], cs, [], by simp [getP], by simp, rfl, h, hr, fun y hy => ⟨y, by simp [setP], hy, fun d1 hd => by simpa using hd⟩⟩
  | i :: p, v, t, o, u, cs, h, ho, hr => by
      simp only [offT] at ho
      cases hu : P.underlying t with
      | none => simp [hu] at ho
      | some d =>
        cases d with
        | struct fs =>
          simp only [hu] at ho
          cases hf : fs.toList[i]? with
          | none => simp [hf] at ho
          | some f =>
            simp only [hf, Option.map_eq_some_iff] at ho
            obtain ⟨⟨o1, u1⟩, ho, hx⟩ := ho
            simp only [Prod.mk.injEq] at hx
            obtain ⟨rfl, rfl⟩ := hx
            have hag : v.isAg = true := by
              obtain ⟨d, hd, he⟩ := isAg_of_wt h
              rw [hu] at hd
              cases hd
              exact he
            match v, hag, h, hr with
            | .ag l, _, h, hr =>
              have h0 := h
              simp only [wt, hu] at h
              simp only [FRel] at hr
              obtain ⟨x, a0, a1, a2, e1, e2, e3, e4, e5, e6, e7⟩ := field_ok l fs.toList 0 _ cs h hr i f hf
              obtain ⟨y, b0, b1, b2, q1, q2, q3, q4, q5, q6⟩ := path_ok p x f.type o1 u1 a1 e4 ho e5
              refine ⟨y, a0 ++ b0, b1, b2 ++ a2, ?_, ?_, ?_, q4, q5, fun z hz => ?_⟩
              · simp [getP, e1, q1]
              · rw [e2, q2]; simp
              · simp only [List.length_append]; omega
              · obtain ⟨v', w1, w2, w3⟩ := q6 z hz
                refine ⟨.ag (l.set i v'), by simp [setP, e1, w1], by simp only [wt, hu]; exact e6 v' w2, fun d1 hd => ?_⟩
                simp only [FRel]
                have := e7 v' _ (w3 d1 hd)
                simpa using this
        | array n e =>
          simp only [hu] at ho
          split at ho
          · rename_i hlt
            simp only [Option.map_eq_some_iff] at ho
            obtain ⟨⟨o1, u1⟩, ho, hx⟩ := ho
            simp only [Prod.mk.injEq] at hx
            obtain ⟨rfl, rfl⟩ := hx
            have hag : v.isAg = true := by
              obtain ⟨d, hd, he⟩ := isAg_of_wt h
              rw [hu] at hd
              cases hd
              exact he
            match v, hag, h, hr with
            | .ag l, _, h, hr =>
              have h0 := h
              simp only [wt, hu, Bool.and_eq_true, beq_iff_eq] at h
              obtain ⟨⟨hl, hc⟩, ha⟩ := h
              simp only [FRel] at hr
              obtain ⟨x, a0, a1, a2, e1, e2, e3, e4, e5, e6, e7⟩ := elem_ok l e cs ha hr i (by omega)
              obtain ⟨y, b0, b1, b2, q1, q2, q3, q4, q5, q6⟩ := path_ok p x e o1 u1 a1 e4 ho e5
              refine ⟨y, a0 ++ b0, b1, b2 ++ a2, ?_, ?_, ?_, q4, q5, fun z hz => ?_⟩
              · simp [getP, e1, q1]
              · rw [e2, q2]; simp
              · simp only [List.length_append]; omega
              · obtain ⟨v', w1, w2, w3⟩ := q6 z hz
                refine ⟨.ag (l.set i v'), by simp [setP, e1, w1], by simp [wt, hu, hl, hc, e6 v' w2], fun d1 hd => ?_⟩
                simp only [FRel]
                have := e7 v' _ (w3 d1 hd)
                simpa using this
          · simp at ho
        | _ => simp [hu] at ho

/-- The same in a row. -/
theorem row_ok (p : List Nat) (l : List AV) (t : TypeId) (o : Nat) (u : TypeId) (cs : List Value) (h : wtA P l t = true) (ho : offR P t p = some (o, u)) (hp : p.headD 0 < l.length)
    (hr : FRelL P g l cs) :
    ∃ x c0 c1 c2, getP (.ag l) p = some x ∧ cs = c0 ++ c1 ++ c2 ∧ c0.length = o ∧ wt P x u = true ∧ FRel P g x c1 ∧
      (∀ y, wt P y u = true → ∃ l', setP (.ag l) p y = some (.ag l') ∧ l'.length = l.length ∧ wtA P l' t = true ∧ ∀ d1, FRel P g y d1 → FRelL P g l' (c0 ++ d1 ++ c2)) := by
  cases p with
  | nil => simp [offR] at ho
  | cons i p =>
    simp only [offR, Option.map_eq_some_iff] at ho
    obtain ⟨⟨o1, u1⟩, ho, hx⟩ := ho
    simp only [Prod.mk.injEq] at hx
    obtain ⟨rfl, rfl⟩ := hx
    simp only [List.headD_cons] at hp
    obtain ⟨x, a0, a1, a2, e1, e2, e3, e4, e5, e6, e7⟩ := elem_ok l t cs h hr i hp
    obtain ⟨y, b0, b1, b2, q1, q2, q3, q4, q5, q6⟩ := path_ok p x t o1 u1 a1 e4 ho e5
    refine ⟨y, a0 ++ b0, b1, b2 ++ a2, ?_, ?_, ?_, q4, q5, fun z hz => ?_⟩
    · simp [getP, e1, q1]
    · rw [e2, q2]; simp
    · simp only [List.length_append]; omega
    · obtain ⟨v', w1, w2, w3⟩ := q6 z hz
      refine ⟨l.set i v', by simp [setP, e1, w1], by simp, e6 v' w2, fun d1 hd => ?_⟩
      have := e7 v' _ (w3 d1 hd)
      simpa using this

/-- A value of a shape is data: none of the frame's own. -/
theorem leafOK_one {v : AV} {d : TypeDesc} (h : leafOK v d = true) {c : Value} (hr : FRel P g v [c]) : c.oneCell' = true := by
  cases v <;> cases d <;> simp [leafOK] at h <;> first
    | (simp [FRel] at hr; subst hr; rfl)
    | skip
  · rename_i p _
    cases p with
    | none => simp [FRel] at hr; subst hr; rfl
    | some q =>
      obtain ⟨n, p, t⟩ := q
      simp only [FRel] at hr
      obtain ⟨x, v, _, h1, o, _, _, rfl⟩ := hr
      simp only [List.cons.injEq, and_true] at h1
      subst h1
      rfl
  · rename_i p _ _ _
    cases p with
    | none => simp [FRel] at hr; obtain ⟨_, _, rfl⟩ := hr; rfl
    | some q =>
      obtain ⟨n, p, s, t⟩ := q
      simp only [FRel, SlOk] at hr
      obtain ⟨x, v, _, h1, a, cap', h2, _⟩ := hr
      simp only [List.cons.injEq, and_true] at h1
      subst h1
      rw [h2]; rfl
  · rename_i r _ _
    cases r with
    | none => simp [FRel] at hr; subst hr; rfl
    | some n => simp only [FRel] at hr; obtain ⟨x, _, h1⟩ := hr; simp only [List.cons.injEq, and_true] at h1; subst h1; rfl
  · simp only [FRel] at hr; obtain ⟨a', b', h1, _⟩ := hr; simp only [List.cons.injEq, and_true] at h1; subst h1; rfl
  · simp only [FRel] at hr; obtain ⟨v', h1, _⟩ := hr; simp only [List.cons.injEq, and_true] at h1; subst h1; rfl

theorem leaf_one {v : AV} {t : TypeId} (hv : v.isAg = false) (h : wt P v t = true) {cs : List Value} (hr : FRel P g v cs) : ∀ c ∈ cs, c.oneCell' = true := by
  obtain ⟨c, rfl, _⟩ := FRel_leaf_one hv hr
  obtain ⟨_, d, _, h2⟩ := wt_leaf hv h
  intro c' hc'
  obtain rfl : c' = c := by simpa using hc'
  exact leafOK_one h2 hr

mutual
theorem wt_one : (v : AV) → (t : TypeId) → (cs : List Value) → wt P v t = true → FRel P g v cs → ∀ c ∈ cs, c.oneCell' = true
  | .ag l, t, cs, h, hr => by
      simp only [wt] at h
      simp only [FRel] at hr
      cases hu : P.underlying t with
      | none => simp [hu] at h
      | some d =>
        cases d with
        | struct fs => simp only [hu] at h; exact wtF_one l fs.toList _ _ cs h hr
        | array n e => simp only [hu, Bool.and_eq_true] at h; exact wtA_one l e cs h.2 hr
        | _ => simp [hu] at h
  | .bool _, t, cs, h, hr => leaf_one rfl h hr
  | .int _ _, t, cs, h, hr => leaf_one rfl h hr
  | .str _, t, cs, h, hr => leaf_one rfl h hr
  | .ptr _, t, cs, h, hr => leaf_one rfl h hr
  | .loc _ _ _, t, cs, h, hr => leaf_one rfl h hr
  | .sl _ _ _, t, cs, h, hr => leaf_one rfl h hr
  | .lsl _ _ _ _ _ _, t, cs, h, hr => leaf_one rfl h hr
  | .map _, t, cs, h, hr => leaf_one rfl h hr
  | .fn _ _ _, t, cs, h, hr => leaf_one rfl h hr
  | .nilFn, t, cs, h, hr => leaf_one rfl h hr
  | .ifc _ _, t, cs, h, hr => leaf_one rfl h hr
  | .nilIfc, t, cs, h, hr => leaf_one rfl h hr
  | .tup _, t, cs, h, hr => leaf_one rfl h hr
  | .junk, t, cs, h, hr => leaf_one rfl h hr
theorem wtF_one : (l : List AV) → (fs : List Field) → (off size : Nat) → (cs : List Value) → wtF P l fs off size = true → FRelL P g l cs → ∀ c ∈ cs, c.oneCell' = true
  | [], fs, off, size, cs, h, hr => by simp only [FRelL] at hr; subst hr; simp
  | _ :: _, [], off, size, cs, h, hr => by simp [wtF] at h
  | v :: l, f :: fs, off, size, cs, h, hr => by
      simp only [wtF, Bool.and_eq_true] at h
      simp only [FRelL] at hr
      obtain ⟨c1, c2, rfl, r1, r2⟩ := hr
      intro c hc
      rcases List.mem_append.1 hc with hc | hc
      · exact wt_one v f.type c1 h.1.2 r1 c hc
      · exact wtF_one l fs _ size c2 h.2 r2 c hc
theorem wtA_one : (l : List AV) → (e : TypeId) → (cs : List Value) → wtA P l e = true → FRelL P g l cs → ∀ c ∈ cs, c.oneCell' = true
  | [], e, cs, h, hr => by simp only [FRelL] at hr; subst hr; simp
  | v :: l, e, cs, h, hr => by
      simp only [wtA, Bool.and_eq_true] at h
      simp only [FRelL] at hr
      obtain ⟨c1, c2, rfl, r1, r2⟩ := hr
      intro c hc
      rcases List.mem_append.1 hc with hc | hc
      · exact wt_one v e c1 h.1 r1 c hc
      · exact wtA_one l e c2 h.2 r2 c hc
end

end
end Go.Av
