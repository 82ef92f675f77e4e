import Derived.Test.YtlonpljlojgclaaAvOk3
set_option linter.unusedSimpArgs false
set_option linter.unusedVariables false
namespace Go.Av
open Go

section
variable {P : Program} {N : Nat} {g : List G} {bx : Nat → Option G} {S : St} {a : Act} {w : World}

/-! ### Composite literals -/

theorem foldl_set (vs : List Value) : ∀ (k off : Nat) (cs : Array Value) (c0 c1 c2 : List Value), cs.toList = c0 ++ c1 ++ c2 → c0.length = off + k → c1.length = vs.length →
    ((vs.zipIdx k).foldl (fun cs (x : Value × Nat) => cs.setIfInBounds (off + x.2) x.1) cs).toList = c0 ++ vs ++ c2 := by
  induction vs with
  | nil =>
    intro k off cs c0 c1 c2 h h0 h1
    obtain rfl := List.length_eq_zero_iff.1 h1
    simpa using h
  | cons v vs ih =>
    intro k off cs c0 c1 c2 h h0 h1
    cases c1 with
    | nil => simp at h1
    | cons c c1 =>
      simp only [List.zipIdx_cons, List.foldl_cons]
      rw [ih (k + 1) off (cs.setIfInBounds (off + k) v) (c0 ++ [v]) c1 c2 ?_ (by simp; omega) (by simpa using h1)]
      · simp
      · rw [Array.toList_setIfInBounds, h, ← h0]
        simp

theorem fill_step (v : Value) (off : Nat) (cs : Array Value) (c0 c1 c2 : List Value) (h : cs.toList = c0 ++ c1 ++ c2) (h0 : c0.length = off) (h1 : c1.length = v.cells.size) :
    (v.cells.zipIdx.foldl (fun cs (x : Value × Nat) => match x with | (c, j) => cs.setIfInBounds (off + j) c) cs).toList = c0 ++ v.cells.toList ++ c2 := by
  have := foldl_set v.cells.toList 0 off cs c0 c1 c2 h (by simpa using h0) (by simpa using h1)
  rw [← this]
  rw [← Array.foldl_toList]
  simp [Array.toList_zipIdx]

/-- What a literal's parts fill. -/
theorem fill_ok (ty : Nat → Option TypeId) (place : Nat → Option (Nat × Nat)) (wf : List AV → Bool)
    (hpl : ∀ i t l cs, ty i = some t → wf l = true → FRelL P g l cs → ∃ off c0 c1 c2, place i = some (off, P.cellsOf t) ∧ cs = c0 ++ c1 ++ c2 ∧ c0.length = off ∧ c1.length = P.cellsOf t ∧
      (∀ y, wt P y t = true → wf (l.set i y) = true) ∧ (∀ y d1, wt P y t = true → FRel P g y d1 → FRelL P g (l.set i y) (c0 ++ d1 ++ c2))) :
    ∀ (parts : List (Nat × AV)) (vs : List (Nat × Value)) (l l' : List AV) (cs : Array Value), fillA P ty parts l = some l' → parts.length = vs.length →
      (∀ (j : Nat) x y, parts[j]? = some x → vs[j]? = some y → x.1 = y.1 ∧ VRelE P g bx x.2 y.2) → wf l = true → FRelL P g l cs.toList →
      ∃ cs', Instr.fill place cs vs = some cs' ∧ wf l' = true ∧ FRelL P g l' cs'.toList := by
  intro parts
  induction parts with
  | nil =>
    intro vs l l' cs hf hl hp hw hr
    cases vs with
    | nil => simp only [fillA, Option.some.injEq] at hf; subst hf; exact ⟨cs, rfl, hw, hr⟩
    | cons y vs => simp at hl
  | cons x parts ih =>
    intro vs l l' cs hf hl hp hw hr
    cases vs with
    | nil => simp at hl
    | cons y vs =>
      obtain ⟨i, v⟩ := x
      obtain ⟨i', v'⟩ := y
      obtain ⟨e1, e2⟩ := hp 0 _ _ rfl rfl
      simp only at e1 e2
      subst e1
      simp only [fillA] at hf
      cases ht : ty i with
      | none => simp [ht] at hf
      | some t =>
        simp only [ht] at hf
        split at hf
        · rename_i hwt
          have hv := VRelE.VRel (wt_free hwt) e2
          obtain ⟨off, c0, c1, c2, q1, q2, q3, q4, q5, q6⟩ := hpl i t l cs.toList ht hw hr
          have hlen := wt_len (g := g) v t _ hwt hv.cells
          have hsz : v'.cells.size = P.cellsOf t := by rw [← hlen]; simp
          have hcs : cs.size = c0.length + c1.length + c2.length := by rw [← Array.length_toList, q2]; simp [Nat.add_assoc]
          have hst := fill_step v' off cs c0 c1 c2 q2 q3 (by rw [q4, hsz])
          obtain ⟨cs', k1, k2, k3⟩ := ih vs (l.set i v) l' (v'.cells.zipIdx.foldl (fun cs (x : Value × Nat) => match x with | (c, j) => cs.setIfInBounds (off + j) c) cs) hf (by simpa using hl)
            (fun j x y hx hy => hp (j + 1) x y (by simpa using hx) (by simpa using hy)) (q5 v hwt) (by rw [hst]; exact q6 v _ hwt hv.cells)
          refine ⟨cs', ?_, k2, k3⟩
          simp only [Instr.fill, q1, hsz]
          rw [if_neg (by simp; omega)]
          exact k1
        · cases hf

theorem parts_rel (h : SRel P N g bx S a w) (ps : Array (Nat × Operand)) (j : Nat) (x : Nat × AV) (y : Nat × Value)
    (hx : (ps.toList.map fun q => (q.1, S.view.ρ q.2))[j]? = some x) (hy : (ps.map fun (q : Nat × Operand) => (q.1, a.eval q.2)).toList[j]? = some y) :
    x.1 = y.1 ∧ VRelE P g bx x.2 y.2 := by
  simp only [Array.toList_map, List.getElem?_map, Option.map_eq_some_iff] at hx hy
  obtain ⟨q, hq, rfl⟩ := hx
  obtain ⟨q', hq', rfl⟩ := hy
  rw [hq] at hq'; cases hq'
  exact ⟨rfl, evalA_ok h q.2⟩

theorem mapM_run {α β : Type} (F : α → Sem β) (G : α → β) : ∀ l : List α, (∀ x ∈ l, (F x).run P w = .ok (G x) w) → (l.mapM F).run P w = .ok (l.map G) w := by
  intro l
  induction l with
  | nil => intro _; simp
  | cons x l ih =>
    intro hl
    rw [List.mapM_cons, Sem.run_bind, hl x (by simp), Result.andThen_ok, Sem.run_bind, ih (fun y hy => hl y (by simp [hy]))]
    rfl

theorem mapM_fields (fs : Array Field) (hf : ∀ f ∈ fs, ∃ d, P.underlying f.type = some d) :
    ((fs.mapM fun f => do pure (f.offset, ← sizeOf f.type)) : Sem (Array (Nat × Nat))).run P w = .ok (fs.map fun f => (f.offset, P.cellsOf f.type)) w := by
  obtain ⟨l⟩ := fs
  have := mapM_run (P := P) (w := w) (fun f : Field => (do pure (f.offset, ← sizeOf f.type) : Sem (Nat × Nat))) (fun f => (f.offset, P.cellsOf f.type)) l (fun f hf' => by
    obtain ⟨d, hd⟩ := hf f (by simpa using hf')
    rw [Sem.run_bind, run_sizeOf_cells hd]
    rfl)
  rw [Array.mapM_eq_mapM_toList, Sem.run_map, this]
  simp

theorem wtF_desc : (l : List AV) → (fs : List Field) → (o s : Nat) → wtF P l fs o s = true → ∀ f ∈ fs, ∃ d, P.underlying f.type = some d
  | [], [], _, _, _, f, hf => by simp at hf
  | [], _ :: _, _, _, h, _, _ => by simp [wtF] at h
  | _ :: _, [], _, _, h, _, _ => by simp [wtF] at h
  | v :: l, f0 :: fs, o, s, h, f, hf => by
      simp only [wtF, Bool.and_eq_true] at h
      rcases List.mem_cons.1 hf with rfl | hf
      · obtain ⟨d, hd, _⟩ := isAg_of_wt h.1.2; exact ⟨d, hd⟩
      · exact wtF_desc l fs _ _ h.2 f hf

theorem buildA_ok {C : Cfg} (hZ : ZOK P C.Z) (h : SRel P N g bx S a w) {t : TypeId} {ps : Array (Nat × Operand)} {v : AV} (hb : buildA P C t (ps.toList.map fun q => (q.1, S.view.ρ q.2)) = some v) :
    ∃ v', (Instr.build t (ps.map fun (q : Nat × Operand) => (q.1, a.eval q.2))).run P w = .ok v' w ∧ VRel P g v v' := by
  unfold buildA at hb
  cases hz : C.Z t with
  | none => simp [hz] at hb
  | some z =>
    obtain ⟨hwz, zv, hrun, hrel⟩ := hZ.run hz
    cases z <;> simp only [hz] at hb <;> try (cases hb; done)
    rename_i l
    obtain ⟨zc, rfl, hzr⟩ := (hrel g).ag_inv
    cases hu : P.underlying t with
    | none => simp [hu] at hb
    | some d =>
      cases d with
      | struct fs =>
        simp only [hu, Option.map_eq_some_iff] at hb
        obtain ⟨l', hf, rfl⟩ := hb
        simp only [wt, hu] at hwz
        obtain ⟨cs', k1, k2, k3⟩ := fill_ok (P := P) (g := g) (bx := bx) (fun i => (fs.toList[i]?).map fun f => f.type) (fun i => (fs.map fun f => (f.offset, P.cellsOf f.type))[i]?)
          (fun l => wtF P l fs.toList 0 (P.cellsOf t)) (by
            intro i t' l cs ht hw hr
            simp only [Option.map_eq_some_iff] at ht
            obtain ⟨f, hf', rfl⟩ := ht
            obtain ⟨x, c0, c1, c2, e1, e2, e3, e4, e5, e6, e7⟩ := field_ok l fs.toList 0 _ cs hw hr i f hf'
            refine ⟨f.offset, c0, c1, c2, ?_, e2, by omega, wt_len (g := g) x _ c1 e4 e5, e6, fun y d1 _ hd => e7 y d1 hd⟩
            have : fs[i]? = some f := by simpa using hf'
            simp [this]) _ (ps.map fun (q : Nat × Operand) => (q.1, a.eval q.2)).toList l l' zc hf (by simp) (parts_rel h ps) hwz hzr
        refine ⟨.agg cs', ?_, VRel.ag k3⟩
        simp only [Instr.build, Sem.run_bind, hrun, Result.andThen_ok, run_underlying hu, Value.cells]
        rw [mapM_fields fs (fun f hf' => wtF_desc l fs.toList _ _ hwz f (by simpa using hf'))]
        simp only [Result.andThen_ok, k1, Sem.run_pure]
      | array n e =>
        simp only [hu] at hb
        split at hb
        · cases hb
        rename_i hn
        simp only [Option.map_eq_some_iff] at hb
        obtain ⟨l', hf, rfl⟩ := hb
        simp only [wt, hu, Bool.and_eq_true, beq_iff_eq] at hwz
        obtain ⟨⟨hl, hc⟩, hwa⟩ := hwz
        obtain ⟨x0, _, _, _, _, _, _, hx0, _⟩ := elem_ok l e zc.toList hwa hzr 0 (by omega)
        obtain ⟨d0, hd0, _⟩ := isAg_of_wt hx0
        obtain ⟨cs', k1, k2, k3⟩ := fill_ok (P := P) (g := g) (bx := bx) (fun i => if i < n then some e else none) (fun i => some (i * P.cellsOf e, P.cellsOf e))
          (fun l => l.length == n && wtA P l e) (by
            intro i t' l cs ht hw hr
            split at ht
            · rename_i hi
              cases ht
              simp only [Bool.and_eq_true, beq_iff_eq] at hw
              obtain ⟨x, c0, c1, c2, e1, e2, e3, e4, e5, e6, e7⟩ := elem_ok l e cs hw.2 hr i (by omega)
              exact ⟨_, c0, c1, c2, rfl, e2, e3, wt_len (g := g) x _ c1 e4 e5, fun y hy => by simp [hw.1, e6 y hy], fun y d1 _ hd => e7 y d1 hd⟩
            · cases ht) _ (ps.map fun (q : Nat × Operand) => (q.1, a.eval q.2)).toList l l' zc hf (by simp) (parts_rel h ps) (by simp [hl, hwa]) hzr
        refine ⟨.agg cs', ?_, VRel.ag k3⟩
        simp only [Instr.build, Sem.run_bind, hrun, Result.andThen_ok, run_underlying hu, Value.cells, run_sizeOf_cells hd0, k1, Sem.run_pure]
      | _ => simp [hu] at hb

end
end Go.Av
