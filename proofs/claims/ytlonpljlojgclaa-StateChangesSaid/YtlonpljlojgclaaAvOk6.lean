import Derived.Test.YtlonpljlojgclaaAvOkC
import Derived.Test.YtlonpljlojgclaaAvOkM
set_option linter.unusedSimpArgs false
set_option linter.unusedVariables false
namespace Go.Av
open Go

section
variable {P : Program} {N : Nat} {g : List G} {bx : Nat → Option G} {S : St} {a : Act} {w : World}

theorem sliceA_ok {t : TypeId} {x v : AV} {lo hi mx : Option AV} (h : sliceA P t x lo hi mx = some v) {vx : Value} (hx : VRelE P g bx x vx) {lo' hi' mx' : Option Value}
    (h1 : OptRel P g bx lo lo') (h2 : OptRel P g bx hi hi') (h3 : OptRel P g bx mx mx') :
    (∃ s, P.underlying t = some (.slice s)) ∧ ∃ v', (Instr.slice t vx lo' hi' mx').run P w = .ok v' w ∧ VRel P g v v' := by
  unfold sliceA at h
  split at h
  · cases h
  rename_i hguard
  have hmh : mx = none ∨ hi ≠ none := by
    cases mx with
    | none => exact .inl rfl
    | some m =>
      cases hi with
      | none => simp at hguard
      | some _ => exact .inr (by simp)
  split at h
  · rename_i e b p s E len cap hu
    refine ⟨⟨_, hu⟩, ?_⟩
    split at h
    · rename_i hE
      obtain ⟨rfl, hne⟩ := hE
      split at h
      · rename_i m em
        split at h
        · rename_i hh eh
          split at h
          · rename_i l el
            cases h
            have hx' : VRel P g (.sl (some (b, p, s, E)) len cap) vx := hx
            have := hx'.leaf rfl
            simp only [FRel] at this
            obtain ⟨y, v1, e1, e2, e3⟩ := this
            obtain rfl : vx = v1 := by simpa using e2
            obtain ⟨aa, cap', rfl, q1, q2, q3⟩ := e3
            have hb := sliceBounds_ok (w := w) q2 h1 h2 h3 hmh em eh el
            have hlh : l ≤ hh := by
              rcases boundA_inv el with ⟨_, rfl⟩ | ⟨_, _, _, h'⟩ <;> omega
            have hmc : m ≤ cap := by
              rcases boundA_inv em with ⟨_, rfl⟩ | ⟨_, _, _, h'⟩ <;> omega
            have hhm : hh ≤ m := by
              rcases boundA_inv eh with ⟨rfl, rfl⟩ | ⟨_, _, _, h'⟩
              · rcases hmh with rfl | h'
                · rcases boundA_inv em with ⟨_, rfl⟩ | ⟨_, h', _⟩
                  · exact q1
                  · cases h'
                · exact absurd rfl h'
              · exact h'
            have hsub := SlOk.sub (P := P) (x := y) (p := p) (s := s) (e := E) (len := len) (cap := cap) (b := some aa) (cap' := cap') ⟨aa, cap', rfl, q1, q2, q3⟩ (l := l) (hh := hh) (m := m)
              (m' := if mx.isSome then m else cap') hlh hhm hmc (by
                cases hm : mx with
                | some _ => exact .inl (by simp)
                | none =>
                  subst hm
                  rcases boundA_inv em with ⟨_, rfl⟩ | ⟨_, h', _⟩
                  · exact .inr ⟨rfl, by simp⟩
                  · cases h')
            refine ⟨.slice (if (if mx.isSome = true then m else cap') = l then some aa else (some aa).map (·.add (l * P.cellsOf E))) (hh - l) ((if mx.isSome = true then m else cap') - l), ?_, VRel.of_cell rfl ?_⟩
            · simp only [Instr.slice, Sem.run_bind, run_underlying hu, Result.andThen_ok, hb, run_sizeOf_ne hne, Sem.run_pure]
            · simp only [FRel]
              exact ⟨y, _, e1, rfl, hsub⟩
          · cases h
        · cases h
      · cases h
    · cases h
  · rename_i e len cap hu
    refine ⟨⟨_, hu⟩, ?_⟩
    split at h
    · cases h
    rename_i hne
    split at h
    · rename_i m em
      split at h
      · rename_i hh eh
        split at h
        · rename_i l el
          cases h
          have hx' : VRel P g (.sl none len cap) vx := hx
          have := hx'.leaf rfl
          simp only [FRel] at this
          obtain ⟨rfl, rfl, e2⟩ := this
          obtain rfl : vx = .slice none 0 0 := by simpa using e2
          have hm0 : m = 0 := by rcases boundA_inv em with ⟨_, rfl⟩ | ⟨_, _, _, h'⟩ <;> omega
          have hh0 : hh = 0 := by rcases boundA_inv eh with ⟨_, rfl⟩ | ⟨_, _, _, h'⟩ <;> omega
          have hl0 : l = 0 := by rcases boundA_inv el with ⟨_, rfl⟩ | ⟨_, _, _, h'⟩ <;> omega
          subst hm0; subst hh0; subst hl0
          have hb := sliceBounds_ok (w := w) (P := P) (Nat.le_refl 0) h1 h2 h3 hmh em eh el
          refine ⟨.slice none 0 0, ?_, VRel.of_cell rfl (by simp [FRel])⟩
          simp only [Instr.slice, Sem.run_bind, run_underlying hu, Result.andThen_ok, hb, run_sizeOf_ne hne, Sem.run_pure]
          cases mx <;> rfl
        · cases h
      · cases h
    · cases h
  · cases h

theorem lenA_ok {t : TypeId} {x v : AV} (h : lenA P t x = some v) {vx : Value} (hx : VRelE P g bx x vx) (ts : Array TypeId) (hts : ts.toList.head? = some t) (vs : Array Value) (hvs : vs.toList.head? = some vx) (u : TypeId) :
    ∃ v', (Builtin.len_ ts u vs).run P w = .ok v' w ∧ VRel P g v v' := by
  have ht : ts[0]? = some t := by
    rw [← Array.getElem?_toList]; rw [List.head?_eq_getElem?] at hts; exact hts
  have hv : vs[0]? = some vx := by
    rw [← Array.getElem?_toList]; rw [List.head?_eq_getElem?] at hvs; exact hvs
  unfold lenA at h
  split at h
  · rename_i s hu
    cases h
    obtain rfl := VRel.str_inv (P := P) (g := g) hx
    exact ⟨_, by simp [Builtin.len_, ht, hv, run_underlying hu]; rfl, VRel.int⟩
  · rename_i e p n cap hu
    cases h
    have hx' : VRel P g (.sl p n cap) vx := hx
    have := hx'.leaf rfl
    cases p with
    | none =>
      simp only [FRel] at this
      obtain ⟨rfl, rfl, e2⟩ := this
      obtain rfl : vx = .slice none 0 0 := by simpa using e2
      exact ⟨_, by simp [Builtin.len_, ht, hv, run_underlying hu]; rfl, VRel.int⟩
    | some q =>
      obtain ⟨b, p, s, E⟩ := q
      simp only [FRel] at this
      obtain ⟨y, v1, e1, e2, aa, cap', rfl, _⟩ := this
      obtain rfl : vx = .slice (some aa) n cap' := by simpa using e2
      exact ⟨_, by simp [Builtin.len_, ht, hv, run_underlying hu]; rfl, VRel.int⟩
  · rename_i e k p s E n cap hu
    cases h
    obtain ⟨y, e1, aa, cap', rfl, _⟩ := hx
    exact ⟨_, by simp [Builtin.len_, ht, hv, run_underlying hu]; rfl, VRel.int⟩
  · cases h

theorem max2A_ok {x y v : AV} (h : max2A x y = some v) {vx vy : Value} (hx : VRelE P g bx x vx) (hy : VRelE P g bx y vy) : ∃ v', (Builtin.max2 vx vy).run P w = .ok v' w ∧ VRel P g v v' := by
  unfold max2A at h
  split at h
  · obtain rfl := VRel.int_inv (P := P) (g := g) hx
    obtain rfl := VRel.int_inv (P := P) (g := g) hy
    cases h
    exact ⟨_, by simp [Builtin.max2], VRel.int⟩
  · cases h

theorem min2A_ok {x y v : AV} (h : min2A x y = some v) {vx vy : Value} (hx : VRelE P g bx x vx) (hy : VRelE P g bx y vy) : ∃ v', (Builtin.min2 vx vy).run P w = .ok v' w ∧ VRel P g v v' := by
  unfold min2A at h
  split at h
  · obtain rfl := VRel.int_inv (P := P) (g := g) hx
    obtain rfl := VRel.int_inv (P := P) (g := g) hy
    cases h
    exact ⟨_, by simp [Builtin.min2], VRel.int⟩
  · cases h

theorem fillA_len (ty : Nat → Option TypeId) : ∀ (ps : List (Nat × AV)) (l l' : List AV), fillA P ty ps l = some l' → l'.length = l.length
  | [], l, l', h => by simp only [fillA, Option.some.injEq] at h; rw [h]
  | (i, v) :: r, l, l', h => by
      simp only [fillA] at h
      split at h
      · split at h
        · have := fillA_len ty r _ _ h; simpa using this
        · cases h
      · cases h

theorem buildSlice_ok {C : Cfg} (hZ : ZOK P C.Z) (h : SRel P N g bx S a w) {t : TypeId} {n : Nat} {ps : Array (Nat × Operand)} {dst : Option Tmp} {E : Eff}
    (hb : opFn P C dst (.buildSlice t n ps) S.view = some E) :
    ∃ v' w' g' bx', (Instr.buildSlice t n (ps.map fun (q : Nat × Operand) => (q.1, a.eval q.2))).run P w = .ok v' w' ∧ VRelE P g' bx' E.v v' ∧ SRel P N g' bx' (S.app E) a w' ∧
      Ext g (Own g S.heap bx) w g' (Own g' (S.app E).heap bx') w' := by
  simp only [opFn] at hb
  split at hb
  · rename_i e hu
    split at hb
    · rename_i hc
      obtain ⟨hne, hle⟩ := hc
      split at hb
      · rename_i l hl
        split at hb
        · rename_i l' hf
          -- the cells that the parts fill
          have base : ∃ zs : Array Value, wtA P l e = true ∧ l.length = n ∧ FRelL P g l ((Array.range (n * P.cellsOf e)).map (fun i => zs[i % zs.size]!)).toList ∧
              ((n * P.cellsOf e = 0 ∧ zs = #[]) ∨ (n * P.cellsOf e ≠ 0 ∧ ∃ zv, (zeroValue e).run P w = .ok zv w ∧ zs = zv.cells)) := by
            split at hl
            · rename_i hn
              cases hl
              subst hn
              exact ⟨#[], rfl, rfl, by simp [FRelL], .inl (by simp)⟩
            · rename_i hn
              simp only [Option.map_eq_some_iff] at hl
              obtain ⟨z, hz, rfl⟩ := hl
              obtain ⟨hwz, zv, hrun, hrel⟩ := hZ.run hz
              have hlen := wt_len (g := g) z e _ hwz (hrel g).cells
              refine ⟨zv.cells, wtA_replicate hwz n, by simp, ?_, ?_⟩
              · have := rep_cells (P := P) (g := g) (hrel g).cells hlen n
                simpa using this
              · exact .inr ⟨Nat.mul_ne_zero hn hne, zv, hrun w, rfl⟩
          obtain ⟨zs, hwl, hln, hrl, hzrun⟩ := base
          obtain ⟨cs', k1, k2, k3⟩ := fill_ok (P := P) (g := g) (bx := bx) (fun i => if i < n then some e else none) (fun i => some (i * P.cellsOf e, P.cellsOf e))
            (fun l => l.length == n && wtA P l e) (by
              intro i t' l cs ht hw hr
              split at ht
              · rename_i hi
                cases ht
                simp only [Bool.and_eq_true, beq_iff_eq] at hw
                obtain ⟨x, c0, c1, c2, e1, e2, e3, e4, e5, e6, e7⟩ := elem_ok l e cs hw.2 hr i (by omega)
                exact ⟨_, c0, c1, c2, rfl, e2, e3, wt_len (g := g) x _ c1 e4 e5, fun y hy => by simp [hw.1, e6 y hy], fun y d1 _ hd => e7 y d1 hd⟩
              · cases ht) _ (ps.map fun (q : Nat × Operand) => (q.1, a.eval q.2)).toList l l' _ hf (by simp) (parts_rel h ps) (by simp [hln, hwl]) hrl
          simp only [Bool.and_eq_true, beq_iff_eq] at k2
          obtain ⟨g', bx', q1, q2, q3⟩ := rowA_ok (C := C) h hb k2.2 k3
          rw [k2.1] at q1
          refine ⟨_, _, g', bx', ?_, q1, q2, q3⟩
          have h24 : ¬ n * P.cellsOf e > 2 ^ 24 := by omega
          rcases hzrun with ⟨hz0, rfl⟩ | ⟨hz0, zv, hz1, rfl⟩
          · simp only [Instr.buildSlice, Sem.run_bind, run_underlying hu, Result.andThen_ok, run_sizeOf_ne hne, Sem.run_ite, h24, if_false, hz0, if_true, Sem.run_pure]
            rw [hz0] at k1
            simp only [k1, newRow, Sem.run_bind, run_newObj, Sem.run_pure, Result.andThen_ok]
            rw [if_neg (by omega)]
          · simp only [Instr.buildSlice, Sem.run_bind, run_underlying hu, Result.andThen_ok, run_sizeOf_ne hne, Sem.run_ite, h24, if_false, hz0, Sem.run_pure, hz1]
            simp only [k1, newRow, Sem.run_bind, run_newObj, Sem.run_pure, Result.andThen_ok]
        · cases hb
      · cases hb
    · cases hb
  · cases hb

/-- What a run of an operation is. -/
def OpRun (P : Program) (o : Oper) (a : Act) (w : World) (v : Value) (w' : World) : Prop :=
  (execOp a.eval o).run P w = .ok (.value v) w' ∨ ((execOp a.eval o).run P w = .ok .skip w' ∧ v = undef)

theorem app_pure (S : St) (v : AV) : S.app ⟨v, none, [], []⟩ = S := by
  cases S; simp [St.app, hset]

theorem optRel_eval (h : SRel P N g bx S a w) (o : Option Operand) : OptRel P g bx (o.map S.view.ρ) (o.map a.eval) := by
  cases o with
  | none => trivial
  | some x => exact evalA_ok h x

theorem pure_done (h : SRel P N g bx S a w) {v : AV} {o : Oper} {v' : Value} (hrun : (execOp a.eval o).run P w = .ok (.value v') w) (hv : VRelE P g bx v v') {E : Eff} (hE : pv v = some E) :
    ∃ v' w' g' bx', OpRun P o a w v' w' ∧ VRelE P g' bx' E.v v' ∧ SRel P N g' bx' (S.app E) a w' ∧ Ext g (Own g S.heap bx) w g' (Own g' (S.app E).heap bx') w' := by
  cases hE
  exact ⟨v', w, g, bx, .inl hrun, hv, by rw [app_pure]; exact h, by rw [app_pure]; exact Ext.refl _ _ _⟩

theorem binA_free {op : BinOp} {t : TypeId} {x y v : AV} (h : binA P op t x y = some v) : x.free = true ∧ y.free = true := by
  unfold binA at h
  split at h
  · exact ⟨rfl, rfl⟩
  · exact ⟨rfl, rfl⟩
  · have : ∀ r, eqlA P t x y = some r → x.free = true ∧ y.free = true := by
      intro r hr
      unfold eqlA at hr
      split at hr
      · exact ⟨rfl, rfl⟩
      · exact ⟨rfl, rfl⟩
      · unfold nilEqA at hr
        split at hr <;> first | exact ⟨rfl, rfl⟩ | cases hr
    cases op <;> simp only [Option.map_eq_some_iff] at h <;> first
      | (obtain ⟨r, hr, _⟩ := h; exact this r hr)
      | cases h

theorem unA_free {op : UnOp} {x v : AV} (h : unA op x = some v) : x.free = true := by
  unfold unA at h
  split at h <;> first | rfl | cases h
theorem convA_free {s d : TypeId} {x v : AV} (h : convA P s d x = some v) : x.free = true := by
  unfold convA at h
  split at h <;> first | rfl | cases h
theorem fieldA_free {t : TypeId} {f : Nat} {x v : AV} (h : fieldA P t f x = some v) : x.free = true := by
  unfold fieldA at h
  split at h <;> first | rfl | cases h
theorem extractA_free {i : Nat} {x v : AV} (h : extractA i x = some v) : x.free = true := by
  unfold extractA at h
  split at h <;> first | rfl | cases h
theorem indexA_free {t : TypeId} {x i v : AV} (h : indexA P t x i = some v) : x.free = true ∧ i.free = true := by
  unfold indexA at h
  split at h
  · split at h <;> first | exact ⟨rfl, rfl⟩ | cases h
  · cases h

theorem opFn_ok {C : Cfg} (hZ : ZOK P C.Z) (h : SRel P N g bx S a w) {o : Oper} {E : Eff} (ho : opFn P C o.dst o.op S.view = some E) :
    ∃ v' w' g' bx', OpRun P o a w v' w' ∧ VRelE P g' bx' E.v v' ∧ SRel P N g' bx' (S.app E) a w' ∧ Ext g (Own g S.heap bx) w g' (Own g' (S.app E).heap bx') w' := by
  have ev : ∀ x, VRelE P g bx (S.view.ρ x) (a.eval x) := evalA_ok h
  cases hop : o.op with
  | move x =>
    simp only [hop, opFn] at ho
    exact pure_done h (by unfold execOp; simp only [hop]; rfl) (ev x) ho
  | assign x =>
    simp only [hop, opFn] at ho
    exact pure_done h (by unfold execOp; simp only [hop]; rfl) (ev x) ho
  | pick c x y =>
    simp only [hop, opFn] at ho
    split at ho
    · rename_i b hb
      have hc := ev c
      rw [hb] at hc
      have hc' := VRel.bool_inv (P := P) (g := g) hc
      refine pure_done h (v' := if b then a.eval x else a.eval y) ?_ ?_ ho
      · unfold execOp; simp only [hop, hc', asBool]; simp
      · cases b
        · exact ev y
        · exact ev x
    · cases ho
  | makeMap t r =>
    cases r with
    | some x => simp [hop, opFn] at ho
    | none =>
      simp only [hop, opFn, Option.some.injEq] at ho
      subst ho
      let y : G := ⟨w.heap.size, 0, 0, 0, false, 0⟩
      have hb : BlkRel P (g ++ [y]) y (.map [] 0) (some (.map #[] 0)) := ⟨#[], rfl, rfl⟩
      have e1 : S.app ⟨.map (some S.view.hlen), none, [], [.map [] 0]⟩ = { S with heap := S.heap ++ [.map [] 0] } := by simp [St.app, hset]
      refine ⟨.map (some w.heap.size), { w with heap := w.heap.push (.map #[] 0) }, g ++ [y], bx, .inl ?_, VRelE.of_VRel ⟨?_, rfl⟩, ?_, ?_⟩
      · unfold execOp
        simp only [hop, Option.map_none, Instr.makeMap, Sem.run_bind, run_newObj, Sem.run_pure, Result.andThen_ok]
      · simp only [FRel, Value.cells]
        exact ⟨y, by simp [St.view, ← h.sim.len], rfl⟩
      · rw [e1]; exact h.push y _ _ rfl hb
      · rw [e1]; exact Ext.push h.sim y _ _ rfl
  | insert t m k x =>
    simp only [hop, opFn] at ho
    obtain ⟨w', g', bx', k1, k2, k3, k4⟩ := mapPutA_ok h ho (ev m) (ev k) (ev x)
    refine ⟨_, w', g', bx', .inr ⟨?_, rfl⟩, k2, k3, k4⟩
    unfold execOp
    simp only [hop, Sem.run_bind, k1, Result.andThen_ok, Sem.run_pure]
  | mapUpdate t m k x =>
    simp only [hop, opFn] at ho
    obtain ⟨w', g', bx', k1, k2, k3, k4⟩ := mapPutA_ok h ho (ev m) (ev k) (ev x)
    refine ⟨_, w', g', bx', .inr ⟨?_, rfl⟩, k2, k3, k4⟩
    unfold execOp
    simp only [hop, Sem.run_bind, k1, Result.andThen_ok, Sem.run_pure]
  | lookup t m k ok =>
    simp only [hop, opFn, Option.bind_eq_some_iff] at ho
    obtain ⟨v, hv, hE⟩ := ho
    obtain ⟨v', k1, k2⟩ := mapGetA_ok hZ h hv (ev m) (ev k)
    exact pure_done h (by unfold execOp; simp only [hop, Sem.run_bind, k1, Result.andThen_ok, Sem.run_pure]) (VRelE.of_VRel k2) hE
  | alloc t =>
    simp only [hop, opFn] at ho
    split at ho
    · rename_i z hz
      obtain ⟨hw, zv, hrun, hrel⟩ := hZ.run hz
      obtain ⟨g', bx', k1, k2, k3⟩ := allocA_ok h ho hw (hrel g)
      refine ⟨_, _, g', bx', .inl ?_, k1, k2, k3⟩
      unfold execOp
      simp only [hop, Instr.alloc, Sem.run_bind, hrun, Result.andThen_ok, newVar, newRow, run_newObj, Sem.run_pure]
    · cases ho
  | box t x =>
    simp only [hop, opFn] at ho
    split at ho
    · rename_i hw
      obtain ⟨g', bx', k1, k2, k3⟩ := allocA_ok h ho hw (VRelE.VRel (wt_free hw) (ev x))
      refine ⟨_, _, g', bx', .inl ?_, k1, k2, k3⟩
      unfold execOp
      simp only [hop, Instr.box, Sem.run_bind, Result.andThen_ok, newVar, newRow, run_newObj, Sem.run_pure]
    · cases ho
  | build t ps =>
    simp only [hop, opFn, Option.bind_eq_some_iff] at ho
    obtain ⟨v, hv, ho⟩ := ho
    obtain ⟨v', k1, k2⟩ := buildA_ok hZ h hv
    exact pure_done h (by unfold execOp; simp only [hop, Sem.run_bind, k1, Result.andThen_ok, Sem.run_pure]) (VRelE.of_VRel k2) ho
  | buildSlice t n ps =>
    rw [hop] at ho
    obtain ⟨v', w', g', bx', k1, k2, k3, k4⟩ := buildSlice_ok hZ h ho
    exact ⟨v', w', g', bx', .inl (by unfold execOp; simp only [hop, Sem.run_bind, k1, Result.andThen_ok, Sem.run_pure]), k2, k3, k4⟩
  | load t x =>
    simp only [hop, opFn, Option.bind_eq_some_iff] at ho
    obtain ⟨v, hv, ho⟩ := ho
    obtain ⟨v', k1, k2⟩ := loadA_ok h hv (ev x)
    exact pure_done h (by unfold execOp; simp only [hop, Sem.run_bind, k1, Result.andThen_ok, Sem.run_pure]) (VRelE.of_VRel k2) ho
  | store t x y =>
    simp only [hop, opFn] at ho
    obtain ⟨w', k1, k2, k3, k4⟩ := storeA_ok h ho (ev x) (ev y)
    refine ⟨undef, w', g, bx, .inr ⟨?_, rfl⟩, by rw [k2]; exact VRelE.of_VRel VRel.undef, k3, k4⟩
    unfold execOp
    simp only [hop, Sem.run_bind, k1, Result.andThen_ok, Sem.run_pure]
  | nilCheck x =>
    simp only [hop, opFn] at ho
    split at ho
    · rename_i q hq
      have hx := ev x
      rw [hq] at hx
      have hx' : VRel P g (.ptr (some q)) (a.eval x) := hx
      obtain ⟨n, p, t⟩ := q
      have := hx'.leaf rfl
      simp only [FRel] at this
      obtain ⟨y, v1, e1, e2, o', e3, e4, rfl⟩ := this
      have e2' : a.eval x = .pointer (some ⟨y.blk, y.base + o', none⟩) := by simpa using e2
      refine pure_done h (v' := a.eval x) ?_ hx ho
      unfold execOp
      simp only [hop, e2', Sem.run_pure]
    · rename_i k p t hq
      have hx := ev x
      rw [hq] at hx
      obtain ⟨y, e1, o', e3, e4, e2⟩ := id hx
      refine pure_done h (v' := a.eval x) ?_ hx ho
      unfold execOp
      simp only [hop, e2, Sem.run_pure]
    · cases ho
  | binOp op t x y u =>
    simp only [hop, opFn, Option.bind_eq_some_iff] at ho
    obtain ⟨v, hv, ho⟩ := ho
    obtain ⟨f1, f2⟩ := binA_free hv
    obtain ⟨v', k1, k2⟩ := binA_ok (w := w) hv (VRelE.VRel f1 (ev x)) (VRelE.VRel f2 (ev y)) x y
    exact pure_done h (by unfold execOp; simp only [hop]; rw [Sem.run_bind, k1]; rfl) (VRelE.of_VRel k2) ho
  | unOp op t x =>
    simp only [hop, opFn, Option.bind_eq_some_iff] at ho
    obtain ⟨v, hv, ho⟩ := ho
    obtain ⟨v', k1, k2⟩ := unA_ok (w := w) hv (VRelE.VRel (unA_free hv) (ev x))
    exact pure_done h (by unfold execOp; simp only [hop]; rw [Sem.run_bind, k1]; rfl) (VRelE.of_VRel k2) ho
  | convert s d x =>
    simp only [hop, opFn, Option.bind_eq_some_iff] at ho
    obtain ⟨v, hv, ho⟩ := ho
    obtain ⟨v', k1, k2⟩ := convA_ok (w := w) hv (VRelE.VRel (convA_free hv) (ev x))
    exact pure_done h (by unfold execOp; simp only [hop]; rw [Sem.run_bind, k1]; rfl) (VRelE.of_VRel k2) ho
  | fieldAddr s x f =>
    simp only [hop, opFn, Option.bind_eq_some_iff] at ho
    obtain ⟨v, hv, ho⟩ := ho
    obtain ⟨v', k1, k2⟩ := fieldAddrA_ok (w := w) hv (ev x)
    exact pure_done h (by unfold execOp; simp only [hop]; rw [Sem.run_bind, k1]; rfl) k2 ho
  | indexAddr t x i =>
    simp only [hop, opFn, Option.bind_eq_some_iff] at ho
    obtain ⟨v, hv, ho⟩ := ho
    obtain ⟨v', k1, k2⟩ := indexAddrA_ok (w := w) hv (ev x) (ev i)
    exact pure_done h (by unfold execOp; simp only [hop]; rw [Sem.run_bind, k1]; rfl) k2 ho
  | field t x f =>
    simp only [hop, opFn, Option.bind_eq_some_iff] at ho
    obtain ⟨v, hv, ho⟩ := ho
    obtain ⟨v', k1, k2⟩ := fieldA_ok (w := w) hv (VRelE.VRel (fieldA_free hv) (ev x))
    exact pure_done h (by unfold execOp; simp only [hop]; rw [Sem.run_bind, k1]; rfl) (VRelE.of_VRel k2) ho
  | index t x i =>
    simp only [hop, opFn, Option.bind_eq_some_iff] at ho
    obtain ⟨v, hv, ho⟩ := ho
    obtain ⟨f1, f2⟩ := indexA_free hv
    obtain ⟨v', k1, k2⟩ := indexA_ok (w := w) hv (VRelE.VRel f1 (ev x)) (VRelE.VRel f2 (ev i))
    exact pure_done h (by unfold execOp; simp only [hop]; rw [Sem.run_bind, k1]; rfl) (VRelE.of_VRel k2) ho
  | extract x i =>
    simp only [hop, opFn, Option.bind_eq_some_iff] at ho
    obtain ⟨v, hv, ho⟩ := ho
    obtain ⟨v', k1, k2⟩ := extractA_ok (w := w) hv (VRelE.VRel (extractA_free hv) (ev x))
    exact pure_done h (by unfold execOp; simp only [hop]; rw [Sem.run_bind, k1]; rfl) (VRelE.of_VRel k2) ho
  | slice t x lo hi mx =>
    simp only [hop, opFn, Option.bind_eq_some_iff] at ho
    obtain ⟨v, hv, ho⟩ := ho
    obtain ⟨⟨s, hu⟩, v', k1, k2⟩ := sliceA_ok (w := w) hv (ev x) (optRel_eval h lo) (optRel_eval h hi) (optRel_eval h mx)
    have k1' : (Instr.sliceAt t (a.eval x) (lo.map a.eval) (hi.map a.eval) (mx.map a.eval)).run P w = .ok v' w := by
      simp only [Instr.sliceAt, Sem.run_bind, run_underlying hu, Result.andThen_ok]
      exact k1
    exact pure_done h (by unfold execOp; simp only [hop]; rw [Sem.run_bind, k1']; rfl) (VRelE.of_VRel k2) ho
  | makeSlice t l c =>
    simp only [hop, opFn] at ho
    obtain ⟨v', w', g', bx', k1, k2, k3, k4⟩ := makeSliceA_ok hZ h ho (ev l) (ev c)
    exact ⟨v', w', g', bx', .inl (by unfold execOp; simp only [hop, Sem.run_bind, k1, Result.andThen_ok, Sem.run_pure]), k2, k3, k4⟩
  | makeFunc f x y =>
    simp only [hop, opFn] at ho
    obtain ⟨v', k0, k1, k2⟩ := makeFuncA_ok (w := w) h ho
    exact pure_done h (by unfold execOp; simp only [hop, Sem.run_bind, k1, Result.andThen_ok, Sem.run_pure]) k2 k0
  | mapEntry t m k =>
    simp only [hop, opFn] at ho
    obtain ⟨v', w', g', bx', k1, k2, k3, k4⟩ := mapEntryA_ok hZ h ho (ev m) (ev k)
    exact ⟨v', w', g', bx', .inl (by unfold execOp; simp only [hop, Sem.run_bind, k1, Result.andThen_ok, Sem.run_pure]), k2, k3, k4⟩
  | entryStore t m st x =>
    simp only [hop, opFn] at ho
    obtain ⟨w', g', bx', k1, k2, k3, k4⟩ := entryStoreA_ok h ho (ev m) (ev st) (ev x) t
    refine ⟨_, w', g', bx', .inr ⟨?_, rfl⟩, k2, k3, k4⟩
    unfold execOp
    simp only [hop, Sem.run_bind, k1, Result.andThen_ok, Sem.run_pure]
  | call c =>
    obtain ⟨cal, args, ts⟩ := c
    cases cal with
    | builtin b =>
      simp only [hop, opFn] at ho
      have hres' : ∀ (K : Sem Value) (v' : Value) (w' : World), (∀ c1 : Array Bool, builtin b ts o.type c1 (args.map a.eval) = (do pure (.value (← K)))) → K.run P w = .ok v' w' → (execOp a.eval o).run P w = .ok (.value v') w' := by
        intro K v' w' hK hr
        unfold execOp
        simp only [hop, resolve, Sem.run_bind, Sem.run_pure, Result.andThen_ok, invoke, hK, hr]
      have hres : ∀ (K : Sem Value) (v' : Value), (∀ c1 : Array Bool, builtin b ts o.type c1 (args.map a.eval) = (do pure (.value (← K)))) → K.run P w = .ok v' w → (execOp a.eval o).run P w = .ok (.value v') w := fun K v' => hres' K v' w
      unfold builtinE at ho
      split at ho
      · rename_i t tx s x hts has
        have hta : ts = #[t, tx] := by rw [← Array.toArray_toList (xs := ts), hts]
        subst hta
        obtain ⟨args, rfl⟩ : ∃ l : List Operand, args = l.toArray := ⟨args.toList, by simp⟩
        match args, has with
        | [p, q], has =>
          simp only [List.map_cons, List.map_nil, List.cons.injEq, and_true] at has
          obtain ⟨h1, h2⟩ := has
          obtain ⟨v', w', g', bx', k1, k2, k3, k4⟩ := appendA_ok hZ h ho (h1 ▸ ev p) (h2 ▸ ev q) o.type
          exact ⟨v', w', g', bx', .inl (hres' (Builtin.append_ #[t, tx] o.type _) v' w' (fun _ => rfl) (by simpa using k1)), k2, k3, k4⟩
        | [], has => simp at has
        | [_], has => simp at has
        | _ :: _ :: _ :: _, has => simp at has
      · rename_i t x hts has
        have hta : ts = #[t] := by rw [← Array.toArray_toList (xs := ts), hts]
        subst hta
        obtain ⟨args, rfl⟩ : ∃ l : List Operand, args = l.toArray := ⟨args.toList, by simp⟩
        match args, has with
        | [p], has =>
          simp only [List.map_cons, List.map_nil, List.cons.injEq, and_true] at has
          obtain ⟨v', w', g', bx', k1, k2, k3, k4⟩ := clearA_ok hZ h ho (has ▸ ev p) o.type
          exact ⟨v', w', g', bx', .inl (hres' (Builtin.clear_ #[t] o.type _) v' w' (fun _ => rfl) (by simpa using k1)), k2, k3, k4⟩
        | [], has => simp at has
        | _ :: _ :: _, has => simp at has
      rename_i hnb1 hnb2
      simp only [Option.bind_eq_some_iff] at ho
      obtain ⟨v, hv, ho⟩ := ho
      unfold builtinA at hv
      split at hv
      · rename_i t tr x xr hts has
        cases hal : args.toList with
        | nil => simp [hal] at has
        | cons y yr =>
          simp only [hal, List.map_cons, List.cons.injEq] at has
          obtain ⟨v', k1, k2⟩ := lenA_ok (w := w) hv (has.1 ▸ ev y) ts (by rw [hts]; rfl) (args.map a.eval) (by simp [hal]) o.type
          exact pure_done h (hres _ _ (fun _ => rfl) k1) (VRelE.of_VRel k2) ho
      · rename_i x y has
        cases hal : args.toList with
        | nil => simp [hal] at has
        | cons p pr =>
          cases pr with
          | nil => simp [hal] at has
          | cons q qr =>
            simp only [hal, List.map_cons, List.cons.injEq, List.map_eq_nil_iff] at has
            obtain ⟨h1, h2, rfl⟩ := has
            obtain ⟨v', k1, k2⟩ := max2A_ok (w := w) hv (h1 ▸ ev p) (h2 ▸ ev q)
            refine pure_done h (hres (Builtin.max_ ts o.type (args.map a.eval)) v' (fun _ => rfl) ?_) (VRelE.of_VRel k2) ho
            simp [Builtin.max_, hal, k1]
      · rename_i x y has
        cases hal : args.toList with
        | nil => simp [hal] at has
        | cons p pr =>
          cases pr with
          | nil => simp [hal] at has
          | cons q qr =>
            simp only [hal, List.map_cons, List.cons.injEq, List.map_eq_nil_iff] at has
            obtain ⟨h1, h2, rfl⟩ := has
            obtain ⟨v', k1, k2⟩ := min2A_ok (w := w) hv (h1 ▸ ev p) (h2 ▸ ev q)
            refine pure_done h (hres (Builtin.min_ ts o.type (args.map a.eval)) v' (fun _ => rfl) ?_) (VRelE.of_VRel k2) ho
            simp [Builtin.min_, hal, k1]
      · cases hv
    | value f => simp [hop, opFn] at ho
    | invoke r m => simp [hop, opFn] at ho
  | _ => simp [hop, opFn] at ho

end
end Go.Av
