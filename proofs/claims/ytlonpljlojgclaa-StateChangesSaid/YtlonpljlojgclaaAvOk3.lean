import Derived.Test.YtlonpljlojgclaaAvOk2
set_option linter.unusedSimpArgs false
set_option linter.unusedVariables false
namespace Go.Av
open Go

section
variable {P : Program} {N : Nat} {g : List G} {bx : Nat → Option G} {S : St} {a : Act} {w : World}

theorem wt_free {v : AV} {t : TypeId} (h : wt P v t = true) : v.free = true := by
  cases v <;> first
    | rfl
    | (simp [wt, leafT] at h
       obtain ⟨_, h⟩ := h
       split at h <;> simp [leafOK] at h)

/-- The zero values' table is right. -/
def ZOK (P : Program) (Z : TypeId → Option AV) : Prop :=
  ∀ t z, Z t = some z → wt P z t = true ∧ ∃ i zv, P.info? t = some i ∧ i.zero = some zv ∧ ∀ g, VRel P g z zv

theorem ZOK.run {Z : TypeId → Option AV} (hZ : ZOK P Z) {t : TypeId} {z : AV} (h : Z t = some z) :
    wt P z t = true ∧ ∃ zv, (∀ w, (zeroValue t).run P w = .ok zv w) ∧ ∀ g, VRel P g z zv := by
  obtain ⟨h1, i, zv, h2, h3, h4⟩ := hZ t z h
  exact ⟨h1, zv, fun w => by simp [zeroValue, typeInfo, h2, h3], h4⟩

theorem VRel.cells {v : AV} {v' : Value} (h : VRel P g v v') : FRel P g v v'.cells.toList := h.1

theorem add_none (r o i : Nat) : (⟨r, o, none⟩ : Addr).add i = ⟨r, o + i, none⟩ := by unfold Addr.add; split <;> simp_all

theorem run_load_var {x : AV} {t : TypeId} (hx : wt P x t = true) {r : Nat} {c : Array Value} {el : TypeId} {fr : Nat × Nat} (hr : w.heap[r]? = some (.cells c el fr))
    {p0 p1 p2 : List Value} (hc : c.toList = p0 ++ p1 ++ p2) (h : FRel P g x p1) :
    ∃ v, (loadVar t ⟨r, p0.length, none⟩).run P w = .ok v w ∧ VRel P g x v := by
  obtain ⟨d, hu, hd⟩ := isAg_of_wt hx
  have hlen := wt_len (g := g) x t p1 hx h
  have hagg : (isAgg t).run P w = .ok x.isAg w := by
    unfold isAgg
    rw [Sem.run_bind, run_underlying hu w, hd]
    cases d <;> simp [isAggD]
  have hcell : ∀ (j : Nat) v, p1[j]? = some v → w.cell? ((⟨r, p0.length, none⟩ : Addr).add j) = some v := by
    intro j v hj
    rw [add_none]
    have hjl : j < p1.length := by
      rcases Nat.lt_or_ge j p1.length with h' | h'
      · exact h'
      · simp [List.getElem?_eq_none h'] at hj
    have : c[p0.length + j]? = some v := by
      rw [← Array.getElem?_toList, hc, List.append_assoc, List.getElem?_append_right (by omega), List.getElem?_append_left (by omega)]
      simpa using hj
    simp [World.cell?, hr, this]
  cases hag : x.isAg with
  | true =>
    refine ⟨.agg p1.toArray, ?_, VRel.of_cells hag h⟩
    have hl := run_loadCells_list (P := P) w ⟨r, p0.length, none⟩ p1 hcell
    rw [hlen] at hl
    simp [loadVar, hagg, hag, run_sizeOf_cells hu, hl]
  | false =>
    obtain ⟨v, rfl, hv⟩ := FRel_leaf_one hag h
    refine ⟨v, ?_, VRel.of_cell hag h⟩
    have := hcell 0 v rfl
    rw [add_none] at this
    simp only [Nat.add_zero] at this
    simp [loadVar, hagg, hag, this]

theorem run_store_var {y : AV} {t : TypeId} (hy : wt P y t = true) {vy : Value} (hv : VRel P g y vy) {r : Nat} {c : Array Value} {el : TypeId} (hr : w.heap[r]? = some (.cells c el (0, 0)))
    {p0 p1 p2 : List Value} (hc : c.toList = p0 ++ p1 ++ p2) (hp : p1.length = P.cellsOf t) :
    (storeVar t ⟨r, p0.length, none⟩ vy).run P w = .ok () (w.setRow r (p0 ++ vy.cells.toList ++ p2).toArray) := by
  obtain ⟨d, hu, hd⟩ := isAg_of_wt hy
  have hlen := wt_len (g := g) y t vy.cells.toList hy hv.cells
  have hone := wt_one (g := g) y t vy.cells.toList hy hv.cells
  have hcs : c.size = p0.length + p1.length + p2.length := by rw [← Array.length_toList, hc]; simp [Nat.add_assoc]
  have hst := run_storeCells_at P r p0.length el vy.cells.toList 0 c w hr (by rw [hlen]; omega) hone
  have e1 : c.toList.take (p0.length + 0) = p0 := by rw [hc]; simp
  have e2 : c.toList.drop (p0.length + 0 + vy.cells.toList.length) = p2 := by
    rw [hc, hlen, ← hp]
    rw [show p0.length + 0 + p1.length = (p0 ++ p1).length from by simp]
    exact List.drop_left
  rw [e1, e2] at hst
  have hsz : vy.cells.size = P.cellsOf t := by rw [← hlen]; simp
  simp [storeVar, run_sizeOf_cells hu, hsz, hst]

/-- A block's cells, around what lies at a path. -/
theorem block_path {x : G} {u : TypeId} {l : List AV} {s : Bool} {p : List Nat} {t : TypeId} {v' : Value} (hb : BlkRel P g x (.cells u l s) w.heap[x.blk]?) (hp : PtrOk P x p t v') :
    ∃ c el y p0 p1 p2, w.heap[x.blk]? = some (.cells c el (0, 0)) ∧ v' = .pointer (some ⟨x.blk, p0.length, none⟩) ∧ c.toList = p0 ++ p1 ++ p2 ∧ getP (.ag l) p = some y ∧
      wt P y t = true ∧ FRel P g y p1 ∧
      (∀ z vz, wt P z t = true → VRel P g z vz → ∃ l', setP (.ag l) p z = some (.ag l') ∧
        ∀ w' : World, w'.heap[x.blk]? = some (.cells (p0 ++ vz.cells.toList ++ p2).toArray el (0, 0)) → BlkRel P g x (.cells u l' s) w'.heap[x.blk]?) := by
  obtain ⟨o, ho, hh, rfl⟩ := hp
  obtain ⟨h1, h2, h3, h4, c, el, h5, h6, d0, d1, d2, h7, h8, h9⟩ := hb
  subst h1
  obtain ⟨y, c0, c1, c2, q1, q2, q3, q4, q5, q6⟩ := row_ok (g := g) p l x.ty o t d1 h4 ho (by rw [← h2]; exact hh) h9
  refine ⟨c, el, y, d0 ++ c0, c1, c2 ++ d2, h5, ?_, ?_, q1, q4, q5, fun z vz hz hvz => ?_⟩
  · simp [h8, q3]
  · rw [h7, q2]; simp
  · obtain ⟨l', e1, e2, e3, e4⟩ := q6 z hz
    refine ⟨l', e1, fun w' hw' => ⟨rfl, by rw [h2, e2], h3, e3, _, el, hw', ?_, d0, c0 ++ vz.cells.toList ++ c2, d2, ?_, h8, e4 _ hvz.cells⟩⟩
    · have l1 := wt_len (g := g) y t c1 q4 q5
      have l2 := wt_len (g := g) z t _ hz hvz.cells
      have : c.toList.length = c.size := by simp
      rw [← h6, ← this, h7, q2]
      simp only [List.size_toArray, List.length_append]
      omega
    · simp

/-- A row that is read. -/
def RowRel (P : Program) (g : List G) (x : G) (l : List AV) (o : Option Obj) : Prop :=
  x.len = l.length ∧ wtA P l x.ty = true ∧ ∃ c el fr, o = some (.cells c el fr) ∧ ∃ c0 c1 c2, c.toList = c0 ++ c1 ++ c2 ∧ c0.length = x.base ∧ FRelL P g l c1

theorem BlkRel.row {x : G} {b : Blk} {o : Option Obj} {l : List AV} (h : BlkRel P g x b o) (hl : b.row? = some l) : RowRel P g x l o := by
  cases b with
  | cells t l' s =>
    simp only [Blk.row?, Option.some.injEq] at hl; subst hl
    obtain ⟨h1, h2, h3, h4, c, el, h5, h6, h7⟩ := h
    subst h1
    exact ⟨h2, h4, c, el, _, h5, h7⟩
  | ro t l' =>
    simp only [Blk.row?, Option.some.injEq] at hl; subst hl
    obtain ⟨h1, h2, h3, h4, c, el, fr, h5, h6, h7⟩ := h
    subst h1
    exact ⟨h2, h4, c, el, _, h5, h7⟩
  | map es c => simp [Blk.row?] at hl
  | dead => simp [Blk.row?] at hl

theorem getP_wt {x : G} {l : List AV} {p : List Nat} {t : TypeId} {v' : Value} (hb : RowRel P g x l w.heap[x.blk]?) (hp : PtrOk P x p t v') {y : AV}
    (hy : getP (.ag l) p = some y) : ∃ v, (Instr.loadAt t v').run P w = .ok v w ∧ VRel P g y v := by
  obtain ⟨o, ho, hh, rfl⟩ := hp
  obtain ⟨h2, h4, c, el, fr, h5, d0, d1, d2, h7, h8, h9⟩ := hb
  obtain ⟨y', c0, c1, c2, q1, q2, q3, q4, q5, _⟩ := row_ok (g := g) p l x.ty o t d1 h4 ho (by rw [← h2]; exact hh) h9
  rw [hy] at q1; cases q1
  obtain ⟨v, k1, k2⟩ := run_load_var (w := w) q4 h5 (p0 := d0 ++ c0) (p1 := c1) (p2 := c2 ++ d2) (by rw [h7, q2]; simp) q5
  refine ⟨v, ?_, k2⟩
  have e : (d0 ++ c0).length = x.base + o := by simp [h8, q3]
  rw [e] at k1
  simpa [Instr.loadAt, Instr.sureAddr] using k1

theorem loadA_ok (h : SRel P N g bx S a w) {t : TypeId} {x v : AV} (hl : loadA S.view t x = some v) {vx : Value} (hx : VRelE P g bx x vx) :
    ∃ v', (Instr.loadAt t vx).run P w = .ok v' w ∧ VRel P g v v' := by
  unfold loadA at hl
  split at hl
  · rename_i n p T
    split at hl
    · rename_i hT
      subst hT
      simp only [St.view] at hl
      split at hl
      · rename_i l hb
        simp only [Option.bind_eq_some_iff] at hb
        obtain ⟨b, hb, hrow⟩ := hb
        have hx' : VRel P g (.ptr (some (n, p, T))) vx := hx
        have := hx'.leaf rfl
        simp only [FRel] at this
        obtain ⟨y, v1, e1, e2, e3⟩ := this
        obtain rfl : vx = v1 := by simpa using e2
        exact getP_wt ((h.sim.blk n y _ e1 hb).row hrow) e3 hl
      · cases hl
    · cases hl
  · rename_i k p T
    split at hl
    · rename_i hT
      subst hT
      simp only [St.view] at hl
      split at hl
      · rename_i u l hb
        obtain ⟨y, e1, e3⟩ := hx
        obtain ⟨y', e1', e4⟩ := h.box2 k _ hb
        rw [e1] at e1'; cases e1'
        exact getP_wt (e4.row rfl) e3 hl
      · cases hl
    · cases hl
  · cases hl

theorem storeA_ok (h : SRel P N g bx S a w) {t : TypeId} {x y : AV} {E : Eff} (hs : storeA P S.view t y x = some E) {vx vy : Value} (hx : VRelE P g bx x vx) (hy : VRelE P g bx y vy) :
    ∃ w', (Instr.storeAt t vx vy).run P w = .ok () w' ∧ E.v = .tup [] ∧ SRel P N g bx (S.app E) a w' ∧ Ext g (Own g S.heap bx) w g (Own g (S.app E).heap bx) w' := by
  unfold storeA at hs
  split at hs
  · rename_i n p T
    split at hs
    · rename_i hT
      obtain ⟨rfl, hw⟩ := hT
      have hy' := VRelE.VRel (wt_free hw) hy
      simp only [St.view] at hs
      split at hs
      · rename_i u l s hb
        have hx' : VRel P g (.ptr (some (n, p, T))) vx := hx
        have := hx'.leaf rfl
        simp only [FRel] at this
        obtain ⟨q, v1, e1, e2, e3⟩ := this
        obtain rfl : vx = v1 := by simpa using e2
        obtain ⟨c, el, y', p0, p1, p2, h1, h2, h3, h4, h5, h6, h7⟩ := block_path (h.sim.blk n q _ e1 hb) e3
        obtain ⟨l', k1, k2⟩ := h7 y vy hw hy'
        rw [k1] at hs
        simp only [Option.some.injEq] at hs
        subst hs
        have hst := run_store_var (w := w) hw hy' h1 h3 (wt_len (g := g) y' T p1 h5 h6)
        subst h2
        have hrow := setRow_heap w q.blk c (p0 ++ vy.cells.toList ++ p2).toArray el _ h1
        have hon := only_setRow w q.blk (p0 ++ vy.cells.toList ++ p2).toArray
        refine ⟨_, by simpa [Instr.storeAt, Instr.sureAddr] using hst, rfl, ?_, ?_⟩
        · simpa [St.app, hset] using h.setHeap (b' := .cells u l' s) e1 hb rfl (.inl rfl) hon (k2 _ hrow)
        · simpa [St.app, hset] using Ext.setHeap (b' := .cells u l' s) (bx := bx) e1 hb rfl hon
      · cases hs
    · cases hs
  · rename_i k p T
    split at hs
    · rename_i hT
      obtain ⟨rfl, hw⟩ := hT
      have hy' := VRelE.VRel (wt_free hw) hy
      simp only [St.view] at hs
      split at hs
      · rename_i u l hb
        obtain ⟨q, e1, e3⟩ := hx
        obtain ⟨q', e1', e4⟩ := h.box2 k _ hb
        rw [e1] at e1'; cases e1'
        obtain ⟨c, el, y', p0, p1, p2, h1, h2, h3, h4, h5, h6, h7⟩ := block_path e4 e3
        obtain ⟨l', k1, k2⟩ := h7 y vy hw hy'
        rw [k1] at hs
        simp only [Option.some.injEq] at hs
        subst hs
        have hst := run_store_var (w := w) hw hy' h1 h3 (wt_len (g := g) y' T p1 h5 h6)
        subst h2
        have hrow := setRow_heap w q.blk c (p0 ++ vy.cells.toList ++ p2).toArray el _ h1
        have hon := only_setRow w q.blk (p0 ++ vy.cells.toList ++ p2).toArray
        refine ⟨_, by simpa [Instr.storeAt, Instr.sureAddr] using hst, rfl, ?_, ?_⟩
        · simpa [St.app, hset] using h.setBox (u, l') e1 hon (k2 _ hrow)
        · simpa [St.app, hset] using Ext.setBox (H := S.heap) e1 hon
      · cases hs
    · cases hs
  · cases hs

/-- A fresh row of cells. -/
theorem newRow_ok {C : Cfg} (h : SRel P N g bx S a w) {e : TypeId} {l : List AV} {cs : Array Value} (hw : wtA P l e = true) (hr : FRelL P g l cs.toList) (d : Tmp) (v : Bool)
    (hb : C.L.contains d = true → bget S.box d = none) :
    ∃ g' bx', SRel P N g' bx' (S.app (if C.L.contains d then ⟨.junk, some (d, (e, l)), [], []⟩ else ⟨.junk, none, [], [.cells e l false]⟩)) a { w with heap := w.heap.push (.cells cs e (0, 0)) } ∧
      Ext g (Own g S.heap bx) w g' (Own g' (S.app (if C.L.contains d then ⟨.junk, some (d, (e, l)), [], []⟩ else ⟨.junk, none, [], [.cells e l false]⟩)).heap bx')
        { w with heap := w.heap.push (.cells cs e (0, 0)) } ∧
      (if C.L.contains d then bx' d = some ⟨w.heap.size, 0, e, l.length, false, cs.size⟩ else g'[S.heap.length]? = some ⟨w.heap.size, 0, e, l.length, false, cs.size⟩) := by
  by_cases hd : C.L.contains d = true
  · simp only [hd, if_true]
    refine ⟨g, fun j => if j = d then some ⟨w.heap.size, 0, e, l.length, false, cs.size⟩ else bx j, ?_, ?_, by simp⟩
    · have := h.newBox d (e, l) (hb hd) ⟨w.heap.size, 0, e, l.length, false, cs.size⟩ (.cells cs e (0, 0)) rfl ⟨rfl, rfl, rfl, hw, cs, e, rfl, rfl, [], cs.toList, [], by simp, rfl, hr⟩
      simpa [St.app, hset] using this
    · simpa [St.app, hset] using Ext.newBox (g := g) (bx := bx) (w := w) d ⟨w.heap.size, 0, e, l.length, false, cs.size⟩ (.cells cs e (0, 0)) rfl S.heap
  · simp only [hd, if_false, Bool.false_eq_true]
    refine ⟨g ++ [⟨w.heap.size, 0, e, l.length, false, cs.size⟩], bx, ?_, ?_, by rw [← h.sim.len]; simp⟩
    · have := h.push ⟨w.heap.size, 0, e, l.length, false, cs.size⟩ (.cells e l false) (.cells cs e (0, 0)) rfl
        ⟨rfl, rfl, rfl, hw, cs, e, rfl, rfl, [], cs.toList, [], by simp, rfl, FRelL.mono (GLe.append g _) _ _ hr⟩
      simpa [St.app, hset] using this
    · have := Ext.push (S := S) (bx := bx) h.sim ⟨w.heap.size, 0, e, l.length, false, cs.size⟩ (.cells e l false) (.cells cs e (0, 0)) rfl
      simpa [St.app, hset] using this

theorem allocA_ok {C : Cfg} (h : SRel P N g bx S a w) {t : TypeId} {z : AV} {dst : Option Tmp} {E : Eff} (hE : allocA C S.view dst t z = some E) (hw : wt P z t = true) {vz : Value} (hv : VRel P g z vz) :
    ∃ g' bx', VRelE P g' bx' E.v (.pointer (some ⟨w.heap.size, 0, none⟩)) ∧ SRel P N g' bx' (S.app E) a { w with heap := w.heap.push (.cells vz.cells t (0, 0)) } ∧
      Ext g (Own g S.heap bx) w g' (Own g' (S.app E).heap bx') { w with heap := w.heap.push (.cells vz.cells t (0, 0)) } := by
  unfold allocA at hE
  cases dst with
  | none => cases hE
  | some d =>
    simp only [St.view] at hE
    have hwa : wtA P [z] t = true := by simp [wtA, hw]
    have hra : FRelL P g [z] vz.cells.toList := by simp only [FRelL]; exact ⟨vz.cells.toList, [], by simp, hv.cells, rfl⟩
    have hoff : offR P t [0] = some (0, t) := by simp [offR, offT]
    have hbn : C.L.contains d = true → bget S.box d = none := by
      intro hd
      simp only [hd, if_true] at hE
      cases hb : bget S.box d with
      | none => rfl
      | some c => simp [hb] at hE
    obtain ⟨g', bx', k1, k2, k3⟩ := newRow_ok (C := C) h hwa hra d true hbn
    refine ⟨g', bx', ?_⟩
    by_cases hd : C.L.contains d = true
    · simp only [hd, if_true, hbn hd] at hE k1 k2 k3
      cases hE
      exact ⟨⟨_, k3, 0, hoff, by simp, by simp⟩, by simpa [St.app] using k1, by simpa [St.app] using k2⟩
    · simp only [hd, if_false, Bool.false_eq_true] at hE k1 k2 k3
      cases hE
      refine ⟨?_, by simpa [St.app] using k1, by simpa [St.app] using k2⟩
      refine VRelE.of_VRel (VRel.of_cell rfl ?_)
      simp only [FRel]
      exact ⟨_, _, k3, rfl, 0, hoff, by simp, by simp⟩

theorem rowA_ok {C : Cfg} (h : SRel P N g bx S a w) {e : TypeId} {l : List AV} {dst : Option Tmp} {E : Eff} (hE : rowA C S.view dst e l = some E) (hw : wtA P l e = true) {cs : Array Value} (hv : FRelL P g l cs.toList) :
    ∃ g' bx', VRelE P g' bx' E.v (.slice (some ⟨w.heap.size, 0, none⟩) l.length l.length) ∧ SRel P N g' bx' (S.app E) a { w with heap := w.heap.push (.cells cs e (0, 0)) } ∧
      Ext g (Own g S.heap bx) w g' (Own g' (S.app E).heap bx') { w with heap := w.heap.push (.cells cs e (0, 0)) } := by
  unfold rowA at hE
  cases dst with
  | none => cases hE
  | some d =>
    simp only [St.view] at hE
    have hbn : C.L.contains d = true → bget S.box d = none := by
      intro hd
      simp only [hd, if_true] at hE
      cases hb : bget S.box d with
      | none => rfl
      | some c => simp [hb] at hE
    have hlen := wtA_len (g := g) l e cs.toList hw hv
    have hsz : cs.size = l.length * P.cellsOf e := by rw [← hlen]; simp
    obtain ⟨g', bx', k1, k2, k3⟩ := newRow_ok (C := C) h hw hv d true hbn
    have hsl : SlOk P ⟨w.heap.size, 0, e, l.length, false, cs.size⟩ [] 0 e l.length l.length (.slice (some ⟨w.heap.size, 0, none⟩) l.length l.length) :=
      ⟨⟨w.heap.size, 0, none⟩, l.length, rfl, Nat.le_refl _, Nat.le_refl _, rfl, by simp, .inl rfl, .inr ⟨by simp, by simp [hsz]⟩⟩
    refine ⟨g', bx', ?_⟩
    by_cases hd : C.L.contains d = true
    · simp only [hd, if_true, hbn hd] at hE k1 k2 k3
      cases hE
      exact ⟨⟨_, k3, hsl⟩, by simpa [St.app] using k1, by simpa [St.app] using k2⟩
    · simp only [hd, if_false, Bool.false_eq_true] at hE k1 k2 k3
      cases hE
      refine ⟨?_, by simpa [St.app] using k1, by simpa [St.app] using k2⟩
      refine VRelE.of_VRel (VRel.of_cell rfl ?_)
      simp only [FRel]
      exact ⟨_, _, k3, rfl, hsl⟩

end
end Go.Av
