import Derived.Test.YtlonpljlojgclaaAvSim
set_option linter.unusedSimpArgs false
set_option linter.unusedVariables false
namespace Go.Av
open Go

/-! ## What becomes of the relation where memory changes -/

theorem getElem?_append_one {α : Type} (l : List α) (x y : α) (n : Nat) (h : (l ++ [x])[n]? = some y) : (n < l.length ∧ l[n]? = some y) ∨ (n = l.length ∧ x = y) := by
  rcases Nat.lt_trichotomy n l.length with h' | h' | h'
  · left; rw [List.getElem?_append_left h'] at h; exact ⟨h', h⟩
  · right; subst h'; simp at h; exact ⟨rfl, h⟩
  · exfalso
    have : (l ++ [x])[n]? = none := by simp; omega
    rw [this] at h; cases h

theorem heap_push_old (w : World) (o : Obj) {r : Nat} (h : r < w.heap.size) : (w.heap.push o)[r]? = w.heap[r]? := by
  rw [Array.getElem?_push, if_neg (Nat.ne_of_lt h)]

section
variable {P : Program} {N : Nat} {g g' : List G} {bx : Nat → Option G} {S : St} {a : Act} {w w' : World}

theorem Sim.lt (h : Sim P g S.heap w) {n : Nat} {x : G} {b : Blk} (h1 : g[n]? = some x) (h2 : S.heap[n]? = some b) (hb : b.live = true) : x.blk < w.heap.size :=
  BlkRel.lt hb (h.blk n x b h1 h2)

/-- A new block of the heap. -/
theorem Sim.push {H : Heap} (h : Sim P g H w) (x : G) (b : Blk) (o : Obj) (hx : x.blk = w.heap.size) (hb : BlkRel P (g ++ [x]) x b (some o)) :
    Sim P (g ++ [x]) (H ++ [b]) { w with heap := w.heap.push o } := by
  have hlt : ∀ (n : Nat) (y : G) (c : Blk), g[n]? = some y → H[n]? = some c → c.live = true → y.blk < w.heap.size := fun n y c h1 h2 h3 => BlkRel.lt h3 (h.blk n y c h1 h2)
  refine ⟨by simp [h.len], fun n y c h1 h2 => ?_, fun n m y z c d h1 h2 h3 h4 h5 h6 h7 => ?_⟩
  · rcases getElem?_append_one _ _ _ _ h1 with ⟨l1, e1⟩ | ⟨l1, e1⟩
    · rcases getElem?_append_one _ _ _ _ h2 with ⟨l2, e2⟩ | ⟨l2, e2⟩
      · have := (h.blk n y c e1 e2).mono (GLe.append g [x])
        cases hc : c.live with
        | false => cases c <;> simp [Blk.live] at hc; trivial
        | true => rw [heap_push_old w o (hlt n y c e1 e2 hc)]; exact this
      · rw [h.len] at l1; omega
    · rcases getElem?_append_one _ _ _ _ h2 with ⟨l2, e2⟩ | ⟨l2, e2⟩
      · rw [h.len] at l1; omega
      · subst e1; subst e2
        rw [hx]; simpa using hb
  · rcases getElem?_append_one _ _ _ _ h1 with ⟨l1, e1⟩ | ⟨l1, e1⟩ <;> rcases getElem?_append_one _ _ _ _ h2 with ⟨l2, e2⟩ | ⟨l2, e2⟩
    · rcases getElem?_append_one _ _ _ _ h3 with ⟨l3, e3⟩ | ⟨l3, e3⟩
      · rcases getElem?_append_one _ _ _ _ h4 with ⟨l4, e4⟩ | ⟨l4, e4⟩
        · exact h.inj n m y z c d e1 e2 e3 e4 h5 h6 h7
        · rw [h.len] at l2; omega
      · rw [h.len] at l1; omega
    · rcases getElem?_append_one _ _ _ _ h3 with ⟨l3, e3⟩ | ⟨l3, e3⟩
      · have := hlt n y c e1 e3 (Blk.live_of_own h5)
        subst e2; omega
      · rw [h.len] at l1; omega
    · rcases getElem?_append_one _ _ _ _ h4 with ⟨l4, e4⟩ | ⟨l4, e4⟩
      · have := hlt m z d e2 e4 h6
        subst e1; omega
      · rw [h.len] at l2; omega
    · omega

theorem SRel.push (h : SRel P N g bx S a w) (x : G) (b : Blk) (o : Obj) (hx : x.blk = w.heap.size) (hb : BlkRel P (g ++ [x]) x b (some o)) :
    SRel P N (g ++ [x]) bx { S with heap := S.heap ++ [b] } a { w with heap := w.heap.push o } := by
  refine ⟨h.size, fun t => (h.env t).mono (GLe.append g [x]), h.box1, fun k c hc => ?_, h.sim.push x b o hx hb, h.dis, fun k y n z c h1 h2 h3 h4 he => ?_⟩
  · obtain ⟨y, hy, hr⟩ := h.box2 k c hc
    exact ⟨y, hy, by show BlkRel P (g ++ [x]) y _ (w.heap.push o)[y.blk]?; rw [heap_push_old w o (h.box_lt hy)]; exact hr.mono (GLe.append g [x])⟩
  · rcases getElem?_append_one _ _ _ _ h2 with ⟨l1, e1⟩ | ⟨l1, e1⟩
    · rcases getElem?_append_one _ _ _ _ h3 with ⟨l2, e2⟩ | ⟨l2, e2⟩
      · exact h.apart k y n z c h1 e1 e2 h4 he
      · rw [h.sim.len] at l1; omega
    · have := h.box_lt h1
      subst e1; omega

theorem Ext.push (h : Sim P g S.heap w) (x : G) (b : Blk) (o : Obj) (hx : x.blk = w.heap.size) :
    Ext g (Own g S.heap bx) w (g ++ [x]) (Own (g ++ [x]) (S.heap ++ [b]) bx) { w with heap := w.heap.push o } := by
  refine ⟨GLe.append g [x], by simp, fun q r hr hlt => ?_, fun r hlt _ => heap_push_old w o hlt, rfl, rfl, rfl⟩
  rcases hr with ⟨n, y, c, h1, h2, h3, h4⟩ | hr
  · rcases getElem?_append_one _ _ _ _ h1 with ⟨l1, e1⟩ | ⟨l1, e1⟩
    · rcases getElem?_append_one _ _ _ _ h2 with ⟨l2, e2⟩ | ⟨l2, e2⟩
      · exact .inl ⟨n, y, c, e1, e2, h3, h4⟩
      · rw [h.len] at l1; omega
    · subst e1; omega
  · exact .inr hr

/-- A new box of the frame. -/
theorem SRel.newBox (h : SRel P N g bx S a w) (k : Nat) (c : BoxC) (hk : bget S.box k = none) (x : G) (o : Obj) (hx : x.blk = w.heap.size) (hb : BlkRel P g x (.cells c.1 c.2 false) (some o)) :
    SRel P N g (fun j => if j = k then some x else bx j) { S with box := (k, c) :: S.box } a { w with heap := w.heap.push o } := by
  have hbk := h.box1 k hk
  refine ⟨h.size, fun t => ?_, fun j hj => ?_, fun j d hd => ?_, ?_, fun j l y z h1 h2 h3 => ?_, fun j y n z d h1 h2 h3 h4 he => ?_⟩
  · have := h.env t
    revert this
    generalize tget S.tmp t = v
    cases v with
    | loc j p t' =>
      rintro ⟨y, hy, hp⟩
      refine ⟨y, ?_, hp⟩
      have : j ≠ k := fun e => by subst e; rw [hbk] at hy; cases hy
      simp [this, hy]
    | lsl j p s e l c' =>
      rintro ⟨y, hy, hp⟩
      refine ⟨y, ?_, hp⟩
      have : j ≠ k := fun e => by subst e; rw [hbk] at hy; cases hy
      simp [this, hy]
    | _ => exact id
  · simp only [bget] at hj
    split at hj
    · cases hj
    · rename_i hne; simp only [hne, if_false]; exact h.box1 j hj
  · simp only [bget] at hd
    split at hd
    · rename_i he
      cases hd
      subst he
      exact ⟨x, by simp, by show BlkRel P g x _ (w.heap.push o)[x.blk]?; rw [hx]; simpa using hb⟩
    · rename_i hne
      obtain ⟨y, hy, hr⟩ := h.box2 j d hd
      exact ⟨y, by simp [hne, hy], by show BlkRel P g y _ (w.heap.push o)[y.blk]?; rw [heap_push_old w o (h.box_lt hy)]; exact hr⟩
  · refine ⟨h.sim.len, fun n y c h1 h2 => ?_, h.sim.inj⟩
    cases hc : c.live with
    | false => cases c <;> simp [Blk.live] at hc; trivial
    | true =>
      have := h.sim.blk n y c h1 h2
      show BlkRel P g y c (w.heap.push o)[y.blk]?
      rw [heap_push_old w o (BlkRel.lt hc this)]; exact this
  · split at h1
    · cases h1
      split at h2
      · rename_i e1 e2; rw [e1, e2]
      · have := h.box_lt h2; omega
    · split at h2
      · cases h2
        have := h.box_lt h1; omega
      · exact h.dis j l y z h1 h2 h3
  · split at h1
    · cases h1
      have := BlkRel.lt h4 (h.sim.blk n z d h2 h3)
      omega
    · exact h.apart j y n z d h1 h2 h3 h4 he

theorem Ext.newBox (k : Nat) (x : G) (o : Obj) (hx : x.blk = w.heap.size) (H : Heap) :
    Ext g (Own g H bx) w g (Own g H (fun j => if j = k then some x else bx j)) { w with heap := w.heap.push o } := by
  refine ⟨GLe.refl g, by simp, fun q r hr hlt => ?_, fun r hlt _ => heap_push_old w o hlt, rfl, rfl, rfl⟩
  rcases hr with hr | ⟨j, y, h1, h2⟩
  · exact .inl hr
  · simp only at h1
    split at h1
    · cases h1; omega
    · exact .inr ⟨j, y, h1, h2⟩

/-- A world that differs in block r alone. -/
def Only (r : Nat) (w w' : World) : Prop :=
  w'.heap.size = w.heap.size ∧ (∀ k, k ≠ r → w'.heap[k]? = w.heap[k]?) ∧ w'.os = w.os ∧ w'.output = w.output ∧ w'.tape = w.tape

/-- A block of the heap is changed. -/
theorem SRel.setHeap (h : SRel P N g bx S a w) {n : Nat} {x : G} {b b' : Blk} (h1 : g[n]? = some x) (h2 : S.heap[n]? = some b) (hb : b.own = true) (hb' : b'.own = true ∨ b' = .dead) (hw : Only x.blk w w')
    (hr : BlkRel P g x b' w'.heap[x.blk]?) : SRel P N g bx { S with heap := S.heap.set n b' } a w' := by
  refine ⟨h.size, h.env, h.box1, fun k c hc => ?_, ⟨by simp [h.sim.len], fun m y c e1 e2 => ?_, fun m l y z c d e1 e2 e3 e4 e5 e6 e7 => ?_⟩, h.dis, fun k y m z c e1 e2 e3 e4 he => ?_⟩
  · obtain ⟨y, hy, hr'⟩ := h.box2 k c hc
    exact ⟨y, hy, by rw [hw.2.1 y.blk (h.apart k y n x b hy h1 h2 (Blk.live_of_own hb))]; exact hr'⟩
  · rw [List.getElem?_set] at e2
    split at e2
    · rename_i hnm
      subst hnm
      split at e2
      · cases e2; rw [h1] at e1; cases e1; exact hr
      · cases e2
    · rename_i hnm
      cases hc : c.live with
      | false => cases c <;> simp [Blk.live] at hc; trivial
      | true =>
        rw [hw.2.1 y.blk (fun he => hnm (h.sim.inj n m x y b c h1 e1 h2 e2 hb hc he.symm))]
        exact h.sim.blk m y c e1 e2
  · have key : ∀ (m : Nat) (c : Blk), (S.heap.set n b')[m]? = some c → ∃ c', S.heap[m]? = some c' ∧ (c.own = true → c'.own = true) ∧ (c.live = true → c'.live = true) := by
      intro m c hm
      rw [List.getElem?_set] at hm
      split at hm
      · rename_i hnm; subst hnm; exact ⟨b, h2, fun _ => hb, fun _ => Blk.live_of_own hb⟩
      · exact ⟨c, hm, id, id⟩
    obtain ⟨c', hc1, hc2, _⟩ := key m c e3
    obtain ⟨d', hd1, _, hd2⟩ := key l d e4
    exact h.sim.inj m l y z c' d' e1 e2 hc1 hd1 (hc2 e5) (hd2 e6) e7
  · rw [List.getElem?_set] at e3
    split at e3
    · rename_i hnm; subst hnm; exact h.apart k y n z b e1 e2 h2 (Blk.live_of_own hb) he
    · exact h.apart k y m z c e1 e2 e3 e4 he

theorem Ext.setHeap {n : Nat} {x : G} {b b' : Blk} (h1 : g[n]? = some x) (h2 : S.heap[n]? = some b) (hb : b.own = true) (hw : Only x.blk w w') :
    Ext g (Own g S.heap bx) w g (Own g (S.heap.set n b') bx) w' := by
  refine ⟨GLe.refl g, by rw [hw.1]; exact Nat.le_refl _, fun q r hr _ => ?_, fun r hlt hn => hw.2.1 r (fun he => hn (.inl ⟨n, x, b, h1, h2, hb, he.symm⟩)), hw.2.2.1, hw.2.2.2.1, hw.2.2.2.2⟩
  rcases hr with ⟨m, y, c, e1, e2, e3, e4⟩ | hr
  · rw [List.getElem?_set] at e2
    split at e2
    · rename_i hnm; subst hnm; exact .inl ⟨n, y, b, e1, h2, by cases q; exact Blk.live_of_own hb; exact hb, e4⟩
    · exact .inl ⟨m, y, c, e1, e2, e3, e4⟩
  · exact .inr hr

/-- A box of the frame is changed. -/
theorem SRel.setBox (h : SRel P N g bx S a w) {k : Nat} {x : G} (c : BoxC) (hk : bx k = some x) (hw : Only x.blk w w')
    (hr : BlkRel P g x (.cells c.1 c.2 false) w'.heap[x.blk]?) : SRel P N g bx { S with box := (k, c) :: S.box } a w' := by
  refine ⟨h.size, h.env, fun j hj => ?_, fun j d hd => ?_, ⟨h.sim.len, fun m y c e1 e2 => ?_, h.sim.inj⟩, h.dis, h.apart⟩
  · simp only [bget] at hj
    split at hj
    · cases hj
    · exact h.box1 j hj
  · simp only [bget] at hd
    split at hd
    · rename_i he; subst he; cases hd; exact ⟨x, hk, hr⟩
    · rename_i hne
      obtain ⟨y, hy, hr'⟩ := h.box2 j d hd
      exact ⟨y, hy, by rw [hw.2.1 y.blk (fun he => hne (h.dis j k y x hy hk he))]; exact hr'⟩
  · cases hc : c.live with
    | false => cases c <;> simp [Blk.live] at hc; trivial
    | true => rw [hw.2.1 y.blk (fun he => h.apart k x m y c hk e1 e2 hc he.symm)]; exact h.sim.blk m y c e1 e2

theorem Ext.setBox {H : Heap} {k : Nat} {x : G} (hk : bx k = some x) (hw : Only x.blk w w') : Ext g (Own g H bx) w g (Own g H bx) w' :=
  ⟨GLe.refl g, by rw [hw.1]; exact Nat.le_refl _, fun _ _ hr _ => hr, fun r _ hn => hw.2.1 r (fun he => hn (.inr ⟨k, x, hk, he.symm⟩)), hw.2.2.1, hw.2.2.2.1, hw.2.2.2.2⟩

/-- A slot is written. -/
theorem SRel.put (h : SRel P N g bx S a w) {d : Nat} {v : AV} {v' : Value} (hd : d < N) (hv : VRelE P g bx v v') : SRel P N g bx { S with tmp := (d, v) :: S.tmp } (a.put (some d) v') w := by
  refine ⟨by simp [Act.put, h.size], fun t => ?_, h.box1, h.box2, h.sim, h.dis, h.apart⟩
  have hda : d < a.tmps.size := by rw [h.size]; exact hd
  simp only [tget, Act.put]
  by_cases e : t = d
  · subst e
    simp only [if_true]
    have : (a.tmps.setIfInBounds t v').getD t undef = v' := by simp [hda]
    rw [this]; exact hv
  · simp only [e, if_false]
    have : (a.tmps.setIfInBounds d v').getD t undef = a.tmps.getD t undef := by
      simp only [Array.getD_eq_getD_getElem?, Array.getElem?_setIfInBounds]
      rw [if_neg (fun h => e h.symm)]
    rw [this]; exact h.env t

theorem only_setRow (w : World) (r : Nat) (cs : Array Value) : Only r w (w.setRow r cs) :=
  ⟨by simp, fun k hk => setRow_other w r k cs hk, rfl, rfl, rfl⟩

end
end Go.Av
