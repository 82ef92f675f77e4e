import Derived.Test.YtlonpljlojgclaaAvOkM
import Derived.Deep.AppendSrc
set_option linter.unusedSimpArgs false
set_option linter.unusedVariables false
namespace Go.Av
open Go

/-! ## Rows that grow -/

section
variable {P : Program} {N : Nat} {g g' : List G} {bx : Nat → Option G} {S : St} {a : Act} {w w' : World}

theorem SRel.drew (h : SRel P N g bx S a w) : SRel P N g bx S a w.drew := ⟨h.size, h.env, h.box1, h.box2, ⟨h.sim.len, h.sim.blk, h.sim.inj⟩, h.dis, h.apart⟩
theorem Ext.ofDrew {O O' : Bool → Nat → Prop} (h : Ext g O w.drew g' O' w') : Ext g O w g' O' w' := ⟨h.le, h.size, h.own, h.keep, h.os, h.output, h.tape⟩

theorem app_pure0 (S : St) (v : AV) : S.app ⟨v, none, [], []⟩ = S := by cases S; simp [St.app, hset]

theorem drop_rows (e : TypeId) : (k : Nat) → (l : List AV) → (cs : List Value) → wtA P l e = true → FRelL P g l cs → wtA P (l.drop k) e = true ∧ FRelL P g (l.drop k) (cs.drop (k * P.cellsOf e))
  | 0, l, cs, h, hr => by simpa using ⟨h, hr⟩
  | k + 1, [], cs, h, hr => by simp only [FRelL] at hr; subst hr; simp [wtA, FRelL]
  | k + 1, v :: l, cs, h, hr => by
      simp only [wtA, Bool.and_eq_true] at h
      simp only [FRelL] at hr
      obtain ⟨c1, c2, rfl, r1, r2⟩ := hr
      have e1 := wt_len v e c1 h.1 r1
      have := drop_rows e k l c2 h.2 r2
      have e2 : (c1 ++ c2).drop ((k + 1) * P.cellsOf e) = c2.drop (k * P.cellsOf e) := by
        rw [Nat.add_mul, Nat.one_mul, List.drop_append, List.drop_eq_nil_of_le (by omega : c1.length ≤ k * P.cellsOf e + P.cellsOf e), List.nil_append, e1, Nat.add_sub_cancel]
      rw [List.drop_succ_cons, e2]
      exact this

theorem take_rows (e : TypeId) : (k : Nat) → (l : List AV) → (cs : List Value) → wtA P l e = true → FRelL P g l cs → wtA P (l.take k) e = true ∧ FRelL P g (l.take k) (cs.take (k * P.cellsOf e))
  | 0, l, cs, h, hr => by simp [wtA, FRelL]
  | k + 1, [], cs, h, hr => by simp only [FRelL] at hr; subst hr; simp [wtA, FRelL]
  | k + 1, v :: l, cs, h, hr => by
      simp only [wtA, Bool.and_eq_true] at h
      simp only [FRelL] at hr
      obtain ⟨c1, c2, rfl, r1, r2⟩ := hr
      have e1 := wt_len v e c1 h.1 r1
      obtain ⟨a1, a2⟩ := take_rows e k l c2 h.2 r2
      rw [List.take_succ_cons, Nat.add_mul, Nat.one_mul]
      refine ⟨by simp [wtA, h.1, a1], ?_⟩
      simp only [FRelL]
      refine ⟨c1, c2.take (k * P.cellsOf e), ?_, r1, a2⟩
      rw [List.take_append, List.take_of_length_le (by omega)]
      congr 2
      omega

theorem wtA_append (e : TypeId) : (l m : List AV) → wtA P l e = true → wtA P m e = true → wtA P (l ++ m) e = true
  | [], m, _, h => h
  | v :: l, m, h, h' => by
      simp only [wtA, Bool.and_eq_true] at h
      simp [wtA, h.1, wtA_append e l m h.2 h']

theorem FRelL_append : (l m : List AV) → (c d : List Value) → FRelL P g l c → FRelL P g m d → FRelL P g (l ++ m) (c ++ d)
  | [], m, c, d, h, h' => by simp only [FRelL] at h; subst h; simpa using h'
  | v :: l, m, c, d, h, h' => by
      simp only [FRelL] at h
      obtain ⟨c1, c2, rfl, r1, r2⟩ := h
      simp only [List.cons_append, FRelL]
      exact ⟨c1, c2 ++ d, by simp, r1, FRelL_append l m c2 d r2 h'⟩

/-- Cells of a block, from a place on. -/
theorem row_cells {x : G} {l : List AV} {e : TypeId} {s len : Nat} (hb : RowRel P g x l w.heap[x.blk]?) (he : x.ty = e) (hle : s + len ≤ l.length) :
    ∃ cs : List Value, cs.length = len * P.cellsOf e ∧ (∀ j u, cs[j]? = some u → w.cell? ⟨x.blk, x.base + s * P.cellsOf e + j, none⟩ = some u) ∧ FRelL P g ((l.drop s).take len) cs ∧ wtA P ((l.drop s).take len) e = true := by
  subst he
  obtain ⟨h1, h2, c, el, fr, h3, c0, c1, c2, h4, h5, h6⟩ := hb
  have hl := wtA_len l _ c1 h2 h6
  obtain ⟨a1, a2⟩ := drop_rows x.ty s l c1 h2 h6
  obtain ⟨b1, b2⟩ := take_rows x.ty len _ _ a1 a2
  have hm : (s + len) * P.cellsOf x.ty ≤ l.length * P.cellsOf x.ty := Nat.mul_le_mul_right _ hle
  rw [Nat.add_mul] at hm
  refine ⟨_, ?_, ?_, b2, b1⟩
  · simp only [List.length_take, List.length_drop]; omega
  · intro j u hj
    have hj' : j < len * P.cellsOf x.ty := by
      rcases Nat.lt_or_ge j (len * P.cellsOf x.ty) with h | h
      · exact h
      · rw [List.getElem?_eq_none (by simp only [List.length_take]; omega)] at hj; cases hj
    rw [List.getElem?_take, if_pos hj', List.getElem?_drop] at hj
    unfold World.cell?
    simp only [h3]
    have : c[x.base + s * P.cellsOf x.ty + j]? = c.toList[x.base + s * P.cellsOf x.ty + j]? := by simp
    simp only [Option.isSome_none, Bool.false_eq_true, if_false]
    rw [this, h4, List.append_assoc, List.getElem?_append_right (by omega), List.getElem?_append_left (by omega), h5]
    rw [show x.base + s * P.cellsOf x.ty + j - x.base = s * P.cellsOf x.ty + j from by omega]
    exact hj

theorem row_src {x : G} {l : List AV} {e tx e' : TypeId} {s len cap : Nat} {v : Value} (hb : RowRel P g x l w.heap[x.blk]?) (hs : SlOk P x [] s e len cap v) (hlen : len ≠ 0) (hle : s + len ≤ l.length)
    (hk : P.underlying tx = some (.slice e')) : ∃ cs, Src P (P.cellsOf e) tx v len cs w ∧ FRelL P g ((l.drop s).take len) cs ∧ wtA P ((l.drop s).take len) e = true := by
  obtain ⟨ad, cap', rfl, h1, h2, h3, h4, h5, h6⟩ := hs
  rcases h6 with h6 | ⟨rfl, h6⟩
  · omega
  obtain ⟨cs, k1, k2, k3, k4⟩ := row_cells (w := w) hb h3 hle
  exact ⟨cs, Src.ofSlice w hk _ len cap' cs k1 (fun j u hj => by rw [add_none]; exact k2 j u hj) (wtA_one _ e cs k4 k3), k3, k4⟩

theorem elemsA_ok (h : SRel P N g bx S a w) {e : TypeId} {x : AV} {xs : List AV} (he : elemsA S.view e x = some xs) {vx : Value} (hx : VRelE P g bx x vx) {tx e' : TypeId} (hk : P.underlying tx = some (.slice e')) :
    ∃ cs, Src P (P.cellsOf e) tx vx xs.length cs w ∧ FRelL P g xs cs ∧ wtA P xs e = true := by
  have zero : ∀ (ad : Option Addr) (c : Nat), vx = .slice ad 0 c → xs = [] → ∃ cs, Src P (P.cellsOf e) tx vx xs.length cs w ∧ FRelL P g xs cs ∧ wtA P xs e = true := by
    rintro ad c rfl rfl
    refine ⟨[], ?_, by simp [FRelL], rfl⟩
    cases ad with
    | none => exact Src.ofNil w hk c
    | some ad => exact Src.ofSlice w hk ad 0 c [] (by simp) (fun j u hj => by simp at hj) (fun u hu => by cases hu)
  unfold elemsA at he
  split at he
  · split at he
    · cases he
      have hx1 := (VRelE.VRel rfl hx).leaf rfl
      simp only [FRel] at hx1
      exact zero none 0 (by simpa using hx1.2.2) rfl
    · cases he
  · rename_i n p s E len cap
    have hx1 := (VRelE.VRel rfl hx).leaf rfl
    simp only [FRel] at hx1
    obtain ⟨y, v1, e1, e2, e3⟩ := hx1
    have hv : vx = v1 := by simpa using e2
    subst hv
    split at he
    · rename_i h0
      subst h0
      cases he
      obtain ⟨ad, cap', rfl, _⟩ := e3
      exact zero (some ad) cap' rfl rfl
    · rename_i h0
      split at he
      · split at he
        · rename_i hE
          subst hE
          split at he
          · rename_i l hl
            split at he
            · rename_i hle
              cases he
              simp only [St.view, Option.bind_eq_some_iff] at hl
              obtain ⟨b, hb, hrow⟩ := hl
              have := row_src ((h.sim.blk n y b e1 hb).row hrow) e3 h0 hle hk
              simpa [Nat.min_eq_left (show len ≤ l.length - s by omega)] using this
            · cases he
          · cases he
        · cases he
      · cases he
  · rename_i k p s E len cap
    obtain ⟨y, e1, e3⟩ := hx
    split at he
    · rename_i h0
      subst h0
      cases he
      obtain ⟨ad, cap', rfl, _⟩ := e3
      exact zero (some ad) cap' rfl rfl
    · rename_i h0
      split at he
      · split at he
        · rename_i hE
          subst hE
          split at he
          · rename_i u l hl
            split at he
            · rename_i hle
              cases he
              obtain ⟨y', e1', e4⟩ := h.box2 k _ hl
              rw [e1] at e1'; cases e1'
              have := row_src (e4.row rfl) e3 h0 hle hk
              simpa [Nat.min_eq_left (show len ≤ l.length - s by omega)] using this
            · cases he
          · cases he
        · cases he
      · cases he
  · cases he

/-- A new name of a block that has none. -/
theorem SRel.name (h : SRel P N g bx S a w) (y : G) (b : Blk) (hb : BlkRel P (g ++ [y]) y b w.heap[y.blk]?) (hfree : ∀ (m : Nat) (z : G) (c : Blk), g[m]? = some z → S.heap[m]? = some c → c.live = true → z.blk ≠ y.blk)
    (hbx : ∀ k z, bx k = some z → z.blk ≠ y.blk) : SRel P N (g ++ [y]) bx { S with heap := S.heap ++ [b] } a w := by
  refine ⟨h.size, fun t => (h.env t).mono (GLe.append g [y]), h.box1, fun k c hc => ?_, ⟨by simp [h.sim.len], fun n z c h1 h2 => ?_, fun n m z z' c d h1 h2 h3 h4 h5 h6 h7 => ?_⟩, h.dis, fun k z n z' c h1 h2 h3 h4 he => ?_⟩
  · obtain ⟨z, hz, hr⟩ := h.box2 k c hc
    exact ⟨z, hz, hr.mono (GLe.append g [y])⟩
  · rcases getElem?_append_one _ _ _ _ h1 with ⟨l1, e1⟩ | ⟨l1, e1⟩
    · rcases getElem?_append_one _ _ _ _ h2 with ⟨l2, e2⟩ | ⟨l2, e2⟩
      · exact (h.sim.blk n z c e1 e2).mono (GLe.append g [y])
      · rw [h.sim.len] at l1; omega
    · rcases getElem?_append_one _ _ _ _ h2 with ⟨l2, e2⟩ | ⟨l2, e2⟩
      · rw [h.sim.len] at l1; omega
      · subst e1; subst e2; exact hb
  · rcases getElem?_append_one _ _ _ _ h1 with ⟨l1, e1⟩ | ⟨l1, e1⟩ <;> rcases getElem?_append_one _ _ _ _ h2 with ⟨l2, e2⟩ | ⟨l2, e2⟩
    · rcases getElem?_append_one _ _ _ _ h3 with ⟨l3, e3⟩ | ⟨l3, e3⟩
      · rcases getElem?_append_one _ _ _ _ h4 with ⟨l4, e4⟩ | ⟨l4, e4⟩
        · exact h.sim.inj n m z z' c d e1 e2 e3 e4 h5 h6 h7
        · rw [h.sim.len] at l2; omega
      · rw [h.sim.len] at l1; omega
    · rcases getElem?_append_one _ _ _ _ h3 with ⟨l3, e3⟩ | ⟨l3, e3⟩
      · exact absurd (h7.trans (by rw [e2])) (hfree n z c e1 e3 (Blk.live_of_own h5))
      · rw [h.sim.len] at l1; omega
    · rcases getElem?_append_one _ _ _ _ h4 with ⟨l4, e4⟩ | ⟨l4, e4⟩
      · exact absurd (h7.symm.trans (by rw [e1])) (hfree m z' d e2 e4 h6)
      · rw [h.sim.len] at l2; omega
    · omega
  · rcases getElem?_append_one _ _ _ _ h2 with ⟨l1, e1⟩ | ⟨l1, e1⟩
    · rcases getElem?_append_one _ _ _ _ h3 with ⟨l2, e2⟩ | ⟨l2, e2⟩
      · exact h.apart k z n z' c h1 e1 e2 h4 he
      · rw [h.sim.len] at l1; omega
    · subst e1; exact hbx k z h1 he

theorem getElem?_set_cases {α : Type} {l : List α} {n m : Nat} {x y : α} (h : (l.set n x)[m]? = some y) : (n = m ∧ y = x) ∨ (n ≠ m ∧ l[m]? = some y) := by
  rw [List.getElem?_set] at h
  split at h
  · rename_i hnm
    split at h
    · cases h; exact .inl ⟨hnm, rfl⟩
    · cases h
  · rename_i hnm; exact .inr ⟨hnm, h⟩

/-- A block gets a new name, the old one is dead. -/
theorem SRel.revive (h : SRel P N g bx S a w) {n : Nat} {x : G} {b : Blk} (h1 : g[n]? = some x) (h2 : S.heap[n]? = some b) (hb : b.own = true) (hw : Only x.blk w w') (y : G) (hy : y.blk = x.blk) {b2 : Blk}
    (hr : BlkRel P (g ++ [y]) y b2 w'.heap[y.blk]?) :
    SRel P N (g ++ [y]) bx { S with heap := S.heap.set n .dead ++ [b2] } a w' ∧ Ext g (Own g S.heap bx) w (g ++ [y]) (Own (g ++ [y]) (S.heap.set n .dead ++ [b2]) bx) w' := by
  have k1 := h.setHeap (b' := .dead) h1 h2 hb (.inr rfl) hw trivial
  refine ⟨k1.name y b2 hr (fun m z c e1 e2 e3 he => ?_) (fun k z e1 he => h.apart k z n x b e1 h1 h2 (Blk.live_of_own hb) (he.trans hy)), ?_⟩
  · rcases getElem?_set_cases e2 with ⟨_, rfl⟩ | ⟨hnm, e2⟩
    · cases e3
    · exact hnm (h.sim.inj n m x z b c h1 e1 h2 e2 hb e3 (hy.symm.trans he.symm))
  · refine ⟨GLe.append g [y], by rw [hw.1]; exact Nat.le_refl _, fun q r hr' _ => ?_, fun r hlt hn => hw.2.1 r (fun he => hn (.inl ⟨n, x, b, h1, h2, hb, he.symm⟩)), hw.2.2.1, hw.2.2.2.1, hw.2.2.2.2⟩
    rcases hr' with ⟨m, z, c, e1, e2, e3, e4⟩ | hr'
    · rcases getElem?_append_one _ _ _ _ e1 with ⟨l1, e1⟩ | ⟨l1, e1⟩
      · rcases getElem?_append_one _ _ _ _ e2 with ⟨l2, e2⟩ | ⟨l2, e2⟩
        · rcases getElem?_set_cases e2 with ⟨_, rfl⟩ | ⟨hnm, e2⟩
          · cases q <;> cases e3
          · exact .inl ⟨m, z, c, e1, e2, e3, e4⟩
        · rw [h.sim.len] at l1; simp at l2; omega
      · subst e1
        refine .inl ⟨n, x, b, h1, h2, ?_, by rw [← e4, hy]⟩
        cases q
        · exact Blk.live_of_own hb
        · exact hb
    · exact .inr hr'

/-- A new row with room behind it. -/
theorem grow_ok (h : SRel P N g bx S a w) {e : TypeId} {l : List AV} {cs : List Value} (hw : wtA P l e = true) (hr : FRelL P g l cs) (rest : Array Value) (m : Nat) (hm : l.length ≤ m) (hsz : (cs.toArray ++ rest).size = m * P.cellsOf e) :
    ∃ g', VRelE P g' bx (.sl (some (S.heap.length, [], 0, e)) l.length l.length) (.slice (some ⟨w.heap.size, 0, none⟩) l.length m) ∧
      SRel P N g' bx { S with heap := S.heap ++ [.cells e l true] } a (w.drew.alloc (.cells (cs.toArray ++ rest) e)) ∧
      Ext g (Own g S.heap bx) w g' (Own g' (S.heap ++ [.cells e l true]) bx) (w.drew.alloc (.cells (cs.toArray ++ rest) e)) := by
  have hd := h.drew
  let y : G := ⟨w.heap.size, 0, e, l.length, true, m * P.cellsOf e⟩
  have hb : BlkRel P (g ++ [y]) y (.cells e l true) (some (.cells (cs.toArray ++ rest) e (0, 0))) :=
    ⟨rfl, rfl, rfl, hw, _, e, rfl, hsz, [], cs, rest.toList, by simp, rfl, FRelL.mono (GLe.append g [y]) _ _ hr⟩
  refine ⟨g ++ [y], ?_, hd.push y _ _ rfl hb, Ext.ofDrew (Ext.push hd.sim y _ _ rfl)⟩
  refine VRelE.of_VRel (VRel.of_cell rfl ?_)
  simp only [FRel]
  refine ⟨y, _, by rw [← h.sim.len]; simp, rfl, ⟨w.heap.size, 0, none⟩, m, rfl, Nat.le_refl _, hm, rfl, by simp [y], .inr ⟨rfl, by simp [y]⟩, .inr ⟨by simp [y], by simp [y]⟩⟩

end
end Go.Av
