import Derived.Test.YtlonpljlojgclaaAvOkA
import Derived.Deep.Upon
set_option linter.unusedSimpArgs false
set_option linter.unusedVariables false
namespace Go.Av
open Go

section
variable {P : Program} {N : Nat} {g g' : List G} {bx : Nat → Option G} {S : St} {a : Act} {w w' : World}

theorem rep_cells {z : AV} {zc : List Value} {sz : Nat} (hz : FRel P g z zc) (hl : zc.length = sz) : ∀ n, FRelL P g (List.replicate n z) ((List.range (n * sz)).map (fun i => zc.toArray[i % zc.toArray.size]!)) := by
  intro n
  induction n with
  | zero => simp [FRelL]
  | succ n ih =>
    simp only [List.replicate_succ, FRelL]
    refine ⟨zc, (List.range (n * sz)).map (fun i => zc.toArray[i % zc.toArray.size]!), ?_, hz, ih⟩
    rw [Nat.add_mul, Nat.one_mul, Nat.add_comm, List.range_add, List.map_append, List.map_map]
    congr 1
    · apply List.ext_getElem
      · simp [hl]
      · intro i h1 h2
        simp only [List.length_map, List.length_range] at h1
        simp [hl, Nat.mod_eq_of_lt h1, h2, List.getElem?_eq_getElem h2]
    · apply List.map_congr_left
      intro i _
      simp [hl]

theorem wtA_replicate {z : AV} {e : TypeId} (h : wt P z e = true) : ∀ n, wtA P (List.replicate n z) e = true
  | 0 => rfl
  | n + 1 => by simp [List.replicate_succ, wtA, h, wtA_replicate h n]

theorem putRow_len {l : List AV} {k : Nat} {xs : List AV} (h : k + xs.length ≤ l.length) : (putRow l k xs).length = l.length := by
  simp only [putRow, List.length_append, List.length_take, List.length_drop]; omega

/-- Cells of a row are written over, in place. -/
theorem put_rel {x : G} {u : TypeId} {l xs : List AV} {sl : Bool} {k : Nat} {news : List Value} {c : Array Value} {el : TypeId} (hb : BlkRel P g x (.cells u l sl) w.heap[x.blk]?) (hk : k + xs.length ≤ l.length)
    (hw : wtA P xs u = true) (hr : FRelL P g xs news) (hc : w.heap[x.blk]? = some (.cells c el (0, 0))) {w' : World}
    (hw' : w'.heap[x.blk]? = some (.cells (c.toList.take (x.base + k * P.cellsOf u) ++ news ++ c.toList.drop (x.base + k * P.cellsOf u + news.length)).toArray el (0, 0))) :
    BlkRel P g x (.cells u (putRow l k xs) sl) w'.heap[x.blk]? := by
  obtain ⟨h1, h2, h3, h4, c', el', h5, h6, c0, c1, c2, h7, h8, h9⟩ := hb
  rw [hc] at h5
  cases h5
  have hn := wtA_len xs u news hw hr
  have hl := wtA_len l u c1 h4 h9
  have hm : (k + xs.length) * P.cellsOf u ≤ l.length * P.cellsOf u := Nat.mul_le_mul_right _ hk
  rw [Nat.add_mul] at hm
  have hcs : c.toList.length = c.size := by simp
  have hsz : c.size = c0.length + c1.length + c2.length := by rw [← hcs, h7]; simp [Nat.add_assoc]
  obtain ⟨a1, a2⟩ := take_rows u k l c1 h4 h9
  obtain ⟨b1, b2⟩ := drop_rows u (k + xs.length) l c1 h4 h9
  refine ⟨h1, by rw [h2, putRow_len hk], h3, ?_, _, el, hw', ?_, c0, c1.take (k * P.cellsOf u) ++ (news ++ c1.drop ((k + xs.length) * P.cellsOf u)), c2, ?_, h8, ?_⟩
  · exact wtA_append u _ _ a1 (wtA_append u _ _ hw b1)
  · simp only [List.size_toArray, List.length_append, List.length_take, List.length_drop, hcs]
    omega
  · have e1 : c.toList.take (x.base + k * P.cellsOf u) = c0 ++ c1.take (k * P.cellsOf u) := by
      rw [h7, List.append_assoc, List.take_append, List.take_of_length_le (by omega), List.take_append, h8, show x.base + k * P.cellsOf u - x.base = k * P.cellsOf u from by omega,
        show k * P.cellsOf u - c1.length = 0 from by omega]
      simp
    have e2 : c.toList.drop (x.base + k * P.cellsOf u + news.length) = c1.drop ((k + xs.length) * P.cellsOf u) ++ c2 := by
      rw [h7, List.append_assoc, List.drop_append, List.drop_eq_nil_of_le (by omega), List.nil_append, List.drop_append, h8, Nat.add_mul,
        show x.base + k * P.cellsOf u + news.length - x.base = k * P.cellsOf u + xs.length * P.cellsOf u from by omega,
        show k * P.cellsOf u + xs.length * P.cellsOf u - c1.length = 0 from by omega]
      simp
    simp only
    rw [e1, e2]
    simp [List.append_assoc]
  · exact FRelL_append _ _ _ _ a2 (FRelL_append _ _ _ _ hr b2)

/-- What is in a slice of a row, and its address. -/
theorem SlOk.row {x : G} {s : Nat} {e : TypeId} {len cap : Nat} {v : Value} (h : SlOk P x [] s e len cap v) :
    ∃ ad cap', v = .slice (some ad) len cap' ∧ len ≤ cap ∧ cap ≤ cap' ∧ x.ty = e ∧ s + cap ≤ x.len ∧ (cap' = cap ∨ (x.slop = true ∧ s + cap = x.len)) ∧
      (cap' = 0 ∨ (ad = ⟨x.blk, x.base + s * P.cellsOf e, none⟩ ∧ x.base + (s + cap') * P.cellsOf e ≤ x.rsize)) := by
  obtain ⟨ad, cap', h1, h2, h3, h4, h5, h6, h7⟩ := h
  exact ⟨ad, cap', h1, h2, h3, h4, h5, h6, h7⟩

theorem cells_of_src {size : Nat} {tx : TypeId} {x : Value} {n : Nat} {news : List Value} (h : Src P size tx x n news w) : news.length = n * size := h.newsLen

theorem appendA_ok {C : Cfg} (hZ : ZOK P C.Z) (h : SRel P N g bx S a w) {t tx : TypeId} {s x : AV} {E : Eff} (hE : appendA P C S.view t tx s x = some E) {vs vx : Value} (hs : VRelE P g bx s vs) (hx : VRelE P g bx x vx) (ty : TypeId) :
    ∃ v' w' g' bx', (Builtin.append_ #[t, tx] ty #[vs, vx]).run P w = .ok v' w' ∧ VRelE P g' bx' E.v v' ∧ SRel P N g' bx' (S.app E) a w' ∧ Ext g (Own g S.heap bx) w g' (Own g' (S.app E).heap bx') w' := by
  unfold appendA at hE
  split at hE
  rotate_left
  · cases hE
  rename_i e e' ht hk
  split at hE
  · cases hE
  rename_i hne
  split at hE
  · cases hE
  rename_i xs hel
  obtain ⟨news, hsrc, hrel, hwt⟩ := elemsA_ok h hel hx hk
  obtain ⟨i, hi⟩ : ∃ i, P.info? e = some i := by
    unfold Program.cellsOf at hne
    cases hi : P.info? e with
    | none => simp [hi] at hne
    | some i => exact ⟨i, rfl⟩
  have hcell : P.cellsOf e = i.size := by simp [Program.cellsOf, hi]
  have hbyt : P.bytesOf e = i.bytes := by simp [Program.bytesOf, hi]
  rw [hcell] at hsrc
  have app0 : ∀ v, S.app ⟨v, none, [], []⟩ = S := app_pure0 S
  split at hE
  · rename_i hx0
    have hn0 : news = [] := by
      have := hsrc.newsLen
      rw [hx0] at this
      simpa using this
    subst hn0
    rw [hx0] at hsrc
    split at hE
    · rename_i _ l c
      have hs1 := (VRelE.VRel rfl hs).leaf rfl
      simp only [FRel] at hs1
      obtain ⟨rfl, rfl, hs1⟩ := hs1
      have hv : vs = .slice none 0 0 := by simpa using hs1
      subst hv
      cases hE
      exact ⟨_, w, g, bx, run_append_nothing w t tx ty e i ht hi none 0 0 (by omega) vx hsrc, hs, by rw [app0]; exact h, by rw [app0]; exact Ext.refl _ _ _⟩
    · rename_i q len cap
      obtain ⟨n, p, st, E'⟩ := q
      have hs1 := (VRelE.VRel rfl hs).leaf rfl
      simp only [FRel] at hs1
      obtain ⟨y, v1, e1, e2, e3⟩ := hs1
      have hv : vs = v1 := by simpa using e2
      subst hv
      cases hE
      obtain ⟨ad, cap', rfl, k1, k2, _⟩ := e3
      exact ⟨_, w, g, bx, run_append_nothing w t tx ty e i ht hi (some ad) len cap' (by omega) vx hsrc, hs, by rw [app0]; exact h, by rw [app0]; exact Ext.refl _ _ _⟩
    · cases hE
  · rename_i hx0
    -- a new row
    have grow : ∀ (S' : St) (base : Option Addr) (sLen sCap : Nat) (olds : List Value) (l : List AV), SRel P N g bx S' a w → Ext g (Own g S.heap bx) w g (Own g S'.heap bx) w → S'.heap.length = S.heap.length →
        (Builtin.firstCells i.size sLen (.slice base sLen sCap)).run P w.drew = .ok olds.toArray w.drew → FRelL P g l olds → wtA P l e = true → l.length = sLen → sCap < sLen + xs.length →
        sizeOK P e (l ++ xs).length = true → (C.Z e).isSome = true →
        ∃ v' w' g', (Builtin.append_ #[t, tx] ty #[.slice base sLen sCap, vx]).run P w = .ok v' w' ∧ VRelE P g' bx (.sl (some (S.heap.length, [], 0, e)) (l ++ xs).length (l ++ xs).length) v' ∧
          SRel P N g' bx { S' with heap := S'.heap ++ [.cells e (l ++ xs) true] } a w' ∧ Ext g (Own g S.heap bx) w g' (Own g' (S'.heap ++ [.cells e (l ++ xs) true]) bx) w' := by
      intro S' base sLen sCap olds l hS' hext hlen hold hrl hwl hll hcap hsz hz
      obtain ⟨z, hz⟩ := Option.isSome_iff_exists.1 hz
      obtain ⟨hz1, i', zv, hz2, hz3, hz4⟩ := hZ e z hz
      rw [hi] at hz2
      cases hz2
      have hzl := wt_len (g := g) z e _ hz1 (hz4 g).cells
      simp only [Array.length_toList] at hzl
      rw [hcell] at hzl
      simp only [sizeOK, Bool.and_eq_true, decide_eq_true_eq, List.length_append, hll, hbyt] at hsz
      have hfit := growslice_fits (old := sCap) (bytes := i.bytes) hcap (by have := hsz.1; omega)
      have hrun := run_append_grow_src w t tx ty e i zv ht hi hz3 base sLen sCap olds hold vx xs.length news hsrc hcap (by have := hsz.2; omega) hfit
      have hge := grownCap_ge w (sLen + xs.length) sCap e
      have hol := wtA_len (g := g) l e olds hwl hrl
      have hnl := wtA_len (g := g) xs e news hwt hrel
      obtain ⟨g', k1, k2, k3⟩ := grow_ok (e := e) (l := l ++ xs) (cs := olds ++ news) hS' (wtA_append e _ _ hwl hwt) (FRelL_append _ _ _ _ hrl hrel)
        (Builtin.zeroCells zv.cells (grownCap w (sLen + xs.length) sCap e - (sLen + xs.length))) (grownCap w (sLen + xs.length) sCap e) (by simp only [List.length_append, hll]; exact hge) (by
          simp only [Array.size_append, List.size_toArray, List.length_append, Builtin.zeroCells, Array.size_map, Array.size_range, hol, hnl, hzl, hll, hcell]
          rw [← Nat.add_mul, ← Nat.add_mul]
          congr 1
          omega)
      refine ⟨_, _, g', hrun, ?_, k2, hext.trans k3⟩
      rw [hlen] at k1
      simpa [hll] using k1
    have hpos : 0 < xs.length := Nat.pos_of_ne_zero hx0
    split at hE
    · rename_i _ l c
      have hs1 := (VRelE.VRel rfl hs).leaf rfl
      simp only [FRel] at hs1
      obtain ⟨rfl, rfl, hs1⟩ := hs1
      have hv : vs = .slice none 0 0 := by simpa using hs1
      subst hv
      unfold growA at hE
      split at hE
      · rename_i hsz
        simp only [Bool.and_eq_true] at hsz
        cases hE
        obtain ⟨v', w', g', k1, k2, k3, k4⟩ := grow S none 0 0 [] [] h (Ext.refl _ _ _) rfl (run_firstCells_none w.drew i.size 0 0 0) (by simp [FRelL]) rfl rfl (by omega) (by simpa using hsz.1) hsz.2
        exact ⟨v', w', g', bx, k1, by simpa [St.view] using k2, by simpa [St.app, hset] using k3, by simpa [St.app, hset] using k4⟩
      · cases hE
    · rename_i n st E' len cap
      have hs1 := (VRelE.VRel rfl hs).leaf rfl
      simp only [FRel] at hs1
      obtain ⟨y, v1, e1, e2, e3⟩ := hs1
      have hv : vs = v1 := by simpa using e2
      subst hv
      split at hE
      rotate_left
      · cases hE
      rename_i hc
      obtain ⟨rfl, hlc⟩ := hc
      obtain ⟨ad, cap', rfl, s1, s2, s3, s4, s5, s6⟩ := e3.row
      -- the old ones
      have olds : ∀ (l : List AV), RowRel P g y l w.heap[y.blk]? → ∃ cs : List Value, (Builtin.firstCells i.size len (.slice (some ad) len cap')).run P w.drew = .ok cs.toArray w.drew ∧ FRelL P g ((l.drop st).take len) cs ∧
          wtA P ((l.drop st).take len) E' = true ∧ ((l.drop st).take len).length = len := by
        intro l hrow
        have hyl : y.len = l.length := hrow.1
        have hll : ((l.drop st).take len).length = len := by simp only [List.length_take, List.length_drop]; omega
        by_cases h0 : len = 0
        · subst h0
          refine ⟨[], ?_, by simp [FRelL], rfl, hll⟩
          exact run_firstCells_some w.drew i.size 0 ad 0 cap' [] (by simp) (fun j u hj => by simp at hj)
        · obtain ⟨cs, q1, q2, q3, q4⟩ := row_cells (w := w) (s := st) (len := len) hrow s3 (by omega)
          refine ⟨cs, ?_, q3, q4, hll⟩
          rcases s6 with s6 | ⟨rfl, s6⟩
          · omega
          · exact run_firstCells_some w.drew i.size len _ len cap' cs (by rw [q1, hcell]) (fun j u hj => by rw [add_none]; exact q2 j u hj)
      split at hE
      · rename_i u l sl hb
        have hb' : S.heap[n]? = some (.cells u l sl) := hb
        have hblk := h.sim.blk n y _ e1 hb'
        have hrow := hblk.row rfl
        have hyl : y.len = l.length := hrow.1
        have hslop : y.slop = sl := hblk.2.2.1
        have hu : u = E' := by rw [← hblk.1, s3]
        subst hu
        obtain ⟨_, _, _, _, c, el, h5, h6, c0, c1, c2, h7, h8, h9⟩ := id hblk
        have hcs : c.toList.length = c.size := by simp
        -- written in place
        have inplace : len + xs.length ≤ cap' → (Builtin.append_ #[t, tx] ty #[.slice (some ad) len cap', vx]).run P w = .ok (.slice (some ad) (len + xs.length) cap')
            (w.setRow y.blk (c.toList.take (y.base + (st + len) * P.cellsOf u) ++ news ++ c.toList.drop (y.base + (st + len) * P.cellsOf u + news.length)).toArray) ∧ ad = ⟨y.blk, y.base + st * P.cellsOf u, none⟩ ∧
            y.base + (st + cap') * P.cellsOf u ≤ y.rsize := by
          intro hroom
          rcases s6 with s6 | ⟨rfl, s6⟩
          · omega
          refine ⟨?_, rfl, s6⟩
          have hm : (st + (len + xs.length)) * P.cellsOf u ≤ (st + cap') * P.cellsOf u := Nat.mul_le_mul_right _ (by omega)
          have hnl := wtA_len (g := g) xs u news hwt hrel
          have hst := run_storeCells_at P y.blk (y.base + (st + len) * P.cellsOf u) el news 0 c w h5 (by
            rw [hnl, h6]
            have e1 : (st + (len + xs.length)) * P.cellsOf u = (st + len) * P.cellsOf u + xs.length * P.cellsOf u := by rw [← Nat.add_mul]; congr 1; omega
            omega) hsrc.one
          simp only [Nat.add_zero] at hst
          have ha : (⟨y.blk, y.base + st * P.cellsOf u, none⟩ : Addr).add (len * i.size) = ⟨y.blk, y.base + (st + len) * P.cellsOf u, none⟩ := by
            rw [add_none, ← hcell, Nat.add_mul]; congr 1; omega
          rcases hsrc.kind with ⟨e', hk'⟩ | hk' <;> simp [Builtin.append_, run_underlying ht, run_underlying hk', sizeOf, typeInfo, hi, hsrc.len, hroom, hsrc.cells, ha, hst]
        split at hE
        · rename_i hroom
          cases hE
          obtain ⟨k1, rfl, k2⟩ := inplace (by omega)
          have hon := only_setRow w y.blk (c.toList.take (y.base + (st + len) * P.cellsOf u) ++ news ++ c.toList.drop (y.base + (st + len) * P.cellsOf u + news.length)).toArray
          have hrow' := setRow_heap w y.blk c (c.toList.take (y.base + (st + len) * P.cellsOf u) ++ news ++ c.toList.drop (y.base + (st + len) * P.cellsOf u + news.length)).toArray el _ h5
          have hput := put_rel (w := w) (k := st + len) hblk (by omega) hwt hrel h5 hrow'
          refine ⟨_, _, g, bx, k1, ?_, ?_, ?_⟩
          · refine VRelE.of_VRel (VRel.of_cell rfl ?_)
            simp only [FRel]
            exact ⟨y, _, e1, rfl, _, cap', rfl, by omega, s2, s3, s4, s5, s6⟩
          · simpa [St.app, hset] using h.setHeap (b' := .cells u (putRow l (st + len) xs) sl) e1 hb' rfl (.inl rfl) hon hput
          · simpa [St.app, hset] using Ext.setHeap (b' := .cells u (putRow l (st + len) xs) sl) (bx := bx) e1 hb' rfl hon
        · rename_i hroom
          unfold growA at hE
          split at hE
          rotate_left
          · cases hE
          rename_i hsz
          simp only [Bool.and_eq_true] at hsz
          obtain ⟨cs, o1, o2, o3, o4⟩ := olds l hrow
          by_cases hsl : (sl && st + cap == l.length) = true
          · simp only [hsl, if_true] at hE
            cases hE
            by_cases hr' : len + xs.length ≤ cap'
            · -- in place, in truth
              obtain ⟨k1, rfl, k2⟩ := inplace hr'
              have hon := only_setRow w y.blk (c.toList.take (y.base + (st + len) * P.cellsOf u) ++ news ++ c.toList.drop (y.base + (st + len) * P.cellsOf u + news.length)).toArray
              have hrow' := setRow_heap w y.blk c (c.toList.take (y.base + (st + len) * P.cellsOf u) ++ news ++ c.toList.drop (y.base + (st + len) * P.cellsOf u + news.length)).toArray el _ h5
              let z : G := ⟨y.blk, y.base + st * P.cellsOf u, u, ((l.drop st).take len ++ xs).length, true, y.rsize⟩
              have hnl := wtA_len (g := g) xs u news hwt hrel
              have hm : (st + (len + xs.length)) * P.cellsOf u ≤ (st + cap') * P.cellsOf u := Nat.mul_le_mul_right _ (by omega)
              have e4 : (st + (len + xs.length)) * P.cellsOf u = (st + len) * P.cellsOf u + xs.length * P.cellsOf u := by rw [← Nat.add_mul]; congr 1; omega
              have e5 : (st + len) * P.cellsOf u = st * P.cellsOf u + len * P.cellsOf u := Nat.add_mul _ _ _
              have hbl : BlkRel P (g ++ [z]) z (.cells u ((l.drop st).take len ++ xs) true) (w.setRow y.blk (c.toList.take (y.base + (st + len) * P.cellsOf u) ++ news ++ c.toList.drop (y.base + (st + len) * P.cellsOf u + news.length)).toArray).heap[z.blk]? := by
                obtain ⟨cs2, q1, q2, q3, q4⟩ := row_cells (w := w) (s := st) (len := len) hrow s3 (by omega)
                refine ⟨rfl, rfl, rfl, wtA_append u _ _ o3 hwt, _, el, hrow', ?_, c.toList.take (y.base + st * P.cellsOf u), (c.toList.drop (y.base + st * P.cellsOf u)).take (len * P.cellsOf u) ++ news,
                  c.toList.drop (y.base + (st + len) * P.cellsOf u + news.length), ?_, ?_, ?_⟩
                · simp only [List.size_toArray, List.length_append, List.length_take, List.length_drop, hcs, hnl, z]
                  omega
                · simp only
                  rw [e5, ← Nat.add_assoc, List.take_add]
                  simp [List.append_assoc]
                · simp only [List.length_take, hcs, z]; omega
                · refine FRelL.mono (GLe.append g [z]) _ _ (FRelL_append _ _ _ _ ?_ hrel)
                  have hcc : (c.toList.drop (y.base + st * P.cellsOf u)).take (len * P.cellsOf u) = cs2 := by
                    apply List.ext_getElem?
                    intro j
                    by_cases hj : j < len * P.cellsOf u
                    · rw [List.getElem?_take, if_pos hj, List.getElem?_drop]
                      have := q2 j (cs2[j]'(by rw [q1]; exact hj)) (by simp)
                      unfold World.cell? at this
                      simp only [h5, Option.isSome_none, Bool.false_eq_true, if_false] at this
                      have e9 : cs2[j]? = some (cs2[j]'(by rw [q1]; exact hj)) := List.getElem?_eq_getElem (by rw [q1]; exact hj)
                      rw [e9, ← this]
                      simp
                    · rw [List.getElem?_take, if_neg hj, List.getElem?_eq_none (by omega)]
                  rw [hcc]; exact q3
              obtain ⟨k3, k4⟩ := h.revive e1 hb' rfl hon z rfl hbl
              refine ⟨_, _, g ++ [z], bx, k1, ?_, ?_, ?_⟩
              · refine VRelE.of_VRel (VRel.of_cell rfl ?_)
                simp only [FRel]
                refine ⟨z, _, ?_, rfl, _, cap', by rw [List.length_append, o4], ?_, ?_, rfl, ?_, .inr ⟨rfl, ?_⟩, .inr ⟨?_, ?_⟩⟩
                · simp [St.view, ← h.sim.len]
                · exact Nat.le_refl _
                · simp only [List.length_append, o4]; exact hr'
                · simp [z]
                · simp [z]
                · simp [z]
                · have : y.base + st * P.cellsOf u + (0 + cap') * P.cellsOf u ≤ y.rsize := by
                    rw [Nat.zero_add, Nat.add_assoc, ← Nat.add_mul]; exact k2
                  exact this
              · simpa [St.app, hset] using k3
              · simpa [St.app, hset] using k4
            · have hd := h.setHeap (w' := w) (b' := .dead) e1 hb' rfl (.inr rfl) ⟨rfl, fun _ _ => rfl, rfl, rfl, rfl⟩ trivial
              have hd2 := Ext.setHeap (w := w) (w' := w) (b' := .dead) (bx := bx) e1 hb' rfl ⟨rfl, fun _ _ => rfl, rfl, rfl, rfl⟩
              obtain ⟨v', w', g', k1, k2, k3, k4⟩ := grow _ (some ad) len cap' cs _ hd hd2 (by simp) o1 o2 o3 o4 (by omega) hsz.1 hsz.2
              exact ⟨v', w', g', bx, k1, by simpa [St.view] using k2, by simpa [St.app, hset] using k3, by simpa [St.app, hset] using k4⟩
          · simp only [hsl, if_false, Bool.false_eq_true] at hE
            cases hE
            have hcap : cap' = cap := by
              rcases s5 with s5 | ⟨s5, s7⟩
              · exact s5
              · exfalso; apply hsl
                rw [← hslop, s5, ← hyl, s7]; simp
            obtain ⟨v', w', g', k1, k2, k3, k4⟩ := grow S (some ad) len cap' cs _ h (Ext.refl _ _ _) rfl o1 o2 o3 o4 (by omega) hsz.1 hsz.2
            exact ⟨v', w', g', bx, k1, by simpa [St.view] using k2, by simpa [St.app, hset] using k3, by simpa [St.app, hset] using k4⟩
      · rename_i u l hb
        have hb' : S.heap[n]? = some (.ro u l) := hb
        have hblk := h.sim.blk n y _ e1 hb'
        have hrow := hblk.row rfl
        have hslop : y.slop = false := hblk.2.2.1
        split at hE
        · cases hE
        rename_i hroom
        unfold growA at hE
        split at hE
        rotate_left
        · cases hE
        rename_i hsz
        simp only [Bool.and_eq_true] at hsz
        cases hE
        obtain ⟨cs, o1, o2, o3, o4⟩ := olds l hrow
        have hcap : cap' = cap := by
          rcases s5 with s5 | ⟨s5, s7⟩
          · exact s5
          · rw [hslop] at s5; cases s5
        obtain ⟨v', w', g', k1, k2, k3, k4⟩ := grow S (some ad) len cap' cs _ h (Ext.refl _ _ _) rfl o1 o2 o3 o4 (by omega) hsz.1 hsz.2
        exact ⟨v', w', g', bx, k1, by simpa [St.view] using k2, by simpa [St.app, hset] using k3, by simpa [St.app, hset] using k4⟩
      · cases hE
    · cases hE

end
end Go.Av
