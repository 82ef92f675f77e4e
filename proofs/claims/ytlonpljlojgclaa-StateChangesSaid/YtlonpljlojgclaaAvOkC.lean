import Derived.Test.YtlonpljlojgclaaAvOkB
set_option linter.unusedSimpArgs false
set_option linter.unusedVariables false
namespace Go.Av
open Go

section
variable {P : Program} {N : Nat} {g g' : List G} {bx : Nat → Option G} {S : St} {a : Act} {w w' : World}

theorem natOf_ok {v : AV} {n : Nat} (h : natOf v = some n) {v' : Value} (hv : VRelE P g bx v v') : (asInt v').run P w = .ok (n : Int) w := by
  unfold natOf at h
  split at h
  · split at h
    · rename_i i hpos
      cases h
      have := (VRelE.VRel rfl hv).int_inv
      subst this
      rw [Int.toNat_of_nonneg hpos]
      simp [asInt, asIntOf]
    · cases h
  · cases h

theorem wrap_nat {n : Nat} (h : n ≤ 2 ^ 47) : IntKind.i64.wrap (n : Int) = n := by
  simp only [IntKind.wrap, IntKind.bits, IntKind.signed]
  simp
  omega

/-- A new name of a new block, with a slice of it. -/
theorem newSlice_ok (h : SRel P N g bx S a w) {e : TypeId} {l : List AV} {cs : Array Value} (hw : wtA P l e = true) (hr : FRelL P g l cs.toList) (n : Nat) (hn : n ≤ l.length) :
    ∃ g', VRelE P g' bx (.sl (some (S.heap.length, [], 0, e)) n l.length) (.slice (some ⟨w.heap.size, 0, none⟩) n l.length) ∧
      SRel P N g' bx { S with heap := S.heap ++ [.cells e l false] } a { w with heap := w.heap.push (.cells cs e (0, 0)) } ∧
      Ext g (Own g S.heap bx) w g' (Own g' (S.heap ++ [.cells e l false]) bx) { w with heap := w.heap.push (.cells cs e (0, 0)) } := by
  have hlen := wtA_len (g := g) l e cs.toList hw hr
  simp only [Array.length_toList] at hlen
  let y : G := ⟨w.heap.size, 0, e, l.length, false, cs.size⟩
  have hb : BlkRel P (g ++ [y]) y (.cells e l false) (some (.cells cs e (0, 0))) :=
    ⟨rfl, rfl, rfl, hw, _, e, rfl, rfl, [], cs.toList, [], by simp, rfl, FRelL.mono (GLe.append g [y]) _ _ hr⟩
  refine ⟨g ++ [y], ?_, h.push y _ _ rfl hb, Ext.push h.sim y _ _ rfl⟩
  refine VRelE.of_VRel (VRel.of_cell rfl ?_)
  simp only [FRel]
  exact ⟨y, _, by rw [← h.sim.len]; simp, rfl, ⟨w.heap.size, 0, none⟩, l.length, rfl, hn, Nat.le_refl _, rfl, by simp [y], .inl rfl, .inr ⟨by simp [y], by simp [y, hlen]⟩⟩

theorem makeSliceA_ok {C : Cfg} (hZ : ZOK P C.Z) (h : SRel P N g bx S a w) {t : TypeId} {ln cp : AV} {E : Eff} (hE : makeSliceA P C S.view t ln cp = some E) {vl vc : Value} (hl : VRelE P g bx ln vl) (hc : VRelE P g bx cp vc) :
    ∃ v' w' g' bx', (Instr.makeSlice t vl vc).run P w = .ok v' w' ∧ VRelE P g' bx' E.v v' ∧ SRel P N g' bx' (S.app E) a w' ∧ Ext g (Own g S.heap bx) w g' (Own g' (S.app E).heap bx') w' := by
  unfold makeSliceA at hE
  split at hE
  rotate_left
  · cases hE
  rename_i e hu
  split at hE
  rotate_left
  · cases hE
  rename_i n m hn hm
  split at hE
  rotate_left
  · cases hE
  rename_i hk
  obtain ⟨h1, h2, hne⟩ := hk
  simp only [sizeOK, Bool.and_eq_true, decide_eq_true_eq] at h2
  have r1 := natOf_ok (w := w) hn hl
  have r2 := natOf_ok (w := w) hm hc
  obtain ⟨i, hi⟩ : ∃ i, P.info? e = some i := by
    unfold Program.cellsOf at hne
    cases hi : P.info? e with
    | none => simp [hi] at hne
    | some i => exact ⟨i, rfl⟩
  have hcell : P.cellsOf e = i.size := by simp [Program.cellsOf, hi]
  have hbyt : P.bytesOf e = i.bytes := by simp [Program.bytesOf, hi]
  have hti : ∀ w : World, (typeInfo e).run P w = .ok i w := fun w => by simp [typeInfo, hi]
  rw [hbyt] at h2
  have hb2 : ¬ ((i.bytes : Int) * (m : Int) > 2 ^ 48) := by
    have e1 : (i.bytes : Int) * (m : Int) = ((m * i.bytes : Nat) : Int) := by rw [Nat.mul_comm]; simp
    rw [e1]; omega
  have t1 : (decide ((m : Int) < 0) || decide ((i.bytes : Int) * (m : Int) > 2 ^ 48)) = false := by simp [hb2]; omega
  have t2 : ((decide ((m : Int) < 0) || decide ((i.bytes : Int) * (m : Int) > 2 ^ 48)) || decide ((n : Int) < 0) || decide ((n : Int) > (m : Int))) = false := by rw [t1]; simp; omega
  have room : (askRoom (m * i.bytes)).run P w = .ok () w := by
    unfold askRoom
    rw [if_neg (by simp only [roomBytes]; omega)]
    simp
  have fin : ∀ (zs : Array Value) (l : List AV), wtA P l e = true → FRelL P g l ((Array.range (m * i.size)).map (fun i => zs[i % zs.size]!)).toList → l.length = m →
      ((m * i.size = 0 ∧ zs = #[]) ∨ (m * i.size ≠ 0 ∧ ∃ zv, (∀ w, (zeroValue e).run P w = .ok zv w) ∧ zs = zv.cells)) → E = ⟨.sl (some (S.view.hlen, [], 0, e)) n m, none, [], [.cells e l false]⟩ →
      ∃ v' w' g' bx', (Instr.makeSlice t vl vc).run P w = .ok v' w' ∧ VRelE P g' bx' E.v v' ∧ SRel P N g' bx' (S.app E) a w' ∧ Ext g (Own g S.heap bx) w g' (Own g' (S.app E).heap bx') w' := by
    intro zs l q1 q2 q3 q4 q5
    subst q5
    obtain ⟨g', k1, k2, k3⟩ := newSlice_ok h q1 q2 n (by omega)
    rw [q3] at k1
    refine ⟨_, _, g', bx, ?_, by simpa [St.view] using k1, by simpa [St.app, hset] using k2, by simpa [St.app, hset] using k3⟩
    unfold Instr.makeSlice
    simp only [Sem.run_bind, run_underlying hu, Result.andThen_ok, r1, r2, hti, wrap_nat (show m ≤ 2 ^ 47 by omega), wrap_nat (show n ≤ 2 ^ 47 by omega), t2, Bool.false_eq_true, if_false, Int.toNat_natCast, room, sizeOf, Sem.run_pure, Sem.run_ite]
    rcases q4 with ⟨q4, rfl⟩ | ⟨q4, zv, q5, rfl⟩
    · simp only [q4, if_true, Result.andThen_ok, newRow, Sem.run_bind, run_newObj, Sem.run_pure]; rfl
    · simp only [q4, if_false, q5, Result.andThen_ok, newRow, Sem.run_bind, run_newObj, Sem.run_pure]; rfl
  split at hE
  · rename_i h0
    subst h0
    exact fin #[] [] rfl (by simp [FRelL]) rfl (.inl ⟨by simp, rfl⟩) (Option.some.inj hE).symm
  · rename_i h0
    split at hE
    · rename_i z hz
      obtain ⟨hz1, zv, hrun, hz4⟩ := hZ.run hz
      have hzl := wt_len (g := g) z e _ hz1 (hz4 g).cells
      have hrep := rep_cells (P := P) (g := g) (hz4 g).cells hzl m
      refine fin zv.cells (List.replicate m z) (wtA_replicate hz1 m) ?_ (by simp) ?_ (Option.some.inj hE).symm
      · rw [hcell] at hrep
        simpa using hrep
      · have : ¬ m * i.size = 0 := Nat.mul_ne_zero h0 (by rw [← hcell]; exact hne)
        exact .inr ⟨this, zv, hrun, rfl⟩
    · cases hE

theorem clearA_ok {C : Cfg} (hZ : ZOK P C.Z) (h : SRel P N g bx S a w) {t : TypeId} {x : AV} {E : Eff} (hE : clearA P C S.view t x = some E) {vx : Value} (hx : VRelE P g bx x vx) (ty : TypeId) :
    ∃ v' w' g' bx', (Builtin.clear_ #[t] ty #[vx]).run P w = .ok v' w' ∧ VRelE P g' bx' E.v v' ∧ SRel P N g' bx' (S.app E) a w' ∧ Ext g (Own g S.heap bx) w g' (Own g' (S.app E).heap bx') w' := by
  unfold clearA at hE
  split at hE
  rotate_left
  · cases hE
  rename_i e p len cap hu
  have hx1 := (VRelE.VRel rfl hx).leaf rfl
  split at hE
  · rename_i h0
    subst h0
    have hv : ∃ b c, vx = .slice b 0 c := by
      cases p with
      | none => simp only [FRel] at hx1; exact ⟨none, 0, by simpa using hx1.2.2⟩
      | some q =>
        obtain ⟨n, pp, s, E'⟩ := q
        simp only [FRel] at hx1
        obtain ⟨y, v1, _, e2, ad, c', rfl, _⟩ := hx1
        exact ⟨some ad, c', by simpa using e2⟩
    obtain ⟨b, c, rfl⟩ := hv
    cases hE
    refine ⟨_, w, g, bx, ?_, VRelE.of_VRel VRel.undef, by rw [app_pure0]; exact h, by rw [app_pure0]; exact Ext.refl _ _ _⟩
    cases b <;> simp [Builtin.clear_, run_underlying hu, undef]
  · rename_i h0
    split at hE
    · rename_i n s E'
      split at hE
      · rename_i u l sl z hb hz
        split at hE
        · rename_i hc
          obtain ⟨rfl, hle⟩ := hc
          cases hE
          simp only [FRel] at hx1
          obtain ⟨y, v1, e1, e2, e3⟩ := hx1
          have hv : vx = v1 := by simpa using e2
          subst hv
          obtain ⟨ad, cap', rfl, s1, s2, s3, s4, s5, s6⟩ := e3.row
          have hb' : S.heap[n]? = some (.cells u l sl) := hb
          have hblk := h.sim.blk n y _ e1 hb'
          have hu' : u = E' := by rw [← hblk.1, s3]
          subst hu'
          rcases s6 with s6 | ⟨rfl, s6⟩
          · omega
          obtain ⟨b1, b2, b3, b4, c, el, h5, h6, c0, c1, c2, h7, h8, h9⟩ := id hblk
          have hcs : c.toList.length = c.size := by simp
          obtain ⟨hz1, zv, hrun, hz4⟩ := hZ.run hz
          have hzl := wt_len (g := g) z u _ hz1 (hz4 g).cells
          have hrep := rep_cells (P := P) (g := g) (hz4 g).cells hzl len
          have hwr := wtA_replicate hz1 len
          have hzz : (Builtin.zeroCells zv.cells len).toList = (List.range (len * P.cellsOf u)).map (fun i => zv.cells.toList.toArray[i % zv.cells.toList.toArray.size]!) := by
            simp only [Array.length_toList] at hzl
            simp [Builtin.zeroCells, hzl]
          rw [← hzz] at hrep
          have hnl := wtA_len (g := g) _ u _ hwr hrep
          rw [List.length_replicate] at hnl
          have hm : (s + len) * P.cellsOf u ≤ l.length * P.cellsOf u := Nat.mul_le_mul_right _ hle
          rw [Nat.add_mul] at hm
          have hl := wtA_len l u c1 (by rw [← b1]; simpa [b1] using b4) h9
          have hsz : c.size = c0.length + c1.length + c2.length := by rw [← hcs, h7]; simp [Nat.add_assoc]
          have hst := run_storeCells_at P y.blk (y.base + s * P.cellsOf u) el (Builtin.zeroCells zv.cells len).toList 0 c w h5 (by rw [hnl]; omega) (wtA_one _ u _ hwr hrep)
          simp only [Nat.add_zero] at hst
          have hon := only_setRow w y.blk (c.toList.take (y.base + s * P.cellsOf u) ++ (Builtin.zeroCells zv.cells len).toList ++ c.toList.drop (y.base + s * P.cellsOf u + (Builtin.zeroCells zv.cells len).toList.length)).toArray
          have hrow' := setRow_heap w y.blk c (c.toList.take (y.base + s * P.cellsOf u) ++ (Builtin.zeroCells zv.cells len).toList ++ c.toList.drop (y.base + s * P.cellsOf u + (Builtin.zeroCells zv.cells len).toList.length)).toArray el _ h5
          have hput := put_rel (w := w) (k := s) hblk (by simpa using hle) hwr hrep h5 hrow'
          refine ⟨.tuple #[], w.setRow y.blk (c.toList.take (y.base + s * P.cellsOf u) ++ (Builtin.zeroCells zv.cells len).toList ++ c.toList.drop (y.base + s * P.cellsOf u + (Builtin.zeroCells zv.cells len).toList.length)).toArray, g, bx, ?_, VRelE.of_VRel VRel.undef, ?_, ?_⟩
          · cases len with
            | zero => exact absurd rfl h0
            | succ k => simp [Builtin.clear_, run_underlying hu, hrun, hst]
          · simpa [St.app, hset] using h.setHeap (b' := .cells u (putRow l s (List.replicate len z)) sl) e1 hb' rfl (.inl rfl) hon hput
          · simpa [St.app, hset] using Ext.setHeap (b' := .cells u (putRow l s (List.replicate len z)) sl) (bx := bx) e1 hb' rfl hon
        · cases hE
      · cases hE
    · cases hE

theorem freeAll_TRel (h : SRel P N g bx S a w) : ∀ xs : List Operand, freeAll (xs.map S.view.ρ) = true → TRelL P g (xs.map S.view.ρ) (xs.map a.eval)
  | [], _ => by simp [TRelL]
  | x :: xs, hf => by
      simp only [List.map_cons, freeAll, Bool.and_eq_true] at hf
      simp only [List.map_cons, TRelL]
      have hx := VRelE.VRel hf.1 (evalA_ok h x)
      exact ⟨_, _, rfl, hx.1, hx.2, freeAll_TRel h xs hf.2⟩

theorem makeFuncA_ok (h : SRel P N g bx S a w) {f : Fn} {fs cs : Array Operand} {E : Eff} (hE : makeFuncA f (fs.toList.map S.view.ρ) (cs.toList.map S.view.ρ) = some E) :
    ∃ v', pv E.v = some E ∧ (Instr.makeFunc f (fs.map a.eval) (cs.map a.eval)).run P w = .ok v' w ∧ VRelE P g bx E.v v' := by
  unfold makeFuncA at hE
  split at hE
  · split at hE
    · rename_i f hf
      simp only [Bool.and_eq_true] at hf
      cases hE
      refine ⟨_, rfl, rfl, VRelE.of_VRel (VRel.of_cell rfl ?_)⟩
      simp only [FRel]
      refine ⟨_, _, rfl, ?_, ?_⟩
      · simpa using freeAll_TRel h fs.toList hf.1
      · simpa using freeAll_TRel h cs.toList hf.2
    · cases hE
  · cases hE

/-! Entries of maps -/

theorem mapFind_get {k : AV} : ∀ (es : List (AV × AV × Nat)) (i j : Nat) (v : AV), mapFindA k es i = some (some (j, v)) → ∃ q, j = i + q ∧ ∃ k0 b, es[q]? = some (k0, v, b)
  | [], i, j, v, h => by simp [mapFindA] at h
  | e :: es, i, j, v, h => by
      simp only [mapFindA] at h
      split at h
      · cases h; exact ⟨0, rfl, e.1, e.2.2, rfl⟩
      · obtain ⟨q, h1, k0, b, h2⟩ := mapFind_get es (i + 1) j v h
        exact ⟨q + 1, by omega, k0, b, by simpa using h2⟩
      · cases h

theorem MEntRel.get : (es : List (AV × AV × Nat)) → (l : List MapEntry) → MEntRel P g es l → (i : Nat) → (k v : AV) → (b : Nat) → es[i]? = some (k, v, b) → ∃ e, l[i]? = some e ∧ VRel P g k e.key ∧ VRel P g v e.val ∧ e.born = b
  | [], l, h, i, k, v, b, hi => by simp at hi
  | (k0, v0, b0) :: es, l, h, i, k, v, b, hi => by
      simp only [MEntRel] at h
      obtain ⟨e, l', rfl, h1, h2, h3, h4⟩ := h
      cases i with
      | zero => simp at hi; obtain ⟨rfl, rfl, rfl⟩ := hi; exact ⟨e, rfl, h1, h2, h3⟩
      | succ i => simp at hi; obtain ⟨e', q1, q2⟩ := MEntRel.get es l' h4 i k v b hi; exact ⟨e', by simpa using q1, q2⟩

theorem MEntRel.modKey : (es : List (AV × AV × Nat)) → (l : List MapEntry) → MEntRel P g es l → (i : Nat) → (k : AV) → (k' : Value) → VRel P g k k' → MEntRel P g (es.modify i fun e => (k, e.2.1, e.2.2)) (l.modify i fun e => { e with key := k' })
  | [], l, h, i, k, k', hk => by simp only [MEntRel] at h; subst h; cases i <;> simp [MEntRel]
  | (k0, v0, b0) :: es, l, h, i, k, k', hk => by
      simp only [MEntRel] at h
      obtain ⟨e, l', rfl, h1, h2, h3, h4⟩ := h
      cases i with
      | zero => exact ⟨{ e with key := k' }, l', rfl, hk, h2, h3, h4⟩
      | succ i => exact ⟨e, _, rfl, h1, h2, h3, MEntRel.modKey es l' h4 i k k' hk⟩

theorem MEntRel.modVal : (es : List (AV × AV × Nat)) → (l : List MapEntry) → MEntRel P g es l → (i : Nat) → (v : AV) → (v' : Value) → VRel P g v v' → MEntRel P g (es.modify i fun e => (e.1, v, e.2.2)) (l.modify i fun e => { e with val := v' })
  | [], l, h, i, v, v', hv => by simp only [MEntRel] at h; subst h; cases i <;> simp [MEntRel]
  | (k0, v0, b0) :: es, l, h, i, v, v', hv => by
      simp only [MEntRel] at h
      obtain ⟨e, l', rfl, h1, h2, h3, h4⟩ := h
      cases i with
      | zero => exact ⟨{ e with val := v' }, l', rfl, h1, hv, h3, h4⟩
      | succ i => exact ⟨e, _, rfl, h1, h2, h3, MEntRel.modVal es l' h4 i v v' hv⟩

theorem bornA_ok : (es : List (AV × AV × Nat)) → (l : List MapEntry) → MEntRel P g es l → (s : Int) → (i j : Nat) → bornA s es i = some j → ∃ q, j = i + q ∧ l.findIdx? (fun e => (e.born : Int) == s) = some q
  | [], l, h, s, i, j, hb => by simp [bornA] at hb
  | (k0, v0, b0) :: es, l, h, s, i, j, hb => by
      simp only [MEntRel] at h
      obtain ⟨e, l', rfl, h1, h2, h3, h4⟩ := h
      simp only [bornA] at hb
      split at hb
      · rename_i hs
        cases hb
        exact ⟨0, rfl, by simp [List.findIdx?_cons, h3, hs]⟩
      · rename_i hs
        obtain ⟨q, q1, q2⟩ := bornA_ok es l' h4 s (i + 1) j hb
        refine ⟨q + 1, by omega, ?_⟩
        have : ((e.born : Int) == s) = false := by simpa [h3] using hs
        simp [List.findIdx?_cons, this, q2]

theorem pair_rel {x y : AV} {vx vy : Value} (h1 : VRel P g x vx) (h2 : VRel P g y vy) : VRel P g (.tup [x, y]) (.tuple #[vx, vy]) := by
  refine VRel.of_cell rfl ?_
  simp only [FRel, TRelL]
  exact ⟨_, rfl, vx, [vy], rfl, h1.1, h1.2, vy, [], rfl, h2.1, h2.2, rfl⟩

theorem mapEntryA_ok {C : Cfg} (hZ : ZOK P C.Z) (h : SRel P N g bx S a w) {t : TypeId} {m k : AV} {E : Eff} (hE : mapEntryA P C S.view t m k = some E) {vm vk : Value} (hm : VRelE P g bx m vm) (hk : VRelE P g bx k vk) :
    ∃ v' w' g' bx', (Instr.mapEntry t vm vk).run P w = .ok v' w' ∧ VRelE P g' bx' E.v v' ∧ SRel P N g' bx' (S.app E) a w' ∧ Ext g (Own g S.heap bx) w g' (Own g' (S.app E).heap bx') w' := by
  unfold mapEntryA at hE
  split at hE
  rotate_left
  · cases hE
  rename_i kt et hu
  split at hE
  rotate_left
  · cases hE
  rename_i d hd
  split at hE
  rotate_left
  · cases hE
  rename_i hf
  split at hE
  rotate_left
  · cases hE
  rename_i n
  split at hE
  rotate_left
  · cases hE
  rename_i es clock hget
  have hm1 := (VRelE.VRel rfl hm).leaf rfl
  simp only [FRel] at hm1
  obtain ⟨y, hy, hvm⟩ := hm1
  have hvm' : vm = .map (some y.blk) := by simpa using hvm
  subst hvm'
  have hkv := VRelE.VRel (kindOK_free hf) hk
  have hget' : S.heap[n]? = some (.map es clock) := hget
  obtain ⟨ents, hb, hme⟩ := h.sim.blk n y _ hy hget'
  have hlt : y.blk < w.heap.size := by
    rcases Nat.lt_or_ge y.blk w.heap.size with h' | h'
    · exact h'
    · simp [Array.getElem?_eq_none h'] at hb
  have fin : ∀ (b' : List (AV × AV × Nat)) (c' : Nat) (ents' : Array MapEntry) (v : AV) (v' : Value), MEntRel P g b' ents'.toList → VRel P g v v' → E = ⟨v, none, [(n, .map b' c')], []⟩ →
      (Instr.mapEntry t (.map (some y.blk)) vk).run P w = .ok v' { w with heap := w.heap.setIfInBounds y.blk (.map ents' c') } →
      ∃ v' w' g' bx', (Instr.mapEntry t (.map (some y.blk)) vk).run P w = .ok v' w' ∧ VRelE P g' bx' E.v v' ∧ SRel P N g' bx' (S.app E) a w' ∧ Ext g (Own g S.heap bx) w g' (Own g' (S.app E).heap bx') w' := by
    intro b' c' ents' v v' hrel hv he hrun
    subst he
    have e1 : S.app ⟨v, none, [(n, .map b' c')], []⟩ = { S with heap := S.heap.set n (.map b' c') } := by simp [St.app, hset]
    refine ⟨_, _, g, bx, hrun, VRelE.of_VRel hv, ?_, ?_⟩
    · rw [e1]
      exact h.setHeap hy hget' rfl (.inl rfl) (only_setObj _ _ _) ⟨ents', by simp [hlt], hrel⟩
    · rw [e1]
      exact Ext.setHeap hy hget' rfl (only_setObj _ _ _)
  have hget2 := MapKept.run_getObj_map (P := P) hb
  have hgi : ∀ b : Nat, VRel P g (.int .i64 (b : Nat)) (goInt b) := fun b => VRel.int
  split at hE
  · rename_i hfind
    split at hE
    · rename_i z hz
      obtain ⟨hz1, zv, hrun, hz4⟩ := hZ.run hz
      rcases findNow_ok hf hkv es ents.toList 0 none hme hfind with ⟨_, hnow⟩ | ⟨j, v, v', e', r1, _⟩
      · refine fin _ _ (ents.push { key := vk, val := zv, born := clock }) _ (.tuple #[zv, goInt clock]) ?_ (pair_rel (hz4 g) (hgi clock)) (Option.some.inj hE).symm ?_
        · simpa using hme.append _ _ k z clock vk zv hkv (hz4 g)
        · simp only [Instr.mapEntry, Sem.run_bind, run_underlying hu, Result.andThen_ok, hget2, checkKey_ok hd hf hkv, Instr.findKey, run_underlying hd, hnow, Sem.run_pure, hrun, MapKept.run_setObj_map _ hb]
      · cases r1
    · cases hE
  · rename_i i v hfind
    split at hE
    · rename_i k0 v00 b hes
      rcases findNow_ok hf hkv es ents.toList 0 (some (i, v)) hme hfind with ⟨r1, _⟩ | ⟨j, v0, v', e', r1, hnow, r3, r4, r5⟩
      · cases r1
      · simp only [Nat.zero_add] at r1 hnow
        simp only [Option.some.injEq, Prod.mk.injEq] at r1
        obtain ⟨rfl, rfl⟩ := r1
        have r4' : ents[i]? = some e' := by simpa using r4
        obtain ⟨e2, q1, q2, q3, q4⟩ := hme.get _ _ i _ _ _ hes
        have he2 : e2 = e' := by rw [r4] at q1; exact (Option.some.inj q1).symm
        subst he2
        refine fin _ _ (ents.modify i fun e => { e with key := vk }) _ (.tuple #[v', goInt e2.born]) ?_ (pair_rel r3 (by rw [q4]; exact hgi b)) (Option.some.inj hE).symm ?_
        · simpa using hme.modKey _ _ i k vk hkv
        · simp only [Instr.mapEntry, Sem.run_bind, run_underlying hu, Result.andThen_ok, hget2, checkKey_ok hd hf hkv, Instr.findKey, run_underlying hd, hnow, Sem.run_pure, Instr.keyThatStays, r4', Option.map_some, Option.getD_some, r5, if_true, MapKept.run_setObj_map _ hb]
    · cases hE
  · cases hE

theorem entryStoreA_ok (h : SRel P N g bx S a w) {m s x : AV} {E : Eff} (hE : entryStoreA S.view m s x = some E) {vm vs vx : Value} (hm : VRelE P g bx m vm) (hs : VRelE P g bx s vs) (hx : VRelE P g bx x vx) (t : TypeId) :
    ∃ w' g' bx', (Instr.entryStore t vm vs vx).run P w = .ok () w' ∧ VRelE P g' bx' E.v undef ∧ SRel P N g' bx' (S.app E) a w' ∧ Ext g (Own g S.heap bx) w g' (Own g' (S.app E).heap bx') w' := by
  unfold entryStoreA at hE
  split at hE
  rotate_left
  · cases hE
  rename_i n kk st
  split at hE
  rotate_left
  · cases hE
  rename_i hfree
  split at hE
  rotate_left
  · cases hE
  rename_i es clock hget
  have hm1 := (VRelE.VRel rfl hm).leaf rfl
  simp only [FRel] at hm1
  obtain ⟨y, hy, hvm⟩ := hm1
  have hvm' : vm = .map (some y.blk) := by simpa using hvm
  subst hvm'
  have hsv := (VRelE.VRel rfl hs).int_inv
  subst hsv
  have hxv := VRelE.VRel hfree hx
  have hget' : S.heap[n]? = some (.map es clock) := hget
  obtain ⟨ents, hb, hme⟩ := h.sim.blk n y _ hy hget'
  have hlt : y.blk < w.heap.size := by
    rcases Nat.lt_or_ge y.blk w.heap.size with h' | h'
    · exact h'
    · simp [Array.getElem?_eq_none h'] at hb
  split at hE
  · rename_i i hborn
    cases hE
    obtain ⟨q, q1, q2⟩ := bornA_ok es _ hme st 0 i hborn
    simp only [Nat.zero_add] at q1
    subst q1
    have q2' : ents.findIdx? (fun e => (e.born : Int) == st) = some i := by
      have := List.findIdx?_toArray (p := fun e : MapEntry => (e.born : Int) == st) ents.toList
      rw [Array.toArray_toList] at this
      rw [this]; exact q2
    have e1 : S.app ⟨.tup [], none, [(n, .map (es.modify i fun e => (e.1, x, e.2.2)) clock)], []⟩ = { S with heap := S.heap.set n (.map (es.modify i fun e => (e.1, x, e.2.2)) clock) } := by simp [St.app, hset]
    refine ⟨{ w with heap := w.heap.setIfInBounds y.blk (.map (ents.modify i fun e => { e with val := vx }) clock) }, g, bx, ?_, VRelE.of_VRel VRel.undef, ?_, ?_⟩
    · simp only [Instr.entryStore, Sem.run_bind, Result.andThen_ok, MapKept.run_getObj_map (P := P) hb, asInt, asIntOf, Sem.run_pure, q2', MapKept.run_setObj_map _ hb]
    · rw [e1]
      exact h.setHeap hy hget' rfl (.inl rfl) (only_setObj _ _ _) ⟨ents.modify i fun e => { e with val := vx }, by simp [hlt], by simpa using hme.modVal _ _ i x vx hxv⟩
    · rw [e1]
      exact Ext.setHeap hy hget' rfl (only_setObj _ _ _)
  · cases hE

end
end Go.Av
