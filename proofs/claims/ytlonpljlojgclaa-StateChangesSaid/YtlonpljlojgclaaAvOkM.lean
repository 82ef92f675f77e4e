import Derived.Test.YtlonpljlojgclaaAvOk5
import Derived.MapKept
set_option linter.unusedSimpArgs false
set_option linter.unusedVariables false
namespace Go.Av
open Go

section
variable {P : Program} {N : Nat} {g g' : List G} {bx : Nat → Option G} {S : St} {a : Act} {w w' : World}

theorem kindOK_free {d : TypeDesc} {k : AV} (h : kindOK d k = true) : k.free = true := by
  cases d <;> cases k <;> first | rfl | (simp [kindOK] at h)

/-- A key is the same or not, on both sides. -/
theorem keyEq_ok {d : TypeDesc} {k e : AV} {b : Bool} (hd : kindOK d k = true) (h : keyEqA k e = some b) {k' e' : Value} (hk : VRel P g k k') (he : VRel P g e e') :
    Instr.sameNow d k' e' = some b ∧ (b = true → Instr.sameBits 10000 e' k' = true) := by
  cases k with
  | int kk a =>
    cases e with
    | int kk' b' =>
      simp only [keyEqA] at h
      split at h
      · rename_i he'
        cases h
        subst he'
        rw [hk.int_inv, he.int_inv]
        cases d <;> simp [kindOK] at hd
        refine ⟨by simp [Instr.sameNow], fun hb => ?_⟩
        simp only [beq_iff_eq] at hb
        subst hb
        simp [Instr.sameBits]
      · cases h
    | _ => simp [keyEqA] at h
  | str s =>
    cases e with
    | str s' =>
      simp only [keyEqA, Option.some.injEq] at h
      subst h
      rw [hk.str_inv, he.str_inv]
      cases d <;> simp [kindOK] at hd
      refine ⟨by simp [Instr.sameNow], fun hb => ?_⟩
      have hss : (s' == s) = true := by
        have e1 : ∀ a b : ByteArray, (a == b) = (a.data == b.data) := fun a b => rfl
        rw [e1] at hb ⊢
        simp only [beq_iff_eq] at hb ⊢
        exact hb.symm
      simp only [Instr.sameBits]; exact hss
    | _ => simp [keyEqA] at h
  | bool s =>
    cases e with
    | bool s' =>
      simp only [keyEqA, Option.some.injEq] at h
      subst h
      rw [hk.bool_inv, he.bool_inv]
      cases d <;> simp [kindOK] at hd
      refine ⟨by simp [Instr.sameNow], fun hb => ?_⟩
      simp only [beq_iff_eq] at hb
      subst hb
      simp [Instr.sameBits]
    | _ => simp [keyEqA] at h
  | _ => simp [keyEqA] at h

theorem findNow_ok {d : TypeDesc} {k : AV} (hd : kindOK d k = true) {k' : Value} (hk : VRel P g k k') : ∀ (es : List (AV × AV × Nat)) (l : List MapEntry) (i : Nat) (r : Option (Nat × AV)), MEntRel P g es l → mapFindA k es i = some r →
    (r = none ∧ Instr.findNow d k' l i = some none) ∨ ∃ j v v' e, r = some (i + j, v) ∧ Instr.findNow d k' l i = some (some (i + j, v')) ∧ VRel P g v v' ∧ l[j]? = some e ∧ Instr.sameBits 10000 e.key k' = true
  | [], l, i, r, hm, h => by
      simp only [MEntRel] at hm
      subst hm
      simp only [mapFindA, Option.some.injEq] at h
      exact .inl ⟨h.symm, rfl⟩
  | (ka, va, b) :: es, l, i, r, hm, h => by
      simp only [MEntRel] at hm
      obtain ⟨e, l', rfl, h1, h2, h3, h4⟩ := hm
      simp only [mapFindA] at h
      split at h
      · rename_i he
        cases h
        obtain ⟨q1, q2⟩ := keyEq_ok hd he hk h1
        refine .inr ⟨0, va, e.val, e, by simp, by simp [Instr.findNow, q1], h2, rfl, q2 rfl⟩
      · rename_i he
        obtain ⟨q1, _⟩ := keyEq_ok hd he hk h1
        rcases findNow_ok hd hk es l' (i + 1) r h4 h with ⟨r1, r2⟩ | ⟨j, v, v', e', r1, r2, r3, r4, r5⟩
        · exact .inl ⟨r1, by simp [Instr.findNow, q1, r2]⟩
        · refine .inr ⟨j + 1, v, v', e', by rw [r1]; congr 2; omega, ?_, r3, by simpa using r4, r5⟩
          simp only [Instr.findNow, q1, r2]
          congr 3; omega
      · cases h

theorem checkKey_ok {kt : TypeId} {d : TypeDesc} {k : AV} (hu : P.underlying kt = some d) (hd : kindOK d k = true) {k' : Value} (hk : VRel P g k k') (b : Bool) : (Instr.checkKey b 10000 kt k').run P w = .ok () w := by
  unfold Instr.checkKey
  simp only [Sem.run_bind, run_underlying hu, Result.andThen_ok]
  cases d <;> cases k <;> simp [kindOK] at hd
  · rw [hk.bool_inv]; rfl
  · rw [hk.int_inv]; rfl
  · rw [hk.str_inv]; rfl

theorem MEntRel.append : (es : List (AV × AV × Nat)) → (l : List MapEntry) → MEntRel P g es l → (k v : AV) → (b : Nat) → (k' v' : Value) → VRel P g k k' → VRel P g v v' → MEntRel P g (es ++ [(k, v, b)]) (l ++ [{ key := k', val := v', born := b }])
  | [], l, h, k, v, b, k', v', hk, hv => by simp only [MEntRel] at h; subst h; exact ⟨_, [], rfl, hk, hv, rfl, rfl⟩
  | (k0, v0, b0) :: es, l, h, k, v, b, k', v', hk, hv => by
      simp only [MEntRel] at h
      obtain ⟨e, l', rfl, h1, h2, h3, h4⟩ := h
      exact ⟨e, _, rfl, h1, h2, h3, MEntRel.append es l' h4 k v b k' v' hk hv⟩

theorem MEntRel.modify : (es : List (AV × AV × Nat)) → (l : List MapEntry) → MEntRel P g es l → (i : Nat) → (k v : AV) → (k' v' : Value) → VRel P g k k' → VRel P g v v' → MEntRel P g (es.modify i fun e => (k, v, e.2.2)) (l.modify i fun e => { e with key := k', val := v' })
  | [], l, h, i, k, v, k', v', hk, hv => by simp only [MEntRel] at h; subst h; cases i <;> simp [MEntRel]
  | (k0, v0, b0) :: es, l, h, i, k, v, k', v', hk, hv => by
      simp only [MEntRel] at h
      obtain ⟨e, l', rfl, h1, h2, h3, h4⟩ := h
      cases i with
      | zero => exact ⟨{ e with key := k', val := v' }, l', rfl, hk, hv, h3, h4⟩
      | succ i => exact ⟨e, _, rfl, h1, h2, h3, MEntRel.modify es l' h4 i k v k' v' hk hv⟩

theorem only_setObj (w : World) (r : Nat) (o : Obj) : Only r w { w with heap := w.heap.setIfInBounds r o } :=
  ⟨by simp, fun k hk => by simp only [Array.getElem?_setIfInBounds]; rw [if_neg (fun e => hk e.symm)], rfl, rfl, rfl⟩

theorem mapPutA_ok (h : SRel P N g bx S a w) {t : TypeId} {m k x : AV} {E : Eff} (hE : mapPutA P S.view t m k x = some E) {vm vk vx : Value} (hm : VRelE P g bx m vm) (hk : VRelE P g bx k vk) (hx : VRelE P g bx x vx) :
    ∃ w' g' bx', (Instr.mapUpdate t vm vk vx).run P w = .ok () w' ∧ VRelE P g' bx' E.v undef ∧ SRel P N g' bx' (S.app E) a w' ∧ Ext g (Own g S.heap bx) w g' (Own g' (S.app E).heap bx') w' := by
  unfold mapPutA at hE
  split at hE
  · rename_i kt et hu
    split at hE
    · rename_i d hd
      split at hE
      · rename_i hf
        simp only [Bool.and_eq_true] at hf
        split at hE
        · rename_i n
          split at hE
          · rename_i es clock hget
            have hm' : VRel P g (.map (some n)) vm := hm
            have hm1 := hm'.leaf rfl
            simp only [FRel] at hm1
            obtain ⟨y, hy, hvm⟩ := hm1
            have hvm' : vm = .map (some y.blk) := by simpa using hvm
            subst hvm'
            have hkv := VRelE.VRel (kindOK_free hf.1) hk
            have hxv := VRelE.VRel hf.2 hx
            have hget' : S.heap[n]? = some (.map es clock) := hget
            obtain ⟨ents, hb, hme⟩ := h.sim.blk n y _ hy hget'
            have hlt : y.blk < w.heap.size := by
              rcases Nat.lt_or_ge y.blk w.heap.size with h' | h'
              · exact h'
              · simp [Array.getElem?_eq_none h'] at hb
            have fin : ∀ (b' : List (AV × AV × Nat)) (c' : Nat) (ents' : Array MapEntry), MEntRel P g b' ents'.toList → E = ⟨.tup [], none, [(n, .map b' c')], []⟩ →
                (Instr.mapUpdate t (.map (some y.blk)) vk vx).run P w = .ok () { w with heap := w.heap.setIfInBounds y.blk (.map ents' c') } →
                ∃ w' g' bx', (Instr.mapUpdate t (.map (some y.blk)) vk vx).run P w = .ok () w' ∧ VRelE P g' bx' E.v undef ∧ SRel P N g' bx' (S.app E) a w' ∧ Ext g (Own g S.heap bx) w g' (Own g' (S.app E).heap bx') w' := by
              intro b' c' ents' hrel he hrun
              subst he
              have e1 : S.app ⟨.tup [], none, [(n, .map b' c')], []⟩ = { S with heap := S.heap.set n (.map b' c') } := by simp [St.app, hset]
              refine ⟨_, g, bx, hrun, VRelE.of_VRel VRel.undef, ?_, ?_⟩
              · rw [e1]
                exact h.setHeap hy hget' rfl (.inl rfl) (only_setObj _ _ _) ⟨ents', by simp [hlt], hrel⟩
              · rw [e1]
                exact Ext.setHeap hy hget' rfl (only_setObj _ _ _)
            have hget2 := MapKept.run_getObj_map (P := P) hb
            split at hE
            · rename_i hfind
              rcases findNow_ok hf.1 hkv es ents.toList 0 none hme hfind with ⟨_, hnow⟩ | ⟨j, v, v', e', r1, _⟩
              · refine fin _ _ (ents.push { key := vk, val := vx, born := clock }) ?_ (Option.some.inj hE).symm ?_
                · simpa using hme.append _ _ k x clock vk vx hkv hxv
                · simp only [Instr.mapUpdate, Sem.run_bind, run_underlying hu, Result.andThen_ok, hget2, checkKey_ok hd hf.1 hkv, Instr.findKey, run_underlying hd, hnow, Sem.run_pure, MapKept.run_setObj_map _ hb]
              · cases r1
            · rename_i i v hfind
              rcases findNow_ok hf.1 hkv es ents.toList 0 (some (i, v)) hme hfind with ⟨r1, _⟩ | ⟨j, v0, v', e', r1, hnow, r3, r4, r5⟩
              · cases r1
              · simp only [Nat.zero_add] at r1 hnow
                simp only [Option.some.injEq, Prod.mk.injEq] at r1
                obtain ⟨rfl, rfl⟩ := r1
                refine fin _ _ (ents.modify i fun e => { e with key := vk, val := vx }) ?_ (Option.some.inj hE).symm ?_
                · simpa using hme.modify _ _ i k x vk vx hkv hxv
                · have r4' : ents[i]? = some e' := by simpa using r4
                  simp only [Instr.mapUpdate, Sem.run_bind, run_underlying hu, Result.andThen_ok, hget2, checkKey_ok hd hf.1 hkv, Instr.findKey, run_underlying hd, hnow, Sem.run_pure, Instr.keyThatStays, r4', Option.map_some, Option.getD_some, r5, if_true, MapKept.run_setObj_map _ hb]
            · cases hE
          · cases hE
        · cases hE
      · cases hE
    · cases hE
  · cases hE

def lookTail (kt et : TypeId) (vk : Value) (ok : Bool) (es : Array MapEntry) : Sem Value := do
  Instr.checkKey es.isEmpty 10000 kt vk
  let (v, b) ← match ← Instr.findKey kt vk es.toList with
    | some (_, v) => pure (v, true)
    | none => pure (← zeroValue et, false)
  pure (if ok then .tuple #[v, .bool b] else v)

theorem mapGetA_ok {C : Cfg} (hZ : ZOK P C.Z) (h : SRel P N g bx S a w) {t : TypeId} {m k v : AV} {ok : Bool} (hE : mapGetA P C S.view t m k ok = some v) {vm vk : Value} (hm : VRelE P g bx m vm) (hk : VRelE P g bx k vk) :
    ∃ v', (Instr.lookup t vm vk ok).run P w = .ok v' w ∧ VRel P g v v' := by
  unfold mapGetA at hE
  split at hE
  · rename_i kt et hu
    split at hE
    · rename_i d hd
      split at hE
      · rename_i hf
        split at hE
        · rename_i es hes
          have hkv := VRelE.VRel (kindOK_free hf) hk
          have key : ∃ ents : Array MapEntry, MEntRel P g es ents.toList ∧ (Instr.lookup t vm vk ok).run P w = (lookTail kt et vk ok ents).run P w := by
            unfold mapEs at hes
            split at hes
            · cases hes
              have hm' : VRel P g (.map none) vm := hm
              have hm1 := hm'.leaf rfl
              simp only [FRel] at hm1
              have : vm = .map none := by simpa using hm1
              subst this
              refine ⟨#[], rfl, ?_⟩
              unfold Instr.lookup lookTail
              simp only [Sem.run_bind, run_underlying hu, Result.andThen_ok, Sem.run_pure]
              rfl
            · rename_i n
              split at hes
              · rename_i es' clock hget
                cases hes
                have hm' : VRel P g (.map (some n)) vm := hm
                have hm1 := hm'.leaf rfl
                simp only [FRel] at hm1
                obtain ⟨y, hy, hvm⟩ := hm1
                have hvm' : vm = .map (some y.blk) := by simpa using hvm
                subst hvm'
                have hget' : S.heap[n]? = some (.map es clock) := hget
                obtain ⟨ents, hb, hme⟩ := h.sim.blk n y _ hy hget'
                refine ⟨ents, hme, ?_⟩
                unfold Instr.lookup lookTail
                simp only [Sem.run_bind, run_underlying hu, Result.andThen_ok, Sem.run_pure, MapKept.run_getObj_map (P := P) hb]
                rfl
              · cases hes
            · cases hes
          obtain ⟨ents, hme, hK⟩ := key
          rw [hK]
          unfold lookTail
          split at hE
          · rename_i hfind
            rcases findNow_ok hf hkv es ents.toList 0 none hme hfind with ⟨_, hnow⟩ | ⟨j, v, v', e', r1, _⟩
            · simp only [Option.map_eq_some_iff] at hE
              obtain ⟨z, hz, rfl⟩ := hE
              obtain ⟨_, zv, hrun, hrel⟩ := hZ.run hz
              simp only [Sem.run_bind, checkKey_ok hd hf hkv, Result.andThen_ok, Instr.findKey, run_underlying hd, hnow, Sem.run_pure, hrun]
              refine ⟨_, rfl, ?_⟩
              cases ok
              · exact hrel g
              · refine ⟨?_, rfl⟩
                simp only [FRel, if_true, Value.cells]
                exact ⟨#[zv, .bool false], rfl, _, _, rfl, (hrel g).1, (hrel g).2, _, _, rfl, by simp [FRel, Value.cells], rfl, rfl⟩
            · cases r1
          · rename_i i v hfind
            rcases findNow_ok hf hkv es ents.toList 0 (some (i, v)) hme hfind with ⟨r1, _⟩ | ⟨j, v0, v', e', r1, hnow, r3, r4, r5⟩
            · cases r1
            · simp only [Nat.zero_add] at r1 hnow
              simp only [Option.some.injEq, Prod.mk.injEq] at r1
              obtain ⟨rfl, rfl⟩ := r1
              cases hE
              simp only [Sem.run_bind, checkKey_ok hd hf hkv, Result.andThen_ok, Instr.findKey, run_underlying hd, hnow, Sem.run_pure]
              refine ⟨_, rfl, ?_⟩
              cases ok
              · exact r3
              · refine ⟨?_, rfl⟩
                simp only [FRel, if_true, Value.cells]
                exact ⟨#[v', .bool true], rfl, _, _, rfl, r3.1, r3.2, _, _, rfl, by simp [FRel, Value.cells], rfl, rfl⟩
          · cases hE
        · cases hE
      · cases hE
    · cases hE
  · cases hE

end
end Go.Av
