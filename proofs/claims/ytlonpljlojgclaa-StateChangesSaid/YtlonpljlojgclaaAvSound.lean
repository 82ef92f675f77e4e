import Derived.Test.YtlonpljlojgclaaAvRun
set_option linter.unusedSimpArgs false
set_option linter.unusedVariables false
namespace Go.Av
open Go

section
variable {P : Program} {N : Nat} {g g' : List G} {bx : Nat → Option G} {S : St} {a : Act} {w w' : World}

theorem SRel.putO (h : SRel P N g bx S a w) {d : Option Nat} {v : AV} {v' : Value} (hd : d.all (· < N) = true) (hv : VRelE P g bx v v') : SRel P N g bx (S.putO d v) (a.put d v') w := by
  cases d with
  | none => exact h
  | some d => exact h.put (by simpa using hd) hv

theorem putO_heap (S : St) (d : Option Nat) (v : AV) : (S.putO d v).heap = S.heap := by cases d <;> rfl
theorem putO_box (S : St) (d : Option Nat) (v : AV) : (S.putO d v).box = S.box := by cases d <;> rfl
theorem put_defers (a : Act) (d : Option Nat) (v : Value) : (a.put d v).defers = a.defers := by cases d <;> rfl

theorem VRelE.undef : VRelE P g bx undefA Go.undef := VRelE.of_VRel VRel.undef

/-- Behind a call. -/
theorem SRel.call (h : SRel P N g bx S a w) {H' : Heap} (hs : Sim P g' H' w') (he : Ext g (OwnH g S.heap) w g' (OwnH g' H') w') :
    SRel P N g' bx { S with heap := H' } a w' ∧ Ext g (Own g S.heap bx) w g' (Own g' H' bx) w' := by
  have old : ∀ k x, bx k = some x → w'.heap[x.blk]? = w.heap[x.blk]? := fun k x hk => he.keep _ (h.box_lt hk) (h.box_not_own hk true)
  refine ⟨⟨h.size, fun t => (h.env t).mono he.le, h.box1, fun k c hc => ?_, hs, h.dis, fun k x n y b h1 h2 h3 h4 h5 => ?_⟩, he.le, he.size, fun q r hr hlt => ?_, fun r hlt hn => he.keep r hlt (fun ho => hn (.inl ho)), he.os, he.output, he.tape⟩
  · obtain ⟨x, hx, hr⟩ := h.box2 k c hc
    exact ⟨x, hx, by rw [old k x hx]; exact hr.mono he.le⟩
  · exact h.box_not_own h1 false (he.own false _ ⟨n, y, b, h2, h3, h4, h5.symm⟩ (h.box_lt h1))
  · rcases hr with hr | hr
    · exact .inl (he.own q r hr hlt)
    · exact .inr hr

/-- Composition. -/
theorem CPost.trans {S1 S' : St} {g1 : List G} {bx1 : Nat → Option G} {a1 : Act} {w1 : World} {e : XE} (hd : a1.defers = a.defers) (he : Ext g (Own g S.heap bx) w g1 (Own g1 S1.heap bx1) w1)
    {x : Exit} {a2 : Act} {w2 : World} (h : CPost P N g1 bx1 S1 w1 a1 e S' x a2 w2) : CPost P N g bx S w a e S' x a2 w2 := by
  obtain ⟨g', bx', h1, h2, h3, h4⟩ := h
  exact ⟨g', bx', h1, h2, h3.trans hd, he.trans h4⟩

theorem TRelL.append : (l m : List AV) → (xs ys : List Value) → TRelL P g l xs → TRelL P g m ys → TRelL P g (l ++ m) (xs ++ ys)
  | [], m, xs, ys, h1, h2 => by simp only [TRelL] at h1; subst h1; simpa using h2
  | v :: l, m, xs, ys, h1, h2 => by
      simp only [TRelL, List.cons_append] at h1 ⊢
      obtain ⟨v', r', rfl, q1, q2, q3⟩ := h1
      exact ⟨v', r' ++ ys, rfl, q1, q2, TRelL.append l m r' ys q3 h2⟩

theorem args_rel (h : SRel P N g bx S a w) : (as : List Operand) → freeAll (as.map (evalA S.tmp)) = true → TRelL P g (as.map (evalA S.tmp)) (as.map a.eval)
  | [], _ => rfl
  | x :: as, hf => by
      simp only [List.map_cons, freeAll, Bool.and_eq_true] at hf
      simp only [List.map_cons, TRelL]
      have := VRelE.VRel hf.1 (evalA_ok h x)
      exact ⟨_, _, rfl, this.1, this.2, args_rel h as hf.2⟩

theorem opRun_wp {o : Oper} {v : Value} {next : Act → World → Prop} {Q : Exit → Act → World → Prop} (h : OpRun P o a w v w') (hn : next (a.put o.dst v) w') : o.wp P a w next Q := by
  unfold Oper.wp
  rcases h with h | ⟨h, rfl⟩
  · rw [h]; exact hn
  · rw [h]; exact hn

/-- What a step says of the real run of an operation. -/
theorem stepA_sound {C : Cfg} (hZ : ZOK P C.Z) {o : Oper} {s : SOp} (hdst : s.dst = o.dst) (hop : s.op = o.op) (hd : o.dst.all (· < C.N) = true) {K : St → Prop} {Q : XE → St → Prop} (hs : stepA P C s S K Q) :
    (∃ S', K S' ∧ (∃ v H bxs, S' = ({ S with box := bxs, heap := H }).putO o.dst v) ∧ ∀ g bx a w, SRel P C.N g bx S a w → ∀ (next : Act → World → Prop) (QQ : Exit → Act → World → Prop),
      (∀ g' bx' a' w', SRel P C.N g' bx' S' a' w' → a'.defers = a.defers → Ext g (Own g S.heap bx) w g' (Own g' S'.heap bx') w' → next a' w') → o.wp P a w next QQ) ∨
    (∃ v S', Q (.panic v) S' ∧ ∀ g bx a w, SRel P C.N g bx S a w → ∀ (next : Act → World → Prop) (QQ : Exit → Act → World → Prop),
      (∀ x a' w', CPost P C.N g bx S w a (.panic v) S' x a' w' → QQ x a' w') → o.wp P a w next QQ) := by
  have light : ∀ E, opFn P C s.dst s.op S.view = some E → K ((S.app E).putO s.dst E.v) →
      (∃ S', K S' ∧ (∃ v H bxs, S' = ({ S with box := bxs, heap := H }).putO o.dst v) ∧ ∀ g bx a w, SRel P C.N g bx S a w → ∀ (next : Act → World → Prop) (QQ : Exit → Act → World → Prop),
      (∀ g' bx' a' w', SRel P C.N g' bx' S' a' w' → a'.defers = a.defers → Ext g (Own g S.heap bx) w g' (Own g' S'.heap bx') w' → next a' w') → o.wp P a w next QQ) := by
    intro E hE hK
    rw [hdst] at hK
    refine ⟨_, hK, ⟨E.v, _, _, rfl⟩, fun g bx a w hr next QQ hn => ?_⟩
    rw [hdst, hop] at hE
    obtain ⟨v', w', g', bx', k1, k2, k3, k4⟩ := opFn_ok hZ hr hE
    exact opRun_wp k1 (hn g' bx' _ _ (k3.putO hd k2) (put_defers _ _ _) (by rw [putO_heap]; exact k4))
  unfold stepA at hs
  split at hs
  · rename_i f as ts hopc
    rw [hop] at hopc
    split at hs
    · rename_i fn x y hcal
      obtain ⟨hfree, out, H', hc, hK⟩ := hs
      have hf : evalA S.tmp f = .fn (.func fn) x y := by
        unfold calleeA at hcal
        split at hcal
        · rename_i f' a' b' he
          simp only [Option.some.injEq, Prod.mk.injEq] at hcal
          obtain ⟨rfl, rfl, rfl⟩ := hcal
          exact he
        · cases hcal
      have run : ∀ g bx a w, SRel P C.N g bx S a w → ∃ args', TRelL P g (x ++ as.toList.map (evalA S.tmp) ++ y) args' ∧ (execOp a.eval o).run P w = .ok (.enter fn args'.toArray) w := by
        intro g bx a w hr
        have h1 := evalA_ok hr f
        rw [hf] at h1
        have h2 : VRel P g (.fn (.func fn) x y) (a.eval f) := h1
        have h3 := h2.leaf rfl
        simp only [FRel] at h3
        obtain ⟨a', b', e1, e2, e3⟩ := h3
        have e1' : a.eval f = .func (.func fn) a' b' := by simpa using e1
        refine ⟨a'.toList ++ as.toList.map a.eval ++ b'.toList, (e2.append _ _ _ _ (args_rel hr as.toList hfree)).append _ _ _ _ e3, ?_⟩
        have hca := hc.ok (a' ++ as.map a.eval ++ b') w
        unfold execOp
        simp only [hopc, resolve, e1', Deferred.ofValue, Sem.run_bind, Sem.run_pure, Result.andThen_ok, invoke, hca]
        congr 2
        apply Array.ext'
        simp
      cases out with
      | ret v =>
        left
        simp only at hK
        rw [hdst] at hK
        refine ⟨_, hK, ⟨v, _, _, rfl⟩, fun g bx a w hr next QQ hn => ?_⟩
        obtain ⟨args', ha, hrun⟩ := run g bx a w hr
        unfold Oper.wp
        rw [hrun, Oper.upon_enter]
        refine (hc.run g w args' hr.sim ha).mono ?_
        rintro e w'' ⟨g', ⟨v', rfl, hv⟩, hsim, hext⟩
        obtain ⟨q1, q2⟩ := hr.call hsim hext
        exact hn g' bx _ _ (q1.putO hd (VRelE.of_VRel hv)) (put_defers _ _ _) (by rw [putO_heap]; exact q2)
      | panic v =>
        right
        simp only at hK
        refine ⟨v, _, hK, fun g bx a w hr next QQ hn => ?_⟩
        obtain ⟨args', ha, hrun⟩ := run g bx a w hr
        unfold Oper.wp
        rw [hrun, Oper.upon_enter]
        refine (hc.run g w args' hr.sim ha).mono ?_
        rintro e w'' ⟨g', ⟨v', rfl, hv⟩, hsim, hext⟩
        obtain ⟨q1, q2⟩ := hr.call hsim hext
        exact hn _ _ _ ⟨g', bx, ⟨v', rfl, hv⟩, q1, rfl, q2⟩
    · exact hs.elim
  · rename_i x hopc
    rw [hop] at hopc
    split at hs
    · rename_i t v hx
      right
      refine ⟨_, S, hs, fun g bx a w hr next QQ hn => ?_⟩
      have h1 := evalA_ok hr x
      rw [hx] at h1
      have h2 : VRel P g (.ifc t v) (a.eval x) := h1
      have h3 := h2.leaf rfl
      simp only [FRel] at h3
      obtain ⟨v', e1, e2, e3⟩ := h3
      have e1' : a.eval x = .iface t v' := by simpa using e1
      unfold Oper.wp execOp
      simp only [hopc, Sem.run_bind, e1', Instr.panic, run_goPanic, Result.andThen_halt, Oper.upon_panic]
      exact hn _ _ _ ⟨g, bx, ⟨_, rfl, by rw [← e1']; exact h2⟩, hr, rfl, Ext.refl _ _ _⟩
    · exact hs.elim
  · left
    split at hs
    · rename_i E hE
      exact light E hE hs
    · exact hs.elim

/-- A guard, on both sides. -/
theorem guard_ok {C : Cfg} (h : SRel P C.N g bx S a w) {ops : Array Oper} {o : Oper} {gd : Option (Nat × Bool)} (hg : guardOf ops o o.guard = some gd) {b : Bool} (hb : guardA S gd = some b) :
    Region.wanted o (yielded ops a.tmps) = b := by
  unfold guardOf at hg
  unfold Region.wanted
  cases ho : o.guard with
  | none => simp only [ho, Option.some.injEq] at hg; subst hg; simp only [guardA, Option.some.injEq] at hb; exact hb
  | some jw =>
    obtain ⟨j, want⟩ := jw
    simp only [ho] at hg
    cases hd : (ops[j]?).bind (·.dst) with
    | none => simp [hd] at hg
    | some d =>
      simp only [hd, Option.some.injEq] at hg
      subst hg
      simp only [guardA] at hb
      have henv := h.env d
      simp only [yielded, hd, Option.bind_some]
      split at hb
      · rename_i bb hbb
        rw [hbb] at henv
        have hv := VRel.bool_inv (P := P) (g := g) henv
        simp only [Option.some.injEq] at hb
        subst hb
        have hlt : d < a.tmps.size := by
          rcases Nat.lt_or_ge d a.tmps.size with h' | h'
          · exact h'
          · simp [Array.getElem?_eq_none h', Go.undef] at hv
        have : a.tmps[d]? = some (.bool bb) := by
          simp only [Array.getD_eq_getD_getElem?, Array.getElem?_eq_getElem hlt, Option.getD_some] at hv
          rw [Array.getElem?_eq_getElem hlt, hv]
        rw [this]
        simp
      · rename_i hbb
        rw [hbb] at henv
        obtain ⟨vs, hv, hr⟩ := VRel.tup_inv (P := P) (g := g) henv
        simp only [Option.some.injEq] at hb
        subst hb
        cases ht : a.tmps[d]? with
        | none => rfl
        | some x =>
          simp only [Array.getD_eq_getD_getElem?, ht, Option.getD_some] at hv
          rw [hv]
          rfl
      · cases hb

theorem sopOf_spec {C : Cfg} {ops : Array Oper} {o : Oper} {s : SOp} (h : sopOf C ops o = some s) : o.dst.all (· < C.N) = true ∧ s.dst = o.dst ∧ s.op = o.op ∧ guardOf ops o o.guard = some s.g := by
  unfold sopOf at h
  split at h
  · rename_i hd
    split at h
    · rename_i gd hg
      cases h
      exact ⟨hd, rfl, rfl, hg⟩
    · cases h
  · cases h

/-- The operations of a region, one by one. -/
theorem RWp_sound {C : Cfg} (hZ : ZOK P C.Z) (ops : Array Oper) : ∀ (l : List Oper) (k : Nat) (ss : List SOp) (S : St) (Q : XE → St → Prop), (∀ j, l[j]? = ops[k + j]?) → sopsOf C ops l = some ss → RWp P C ss Q S →
    ∃ e S', Q e S' ∧ ∀ g bx a w, SRel P C.N g bx S a w → ∀ QQ : Exit → Act → World → Prop, (∀ x a' w', CPost P C.N g bx S w a e S' x a' w' → QQ x a' w') → wpOps P ops QQ (List.range' k l.length) a w
  | [], k, ss, S, Q, hl, hs, hq => by
      simp only [sopsOf, Option.some.injEq] at hs
      subst hs
      exact ⟨.normal, S, hq, fun g bx a w hr QQ hn => hn _ _ _ ⟨g, bx, rfl, hr, rfl, Ext.refl _ _ _⟩⟩
  | o :: l, k, ss, S, Q, hl, hs, hq => by
      have h0 : ops[k]? = some o := by simpa using (hl 0).symm
      have hl' : ∀ j, l[j]? = ops[k + 1 + j]? := fun j => by have := hl (j + 1); simpa [Nat.add_assoc, Nat.add_comm 1 j] using this
      simp only [sopsOf] at hs
      cases hx : sopOf C ops o with
      | none => simp [hx] at hs
      | some s =>
        cases hy : sopsOf C ops l with
        | none => simp [hx, hy] at hs
        | some sr =>
          simp only [hx, hy, Option.some.injEq] at hs
          subst hs
          obtain ⟨hd, e1, e2, e3⟩ := sopOf_spec hx
          simp only [RWp] at hq
          cases hg : guardA S s.g with
          | none => simp [hg] at hq
          | some b =>
            cases b with
            | true =>
              simp only [hg] at hq
              rcases stepA_sound hZ e1 e2 hd hq with ⟨S1, hK, _, hrun⟩ | ⟨v, S1, hQ, hrun⟩
              · obtain ⟨e, S', q1, q2⟩ := RWp_sound hZ ops l (k + 1) sr S1 Q hl' hy hK
                refine ⟨e, S', q1, fun g bx a w hr QQ hn => ?_⟩
                have hw : Region.wanted o (yielded ops a.tmps) = true := guard_ok hr e3 hg
                simp only [List.length_cons, List.range'_succ, wpOps, h0, hw, if_true]
                left
                exact hrun g bx a w hr _ _ (fun g' bx' a' w' hr' hdf hext => q2 g' bx' a' w' hr' QQ (fun x a2 w2 hc => hn x a2 w2 (hc.trans hdf hext)))
              · refine ⟨_, S1, hQ, fun g bx a w hr QQ hn => ?_⟩
                have hw : Region.wanted o (yielded ops a.tmps) = true := guard_ok hr e3 hg
                simp only [List.length_cons, List.range'_succ, wpOps, h0, hw, if_true]
                left
                exact hrun g bx a w hr _ _ hn
            | false =>
              simp only [hg] at hq
              obtain ⟨e, S', q1, q2⟩ := RWp_sound hZ ops l (k + 1) sr _ Q hl' hy hq
              refine ⟨e, S', q1, fun g bx a w hr QQ hn => ?_⟩
              have hw : Region.wanted o (yielded ops a.tmps) = false := guard_ok hr e3 hg
              simp only [List.length_cons, List.range'_succ, wpOps, h0, hw, Bool.false_eq_true, if_false]
              rw [← e1]
              have hr' : SRel P C.N g bx (S.putO s.dst undefA) (a.put s.dst undef) w := hr.putO (by rw [e1]; exact hd) VRelE.undef
              refine q2 g bx _ w hr' QQ (fun x a2 w2 hc => hn x a2 w2 (hc.trans (put_defers _ _ _) ?_))
              rw [putO_heap]
              exact Ext.refl _ _ _

end
end Go.Av
