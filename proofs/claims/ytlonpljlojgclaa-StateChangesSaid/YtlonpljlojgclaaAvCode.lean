import Derived.Test.YtlonpljlojgclaaAvSound
import Derived.Scope
set_option linter.unusedSimpArgs false
set_option linter.unusedVariables false
namespace Go.Av
open Go

section
variable {P : Program} {N : Nat} {g g' : List G} {bx : Nat → Option G} {S : St} {a : Act} {w w' : World}

theorem CRun.mono {c : Code} {e : XE} {S' : St} (h : CRun P N c S e S') {g : List G} {bx : Nat → Option G} {a : Act} {w : World} (hr : SRel P N g bx S a w) {QQ : Exit → Act → World → Prop}
    (hq : ∀ x a' w', CPost P N g bx S w a e S' x a' w' → QQ x a' w') : c.wp P QQ a w := wp_mono (h g bx a w hr) hq

theorem SRel.weaken {S1 S2 : St} (hw : Weaker S1 S2) (h : SRel P N g bx S2 a w) : ∃ bx', SRel P N g bx' S1 a w ∧ ∀ q r, Own g S1.heap bx' q r → Own g S2.heap bx q r := by
  refine ⟨fun k => match bget S1.box k with | none => none | some _ => bx k, ⟨h.size, fun t => ?_, fun k hk => by simp [hk], fun k c hk => ?_, by rw [hw.heap]; exact h.sim, fun k l x y h1 h2 h3 => ?_, fun k x n y b h1 h2 h3 h4 => ?_⟩, fun q r hr => ?_⟩
  · rcases hw.tmp t with e | e
    · rw [e]; trivial
    · have he := h.env t
      rw [← e] at he
      cases hv : tget S1.tmp t with
      | loc k p T =>
        rw [hv] at he
        obtain ⟨x, hx, hp⟩ := he
        refine ⟨x, ?_, hp⟩
        have := hw.loc t k p T hv
        cases hb : bget S1.box k with
        | none => exact absurd hb this
        | some c => simp only [hb]; exact hx
      | lsl k p s e' l c =>
        rw [hv] at he
        obtain ⟨x, hx, hp⟩ := he
        refine ⟨x, ?_, hp⟩
        have := hw.lsl t k p s e' l c hv
        cases hb : bget S1.box k with
        | none => exact absurd hb this
        | some c => simp only [hb]; exact hx
      | _ => rw [hv] at he; exact he
  · rcases hw.box k with e | e
    · rw [e] at hk; cases hk
    · rw [e] at hk
      obtain ⟨x, hx, hr⟩ := h.box2 k c hk
      exact ⟨x, by rw [e, hk]; exact hx, hr⟩
  · split at h1
    · cases h1
    · split at h2
      · cases h2
      · exact h.dis k l x y h1 h2 h3
  · split at h1
    · cases h1
    · rw [hw.heap] at h3
      exact h.apart k x n y b h1 h2 h3 h4
  · rcases hr with hr | ⟨k, x, h1, h2⟩
    · rw [hw.heap] at hr; exact .inl hr
    · cases hb : bget S1.box k with
      | none => simp [hb] at h1
      | some c => simp only [hb] at h1; exact .inr ⟨k, x, h1, h2⟩

theorem Ext.own_mono {O O' O'' : Bool → Nat → Prop} (h : Ext g O w g' O' w') (hs : ∀ q r, O'' q r → O' q r) : Ext g O w g' O'' w' :=
  ⟨h.le, h.size, fun q r hr hlt => h.own q r (hs q r hr) hlt, h.keep, h.os, h.output, h.tape⟩

theorem CRun.weaken {c : Code} {S1 S2 : St} {e : XE} {S' : St} (h : CRun P N c S1 e S') (hw : Weaker S1 S2) : CRun P N c S2 e S' := by
  intro g bx a w hr
  obtain ⟨bx1, r1, r2⟩ := hr.weaken hw
  refine wp_mono (h g bx1 a w r1) ?_
  rintro x a' w' ⟨g', bx', q1, q2, q3, q4⟩
  exact ⟨g', bx', q1, q2, q3, q4.le, q4.size, fun q r hr' hlt => r2 q r (q4.own q r hr' hlt), fun r hlt hn => q4.keep r hlt (fun ho => hn (r2 true r ho)), q4.os, q4.output, q4.tape⟩

theorem wp_of_normal {x : Exit} (h : ERel P g .normal x) : x = .normal := h

/-- A loop's rounds. -/
inductive Chain (P : Program) (N : Nat) (c : Code) : Nat → St → XE → St → Prop
  | last {S : St} {e : XE} {S' : St} : CRun P N c S e S' → (∀ (_ : e = .normal), False) → Chain P N c 0 S e S'
  | more {n : Nat} {S S1 S2 : St} {e : XE} {S' : St} : CRun P N c S .normal S1 → Weaker S2 S1 → Chain P N c n S2 e S' → Chain P N c (n + 1) S e S'

theorem ERel.not_normal {e : XE} {x : Exit} (h : ERel P g e x) (hne : e = .normal → False) : (∀ K Q (a : Act) (w : World), Exit.then K Q x a w = Q x a w) := by
  intro K Q a w
  cases e with
  | normal => exact (hne rfl).elim
  | exit id => cases h; rfl
  | goto l => cases h; rfl
  | ret => cases h; rfl
  | panic v => obtain ⟨v', rfl, _⟩ := h; rfl

theorem crun_loop {c : Code} {n : Nat} {S : St} {e : XE} {S' : St} (h : Chain P N c n S e S') : CRun P N (.loop c) S e S' := by
  intro g bx a w hr
  refine wp_loop_ghost (fun m a1 w1 => ∃ S1 g1 bx1, Chain P N c m S1 e S' ∧ SRel P N g1 bx1 S1 a1 w1 ∧ a1.defers = a.defers ∧ Ext g (Own g S.heap bx) w g1 (Own g1 S1.heap bx1) w1) n
    ⟨S, g, bx, h, hr, rfl, Ext.refl _ _ _⟩ ?_
  rintro m a1 w1 ⟨S1, g1, bx1, hc, hr1, hd1, he1⟩
  cases hc with
  | last hrun hne =>
    refine hrun.mono hr1 (fun x a' w' hp => ?_)
    have hp' := CPost.trans (P := P) (S := S) (a := a) hd1 he1 hp
    obtain ⟨g', bx', q1, q2⟩ := hp'
    rw [ERel.not_normal q1 hne]
    exact ⟨g', bx', q1, q2⟩
  | more hrun hw hc =>
    rename_i k S2 S3
    refine hrun.mono hr1 (fun x a' w' hp => ?_)
    obtain ⟨g', bx', q1, q2, q3, q4⟩ := hp
    obtain rfl := wp_of_normal q1
    obtain ⟨bx'', r1, r2⟩ := q2.weaken hw
    exact ⟨_, Nat.lt_succ_self _, S3, g', bx'', hc, r1, q3.trans hd1, (he1.trans q4).own_mono r2⟩

theorem crun_seq {x y : Code} {S1 S' : St} {e : XE} (h1 : CRun P N x S .normal S1) (h2 : CRun P N y S1 e S') : CRun P N (.seq x y) S e S' := by
  intro g bx a w hr
  refine wp_seq (h1.mono hr (fun ex a1 w1 hp => ?_))
  obtain ⟨g1, bx1, q1, q2, q3, q4⟩ := hp
  obtain rfl := wp_of_normal q1
  exact h2.mono q2 (fun ex a2 w2 hp => hp.trans q3 q4)

theorem crun_seq_out {x y : Code} {S' : St} {e : XE} (h1 : CRun P N x S e S') (hne : e = .normal → False) : CRun P N (.seq x y) S e S' := by
  intro g bx a w hr
  refine wp_seq (h1.mono hr (fun ex a1 w1 hp => ?_))
  obtain ⟨g1, bx1, q1, q2⟩ := hp
  rw [ERel.not_normal q1 hne]
  exact ⟨g1, bx1, q1, q2⟩

def blockE (id : Nat) : XE → XE
  | .exit id' => if id' = id then .normal else .exit id'
  | e => e

theorem crun_block {id : Nat} {c : Code} {S' : St} {e : XE} (h : CRun P N c S e S') : CRun P N (.block id c) S (blockE id e) S' := by
  intro g bx a w hr
  refine wp_block (h.mono hr (fun ex a1 w1 hp => ?_))
  obtain ⟨g1, bx1, q1, q2⟩ := hp
  cases e with
  | exit id' =>
    cases q1
    by_cases he : id' = id
    · simp only [Exit.inBlock, blockE, he, if_true]; exact ⟨g1, bx1, rfl, q2⟩
    · simp only [Exit.inBlock, blockE, he, if_false]; exact ⟨g1, bx1, rfl, q2⟩
  | normal => cases q1; exact ⟨g1, bx1, rfl, q2⟩
  | goto l => cases q1; exact ⟨g1, bx1, rfl, q2⟩
  | ret => cases q1; exact ⟨g1, bx1, rfl, q2⟩
  | panic v => obtain ⟨v', rfl, hv⟩ := q1; exact ⟨g1, bx1, ⟨v', rfl, hv⟩, q2⟩

theorem crun_cond {c : Operand} {x y : Code} {S' : St} {e : XE} {t : Bool} (hc : evalA S.tmp c = .bool t) (h : CRun P N (if t then x else y) S e S') : CRun P N (.cond c x y) S e S' := by
  intro g bx a w hr
  have h1 := evalA_ok hr c
  rw [hc] at h1
  exact wp_cond (VRel.bool_inv (P := P) (g := g) h1) (h g bx a w hr)

/-- A scope's passes. -/
inductive Jumps (P : Program) (N : Nat) (c : Code) : Code → St → XE → St → Prop
  | last {r : Code} {S : St} {e : XE} {S' : St} : CRun P N r S e S' → (∀ l, e ≠ .goto l) → Jumps P N c r S e S'
  | jump {r r2 : Code} {S S1 S2 : St} {l : Nat} {e : XE} {S' : St} : CRun P N r S (.goto l) S1 → Weaker S2 S1 → findLabel c l = some r2 → Jumps P N c r2 S2 e S' → Jumps P N c r S e S'

theorem jumps_ok {c r : Code} {S : St} {e : XE} {S' : St} (h : Jumps P N c r S e S') : ∀ g bx a w, SRel P N g bx S a w → ∀ b k cs,
    ∃ x a' w', CPost P N g bx S w a e S' x a' w' ∧ Arrives P (lone (b.at a (.code r :: .inScope c :: k)) cs w) b k cs x a' w' := by
  induction h with
  | @last r S e S' hrun hne =>
    intro g bx a w hr b k cs
    obtain ⟨x, a₁, w₁, hq, harr⟩ := hrun g bx a w hr b (.inScope c :: k) cs
    refine ⟨x, a₁, w₁, hq, ?_⟩
    obtain ⟨g', bx', q1, _⟩ := hq
    cases e with
    | normal => cases q1; exact Steps.trans harr (.one step_inScope)
    | exit id => cases q1; exact fun k' hk => harr k' (by simp [exitTo, hk])
    | goto l => exact absurd rfl (hne l)
    | ret => cases q1; exact harr
    | panic v => obtain ⟨v', rfl, _⟩ := q1; exact harr
  | @jump r r2 S S1 S2 l e S' hrun hw hf hj ih =>
    intro g bx a w hr b k cs
    have hg : gotoIn l (.inScope c :: k) = some (.code r2 :: .inScope c :: k) := by simp [gotoIn, hf]
    obtain ⟨x, a₁, w₁, hq, harr⟩ := hrun g bx a w hr b (.inScope c :: k) cs
    obtain ⟨g', bx', q1, q2, q3, q4⟩ := hq
    cases q1
    obtain ⟨bx'', r1, r2⟩ := q2.weaken hw
    obtain ⟨x2, a₂, w₂, hq₂, harr₂⟩ := ih g' bx'' a₁ w₁ r1 b k cs
    exact ⟨x2, a₂, w₂, CPost.trans (P := P) (S := S) (a := a) q3 (q4.own_mono r2) hq₂, .of_steps (harr _ hg) harr₂⟩

theorem crun_scope {c : Code} {S : St} {e : XE} {S' : St} (h : Jumps P N c c S e S') : CRun P N (.scope c) S e S' := by
  intro g bx a w hr b k cs
  obtain ⟨x, a₁, w₁, hq, harr⟩ := jumps_ok h g bx a w hr b k cs
  exact ⟨x, a₁, w₁, hq, .of_steps (.one step_scope) harr⟩

theorem findLabel_has {C : Cfg} : ∀ (c : Code) (sc : SC) (l : Nat), toSC C c = some sc → (findLabel c l).isSome = hasL sc l := by
  intro c
  induction c with
  | seq x y ihx ihy =>
    intro sc l hs
    simp only [toSC] at hs
    cases hx : toSC C x with
    | none => simp [hx] at hs
    | some sx =>
      cases hy : toSC C y with
      | none => simp [hx, hy] at hs
      | some sy =>
        simp only [hx, hy, Option.some.injEq] at hs; subst hs
        have h1 := ihx sx l hx
        have h2 := ihy sy l hy
        simp only [findLabel, hasL, ← h1, ← h2]
        cases findLabel x l <;> simp
  | label l' =>
    intro sc l hs
    simp only [toSC, Option.some.injEq] at hs; subst hs
    simp only [findLabel, hasL]
    split <;> simp_all
  | region id ops d =>
    intro sc l hs
    simp only [toSC] at hs
    split at hs
    · split at hs
      · split at hs
        · simp only [Option.some.injEq] at hs; subst hs; rfl
        · split at hs
          · simp only [Option.some.injEq] at hs; subst hs; rfl
          · cases hs
      · simp only [Option.some.injEq] at hs; subst hs; rfl
    · cases hs
  | cond c x y =>
    intro sc l hs
    simp only [toSC] at hs
    split at hs
    · simp only [Option.some.injEq] at hs; subst hs; rfl
    · cases hs
  | block id b ih => intro sc l hs; simp only [toSC, Option.map_eq_some_iff] at hs; obtain ⟨sb, hb, rfl⟩ := hs; rfl
  | loop b ih => intro sc l hs; simp only [toSC, Option.map_eq_some_iff] at hs; obtain ⟨sb, hb, rfl⟩ := hs; rfl
  | scope b ih => intro sc l hs; simp only [toSC, Option.map_eq_some_iff] at hs; obtain ⟨sb, hb, rfl⟩ := hs; rfl
  | rangeFunc f ps x y _ _ => intro sc l hs; simp [toSC] at hs
  | refuse why => intro sc l hs; simp [toSC] at hs
  | _ => intro sc l hs; simp only [toSC, Option.some.injEq] at hs; subst hs; rfl

/-- A region that draws its order: proved in its own text. -/
def DrawOK (P : Program) : Prop :=
  ∀ (C : Cfg), ZOK P C.Z → ∀ (id : Nat) (ops : Array Oper) (sc : SC) (S : St) (Q : XE → St → Prop),
    toSC C (.region id ops true) = some sc → SWp P C sc Q S → ∃ e S', Q e S' ∧ CRun P C.N (.region id ops true) S e S'

theorem SFrom_has {C : Cfg} : ∀ {sc : SC} {l : Nat} {Q : XE → St → Prop} {S : St}, SFrom P C sc l Q S → hasL sc l = true := by
  intro sc
  induction sc with
  | seq a b iha ihb =>
    intro l Q S h
    simp only [SFrom] at h
    simp only [hasL, Bool.or_eq_true]
    split at h
    · rename_i hl; exact .inl hl
    · exact .inr (ihb h)
  | label l' =>
    intro l Q S h
    simp only [SFrom] at h
    split at h
    · rename_i he; simp [hasL, he]
    · exact h.elim
  | _ => intros; rename_i h; simp only [SFrom] at h

theorem SWp_both (hD : DrawOK P) {C : Cfg} (hZ : ZOK P C.Z) : ∀ (c : Code), (∀ (sc : SC) (S : St) (Q : XE → St → Prop), toSC C c = some sc → SWp P C sc Q S → ∃ e S', Q e S' ∧ CRun P C.N c S e S') ∧
    (∀ (sc : SC) (l : Nat) (S : St) (Q : XE → St → Prop), toSC C c = some sc → SFrom P C sc l Q S → ∃ r e S', findLabel c l = some r ∧ Q e S' ∧ CRun P C.N r S e S') := by
  intro c
  induction c with
  | skip =>
    refine ⟨?_, fun sc l S Q hs hq => ?_⟩
    rotate_left
    · have hh := SFrom_has hq
      rw [← findLabel_has _ _ _ hs] at hh
      simp [findLabel] at hh
    intro sc S Q hs hq
    simp only [toSC, Option.some.injEq] at hs; subst hs
    exact ⟨.normal, S, hq, fun g bx a w hr => wp_skip ⟨g, bx, rfl, hr, rfl, Ext.refl _ _ _⟩⟩
  | region id ops d =>
    refine ⟨?_, fun sc l S Q hs hq => ?_⟩
    rotate_left
    · have hh := SFrom_has hq
      rw [← findLabel_has _ _ _ hs] at hh
      simp [findLabel] at hh
    intro sc S Q hs hq
    have hs0 := hs
    simp only [toSC] at hs
    cases hl : sopsOf C ops ops.toList with
    | none => simp [hl] at hs
    | some l =>
      simp only [hl] at hs
      cases d with
      | false =>
        simp only [Bool.false_eq_true, if_false, Option.some.injEq] at hs; subst hs
        obtain ⟨e, S', q1, q2⟩ := RWp_sound hZ ops ops.toList 0 l S Q (by simp) hl hq
        refine ⟨e, S', q1, fun g bx a w hr => wp_region ?_⟩
        have := q2 g bx a w hr (CPost P C.N g bx S w a e S') (fun _ _ _ h => h)
        rw [List.range_eq_range']
        simpa using this
      | true =>
        exact hD C hZ id ops _ S Q hs0 hq
  | seq x y ihx ihy =>
    refine ⟨?_, fun sc l S Q hs hq => ?_⟩
    rotate_left
    · simp only [toSC] at hs
      cases hx : toSC C x with
      | none => simp [hx] at hs
      | some sx =>
        cases hy : toSC C y with
        | none => simp [hx, hy] at hs
        | some sy =>
          simp only [hx, hy, Option.some.injEq] at hs; subst hs
          simp only [SFrom] at hq
          have hh := findLabel_has x sx l hx
          split at hq
          · rename_i hl
            obtain ⟨r, e, S1, q0, q1, q2⟩ := ihx.2 sx l S _ hx hq
            have hf : findLabel (.seq x y) l = some (.seq r y) := by simp [findLabel, q0]
            cases e with
            | normal =>
              obtain ⟨e, S', r1, r2⟩ := ihy.1 sy S1 Q hy q1
              exact ⟨_, e, S', hf, r1, crun_seq q2 r2⟩
            | exit id => exact ⟨_, _, S1, hf, q1, crun_seq_out q2 (by simp)⟩
            | goto l => exact ⟨_, _, S1, hf, q1, crun_seq_out q2 (by simp)⟩
            | ret => exact ⟨_, _, S1, hf, q1, crun_seq_out q2 (by simp)⟩
            | panic v => exact ⟨_, _, S1, hf, q1, crun_seq_out q2 (by simp)⟩
          · rename_i hl
            obtain ⟨r, e, S1, q0, q1, q2⟩ := ihy.2 sy l S _ hy hq
            have hn : findLabel x l = none := by
              cases hc : findLabel x l with
              | none => rfl
              | some z => rw [hc] at hh; simp at hh; exact absurd hh (by simpa using hl)
            exact ⟨r, e, S1, by simp [findLabel, hn, q0], q1, q2⟩
    intro sc S Q hs hq
    simp only [toSC] at hs
    cases hx : toSC C x with
    | none => simp [hx] at hs
    | some sx =>
      cases hy : toSC C y with
      | none => simp [hx, hy] at hs
      | some sy =>
        simp only [hx, hy, Option.some.injEq] at hs; subst hs
        obtain ⟨e, S1, q1, q2⟩ := ihx.1 sx S _ hx hq
        cases e with
        | normal =>
          obtain ⟨e, S', r1, r2⟩ := ihy.1 sy S1 Q hy q1
          exact ⟨e, S', r1, crun_seq q2 r2⟩
        | exit id => exact ⟨_, S1, q1, crun_seq_out q2 (by simp)⟩
        | goto l => exact ⟨_, S1, q1, crun_seq_out q2 (by simp)⟩
        | ret => exact ⟨_, S1, q1, crun_seq_out q2 (by simp)⟩
        | panic v => exact ⟨_, S1, q1, crun_seq_out q2 (by simp)⟩
  | cond c x y ihx ihy =>
    refine ⟨?_, fun sc l S Q hs hq => ?_⟩
    rotate_left
    · have hh := SFrom_has hq
      rw [← findLabel_has _ _ _ hs] at hh
      simp [findLabel] at hh
    intro sc S Q hs hq
    simp only [toSC] at hs
    cases hx : toSC C x with
    | none => simp [hx] at hs
    | some sx =>
      cases hy : toSC C y with
      | none => simp [hx, hy] at hs
      | some sy =>
        simp only [hx, hy, Option.some.injEq] at hs; subst hs
        simp only [SWp] at hq
        split at hq
        · rename_i t ht
          cases t with
          | true => obtain ⟨e, S', r1, r2⟩ := ihx.1 sx S Q hx (hq.1 rfl); exact ⟨e, S', r1, crun_cond ht (by simpa using r2)⟩
          | false => obtain ⟨e, S', r1, r2⟩ := ihy.1 sy S Q hy (hq.2 rfl); exact ⟨e, S', r1, crun_cond ht (by simpa using r2)⟩
        · exact hq.elim
  | block id b ih =>
    refine ⟨?_, fun sc l S Q hs hq => ?_⟩
    rotate_left
    · have hh := SFrom_has hq
      rw [← findLabel_has _ _ _ hs] at hh
      simp [findLabel] at hh
    intro sc S Q hs hq
    simp only [toSC, Option.map_eq_some_iff] at hs
    obtain ⟨sb, hb, rfl⟩ := hs
    obtain ⟨e, S', r1, r2⟩ := ih.1 sb S _ hb hq
    refine ⟨_, S', ?_, crun_block r2⟩
    cases e with
    | exit id' =>
      by_cases he : id' = id
      · simpa [inBlockK, blockE, he] using r1
      · simpa [inBlockK, blockE, he] using r1
    | _ => exact r1
  | loop b ih =>
    refine ⟨?_, fun sc l S Q hs hq => ?_⟩
    rotate_left
    · have hh := SFrom_has hq
      rw [← findLabel_has _ _ _ hs] at hh
      simp [findLabel] at hh
    intro sc S Q hs hq
    simp only [toSC, Option.map_eq_some_iff] at hs
    obtain ⟨sb, hb, rfl⟩ := hs
    obtain ⟨S0, hw0, n, hn⟩ := hq
    have key : ∀ n S, LoopN (SWp P C sb) n Q S → ∃ m e S', Q e S' ∧ Chain P C.N b m S e S' := by
      intro n
      induction n with
      | zero => intro S h; exact h.elim
      | succ n ihn =>
        intro S h
        simp only [LoopN] at h
        obtain ⟨e, S1, r1, r2⟩ := ih.1 sb S _ hb h
        cases e with
        | normal =>
          obtain ⟨S2, hw, hl⟩ := r1
          obtain ⟨m, e, S', q1, q2⟩ := ihn S2 hl
          exact ⟨m + 1, e, S', q1, .more r2 hw q2⟩
        | exit id => exact ⟨0, _, S1, r1, .last r2 (by simp)⟩
        | goto l => exact ⟨0, _, S1, r1, .last r2 (by simp)⟩
        | ret => exact ⟨0, _, S1, r1, .last r2 (by simp)⟩
        | panic v => exact ⟨0, _, S1, r1, .last r2 (by simp)⟩
    obtain ⟨m, e, S', q1, q2⟩ := key n S0 hn
    exact ⟨e, S', q1, (crun_loop q2).weaken hw0⟩
  | exit id =>
    refine ⟨?_, fun sc l S Q hs hq => ?_⟩
    rotate_left
    · have hh := SFrom_has hq
      rw [← findLabel_has _ _ _ hs] at hh
      simp [findLabel] at hh
    intro sc S Q hs hq
    simp only [toSC, Option.some.injEq] at hs; subst hs
    exact ⟨_, S, hq, fun g bx a w hr => wp_exit ⟨g, bx, rfl, hr, rfl, Ext.refl _ _ _⟩⟩
  | ret =>
    refine ⟨?_, fun sc l S Q hs hq => ?_⟩
    rotate_left
    · have hh := SFrom_has hq
      rw [← findLabel_has _ _ _ hs] at hh
      simp [findLabel] at hh
    intro sc S Q hs hq
    simp only [toSC, Option.some.injEq] at hs; subst hs
    exact ⟨_, S, hq, fun g bx a w hr => wp_ret ⟨g, bx, rfl, hr, rfl, Ext.refl _ _ _⟩⟩
  | scope b ih =>
    refine ⟨?_, fun sc l S Q hs hq => ?_⟩
    rotate_left
    · have hh := SFrom_has hq
      rw [← findLabel_has _ _ _ hs] at hh
      simp [findLabel] at hh
    intro sc S Q hs hq
    simp only [toSC, Option.map_eq_some_iff] at hs
    obtain ⟨sb, hb, rfl⟩ := hs
    simp only [SWp] at hq
    obtain ⟨n, hn⟩ := hq
    have key : ∀ n (r : Code) (S : St) (e : XE) (S1 : St), CRun P C.N r S e S1 → jumpK (fun l => SFrom P C sb l) n Q e S1 → ∃ e' S', Q e' S' ∧ Jumps P C.N b r S e' S' := by
      intro n
      induction n with
      | zero =>
        intro r S e S1 hrun hj
        cases e with
        | goto l => exact hj.elim
        | normal => exact ⟨_, S1, hj, .last hrun (by simp)⟩
        | exit i => exact ⟨_, S1, hj, .last hrun (by simp)⟩
        | ret => exact ⟨_, S1, hj, .last hrun (by simp)⟩
        | panic v => exact ⟨_, S1, hj, .last hrun (by simp)⟩
      | succ n ihn =>
        intro r S e S1 hrun hj
        cases e with
        | goto l =>
          obtain ⟨S2, hw, hf⟩ := hj
          obtain ⟨r2, e2, S3, q0, q1, q2⟩ := ih.2 sb l S2 _ hb hf
          obtain ⟨e', S', q3, q4⟩ := ihn r2 S2 e2 S3 q2 q1
          exact ⟨e', S', q3, .jump hrun hw q0 q4⟩
        | normal => exact ⟨_, S1, hj, .last hrun (by simp)⟩
        | exit i => exact ⟨_, S1, hj, .last hrun (by simp)⟩
        | ret => exact ⟨_, S1, hj, .last hrun (by simp)⟩
        | panic v => exact ⟨_, S1, hj, .last hrun (by simp)⟩
    obtain ⟨e, S1, h1, h2⟩ := ih.1 sb S _ hb hn
    obtain ⟨e', S', q3, q4⟩ := key n b S e S1 h2 h1
    exact ⟨e', S', q3, crun_scope q4⟩
  | label l =>
    refine ⟨?_, fun sc l0 S Q hs hq => ?_⟩
    rotate_left
    · simp only [toSC, Option.some.injEq] at hs; subst hs
      simp only [SFrom] at hq
      split at hq
      · rename_i he
        exact ⟨.skip, .normal, S, by simp [findLabel, he], hq, fun g bx a w hr => wp_skip ⟨g, bx, rfl, hr, rfl, Ext.refl _ _ _⟩⟩
      · exact hq.elim
    intro sc S Q hs hq
    simp only [toSC, Option.some.injEq] at hs; subst hs
    exact ⟨_, S, hq, fun g bx a w hr => wp_label ⟨g, bx, rfl, hr, rfl, Ext.refl _ _ _⟩⟩
  | goto l =>
    refine ⟨?_, fun sc l S Q hs hq => ?_⟩
    rotate_left
    · have hh := SFrom_has hq
      rw [← findLabel_has _ _ _ hs] at hh
      simp [findLabel] at hh
    intro sc S Q hs hq
    simp only [toSC, Option.some.injEq] at hs; subst hs
    exact ⟨_, S, hq, fun g bx a w hr => wp_goto ⟨g, bx, rfl, hr, rfl, Ext.refl _ _ _⟩⟩
  | rangeFunc f ps x y _ _ => exact ⟨fun sc S Q hs hq => by simp [toSC] at hs, fun sc l S Q hs hq => by simp [toSC] at hs⟩
  | refuse why => exact ⟨fun sc S Q hs hq => by simp [toSC] at hs, fun sc l S Q hs hq => by simp [toSC] at hs⟩

theorem SWp_sound (hD : DrawOK P) {C : Cfg} (hZ : ZOK P C.Z) (c : Code) (sc : SC) (S : St) (Q : XE → St → Prop) (hs : toSC C c = some sc) (h : SWp P C sc Q S) : ∃ e S', Q e S' ∧ CRun P C.N c S e S' :=
  (SWp_both hD hZ c).1 sc S Q hs h

/-- A loop, by a measure on what its rounds are about. -/
theorem loopWp_of {P : Program} {C : Cfg} {σ : Type} {b : SC} {Q : XE → St → Prop} (I : σ → St) (ok : σ → Prop) (μ : σ → Nat) (x : σ) {S : St} (hw : S = I x) (hx : ok x)
    (round : ∀ x, ok x → ∀ K : St → Prop, (∀ y S', ok y → μ y < μ x → Weaker (I y) S' → K S') → SWp P C b (thenK K Q) (I x)) : LoopWp (SWp P C b) Q S := by
  subst hw
  have key : ∀ n x, μ x < n → ok x → LoopN (SWp P C b) n Q (I x) := by
    intro n
    induction n with
    | zero => intro x h; omega
    | succ n ih =>
      intro x hlt hx
      exact round x hx _ (fun y S' hy hlt' hwk => ⟨I y, hwk, ih y (by omega) hy⟩)
  exact ⟨μ x + 1, key _ x (by omega) hx⟩

/-! ### Functions -/

def resultA (S : St) : ResultVar → Option AV
  | .tmp t => if (tget S.tmp t).free then some (tget S.tmp t) else none
  | .cell t T => loadA S.view T (tget S.tmp t)

def resultsA (S : St) (rs : List ResultVar) : Option AV :=
  match rs with
  | [r] => resultA S r
  | rs => (rs.mapM (resultA S)).map .tup

def finK (rs : List ResultVar) (R : Out → Heap → Prop) : XE → St → Prop
  | .normal, S | .ret, S => match resultsA S rs with
    | some v => R (.ret v) S.heap
    | none => False
  | .panic v, S => R (.panic v) S.heap
  | _, _ => False

def argSlots : Nat → List AV → List (Nat × AV)
  | _, [] => []
  | k, v :: l => (k, v) :: argSlots (k + 1) l

theorem argSlots_get : ∀ (l : List AV) (k t : Nat), tget (argSlots k l) t = if k ≤ t ∧ t < k + l.length then l.getD (t - k) .junk else .junk
  | [], k, t => by simp [argSlots, tget]
  | v :: l, k, t => by
      simp only [argSlots, tget]
      by_cases h : t = k
      · subst h; simp
      · simp only [h, if_false]
        rw [argSlots_get l (k + 1) t]
        by_cases h1 : k ≤ t ∧ t < k + (v :: l).length
        · obtain ⟨h2, h3⟩ := h1
          simp only [List.length_cons] at h3
          have h4 : t - k = (t - (k + 1)) + 1 := by omega
          rw [if_pos ⟨by omega, by omega⟩, if_pos ⟨h2, by simp; omega⟩, h4]
          simp
        · have : ¬ (k + 1 ≤ t ∧ t < k + 1 + l.length) := by simp only [List.length_cons] at h1; omega
          rw [if_neg this, if_neg h1]

theorem TRelL.len : (l : List AV) → (vs : List Value) → TRelL P g l vs → l.length = vs.length
  | [], vs, h => by simp only [TRelL] at h; subst h; rfl
  | v :: l, vs, h => by
      simp only [TRelL] at h
      obtain ⟨v', r', rfl, _, _, h3⟩ := h
      simp [TRelL.len l r' h3]

theorem resultA_ok (h : SRel P N g bx S a w) {r : ResultVar} {v : AV} (hr : resultA S r = some v) (F : ResultVar → Sem Value) (h1 : ∀ t, F (.tmp t) = pure (a.tmps.getD t undef))
    (h2 : ∀ t T, F (.cell t T) = (do loadVar T (← asAddr (a.tmps.getD t undef)))) : ∃ v', (F r).run P w = .ok v' w ∧ VRel P g v v' := by
  cases r with
  | tmp t =>
    simp only [resultA] at hr
    split at hr
    · rename_i hf
      cases hr
      exact ⟨_, by rw [h1]; rfl, VRelE.VRel hf (h.env t)⟩
    · cases hr
  | cell t T =>
    simp only [resultA] at hr
    obtain ⟨v', k1, k2⟩ := loadA_ok h hr (h.env t)
    refine ⟨v', ?_, k2⟩
    have : ∃ ad, a.tmps.getD t undef = .pointer (some ad) := by
      have he := h.env t
      unfold loadA at hr
      split at hr
      · rename_i n p T' hv
        rw [hv] at he
        have he' : VRel P g (.ptr (some (n, p, T'))) _ := he
        have := he'.leaf rfl
        simp only [FRel] at this
        obtain ⟨y, v1, e1, e2, o, e3, e4, rfl⟩ := this
        exact ⟨_, by simpa using e2⟩
      · rename_i k p T' hv
        rw [hv] at he
        obtain ⟨y, e1, o, e3, e4, e2⟩ := he
        exact ⟨_, e2⟩
      · cases hr
    obtain ⟨ad, had⟩ := this
    rw [had] at k1
    rw [h2, had]
    simp only [Sem.run_bind, asAddr, Sem.run_pure, Result.andThen_ok]
    simpa [Instr.loadAt, Instr.sureAddr] using k1

theorem resultsMany (h : SRel P N g bx S a w) (F : ResultVar → Sem Value) (h1 : ∀ t, F (.tmp t) = pure (a.tmps.getD t undef))
    (h2 : ∀ t T, F (.cell t T) = (do loadVar T (← asAddr (a.tmps.getD t undef)))) : ∀ (rs : List ResultVar) (vs : List AV), rs.mapM (resultA S) = some vs →
      ∃ vs', (rs.mapM F).run P w = .ok vs' w ∧ TRelL P g vs vs' ∧ vs.length = rs.length := by
  intro rs
  induction rs with
  | nil => intro vs hv; simp at hv; subst hv; exact ⟨[], by simp, rfl, rfl⟩
  | cons r rs ih =>
    intro vs hv
    rw [List.mapM_cons] at hv
    simp only [bind, Option.bind_eq_some_iff, pure, Option.some.injEq] at hv
    obtain ⟨x, hx, xs, hxs, rfl⟩ := hv
    obtain ⟨x', p1, p2⟩ := resultA_ok h hx F h1 h2
    obtain ⟨xs', q1, q2, q3⟩ := ih xs hxs
    refine ⟨x' :: xs', ?_, ⟨x', xs', rfl, p2.1, p2.2, q2⟩, by simp [q3]⟩
    rw [List.mapM_cons, Sem.run_bind, p1, Result.andThen_ok, Sem.run_bind, q1]
    rfl

theorem resultsA_ok (h : SRel P N g bx S a w) {fn : Func} {v : AV} (hr : resultsA S fn.results.toList = some v) :
    ∃ v', (results fn a.tmps).run P w = .ok v' w ∧ VRel P g v v' := by
  unfold results
  rw [Array.mapM_eq_mapM_toList, Sem.run_bind, Sem.run_map]
  generalize hF : (fun (r : ResultVar) => (match r with | .tmp t => pure (a.tmps.getD t undef) | .cell t T => (do loadVar T (← asAddr (a.tmps.getD t undef))) : Sem Value)) = F
  have h1 : ∀ t, F (.tmp t) = pure (a.tmps.getD t undef) := fun t => by rw [← hF]
  have h2 : ∀ t T, F (.cell t T) = (do loadVar T (← asAddr (a.tmps.getD t undef))) := fun t T => by rw [← hF]
  unfold resultsA at hr
  split at hr
  · rename_i r hrs
    obtain ⟨v', k1, k2⟩ := resultA_ok h hr F h1 h2
    refine ⟨v', ?_, k2⟩
    rw [hrs, List.mapM_cons, Sem.run_bind, k1]
    simp
  · rename_i hne
    simp only [Option.map_eq_some_iff] at hr
    obtain ⟨vs, hvs, rfl⟩ := hr
    obtain ⟨vs', k1, k2, k3⟩ := resultsMany h F h1 h2 _ vs hvs
    rw [k1]
    simp only [Result.andThen_ok, Sem.run_pure]
    have hlen : vs'.length ≠ 1 := by
      intro h1
      have hl := TRelL.len _ _ k2
      match hrs : fn.results.toList with
      | [] => rw [hrs] at k3; simp only [List.length_nil] at k3; omega
      | [r] => exact hne r hrs
      | _ :: _ :: _ => rw [hrs] at k3; simp only [List.length_cons] at k3; omega
    refine ⟨.tuple vs'.toArray, ?_, VRel.of_cell rfl ?_⟩
    · rw [dif_neg (by simpa using hlen)]
    · simp only [FRel]; exact ⟨_, rfl, by simpa using k2⟩

/-- A function, by its body. -/
theorem callRuns_of_body (hD : DrawOK P) {C : Cfg} (hZ : ZOK P C.Z) {f : FuncId} {fn : Func} {c : Code} {sc : SC} (hf : P.funcs[f]? = some fn) (hb : fn.body = some c) (hN : fn.ntmps = C.N)
    (hok : callOK P f) (hsc : toSC C c = some sc) {args : List AV} (hlen : args.length ≤ C.N) {H : Heap} {R : Out → Heap → Prop}
    (h : SWp P C sc (finK fn.results.toList R) ⟨argSlots 0 args, [], H⟩) : ∃ out H', CallRuns P f args H out H' ∧ R out H' := by
  obtain ⟨e, S', hq, hrun⟩ := SWp_sound hD hZ c sc _ _ hsc h
  have start : ∀ g w args', Sim P g H w → TRelL P g args args' →
      SRel P C.N g (fun _ => none) ⟨argSlots 0 args, [], H⟩ { tmps := args'.toArray ++ Array.replicate (fn.ntmps - args'.toArray.size) undef, defers := [] } w := by
    intro g w args' hs ha
    have hl := TRelL.len _ _ ha
    refine ⟨by simp; omega, fun t => ?_, fun k _ => rfl, fun k c hk => by simp [bget] at hk, hs, fun k l x y h1 => by simp at h1, fun k x n y b h1 => by simp at h1⟩
    rw [argSlots_get]
    simp only [Nat.zero_le, true_and, Nat.zero_add, Nat.sub_zero]
    split
    · rename_i ht
      have hx : args[t]? = some args[t] := List.getElem?_eq_getElem ht
      obtain ⟨x', q1, q2⟩ := TRelL.get _ _ ha t _ hx
      have hlt : t < args'.length := by omega
      have e1 : args.getD t .junk = args[t] := by simp [List.getD, ht]
      have e2 : (args'.toArray ++ Array.replicate (fn.ntmps - args'.toArray.size) undef).getD t undef = x' := by
        have : args'[t]? = some args'[t] := List.getElem?_eq_getElem hlt
        rw [q1] at this
        simp only [Option.some.injEq] at this
        simp [Array.getElem?_append, hlt, this]
      rw [e1, e2]
      exact VRelE.of_VRel q2
    · trivial
  have fin : ∀ g w args', Sim P g H w → ∀ out H', (∀ x a' w' g' bx', ERel P g' e x → SRel P C.N g' bx' S' a' w' → a'.defers = [] → Ext g (Own g H fun _ => none) w g' (Own g' S'.heap bx') w' →
      bodyPost P fn (fun e w' => ∃ g', ORel P g' out e ∧ Sim P g' H' w' ∧ Ext g (OwnH g H) w g' (OwnH g' H') w') x a' w') → TRelL P g args args' →
      Calls P f args'.toArray w (fun e w' => ∃ g', ORel P g' out e ∧ Sim P g' H' w' ∧ Ext g (OwnH g H) w g' (OwnH g' H') w') := by
    intro g w args' hs out H' hpost ha
    refine calls_of_wp hf hb (hrun.mono (start g w args' hs ha) (fun x a' w' hp => ?_))
    obtain ⟨g', bx', q1, q2, q3, q4⟩ := hp
    exact hpost x a' w' g' bx' q1 q2 q3 q4
  have ext : ∀ {g w g' bx' w'}, Ext g (Own g H fun _ => none) w g' (Own g' S'.heap bx') w' → Ext g (OwnH g H) w g' (OwnH g' S'.heap) w' := by
    intro g w g' bx' w' he
    have hsame : ∀ q r, Own g H (fun _ => none) q r ↔ OwnH g H q r := fun q r => ⟨fun h => h.elim id (fun ⟨k, x, h1, _⟩ => by simp at h1), .inl⟩
    exact ⟨he.le, he.size, fun q r hr hlt => (hsame q r).1 (he.own q r (.inl hr) hlt), fun r hlt hn => he.keep r hlt (fun ho => hn ((hsame true r).1 ho)), he.os, he.output, he.tape⟩
  have ends : ∀ e, (e = XE.normal ∨ e = .ret) → finK fn.results.toList R e S' → ∃ v, resultsA S' fn.results.toList = some v ∧ R (.ret v) S'.heap := by
    intro e he hq
    rcases he with rfl | rfl <;>
    · simp only [finK] at hq
      split at hq
      · exact ⟨_, by assumption, hq⟩
      · exact hq.elim
  cases e with
  | normal =>
    obtain ⟨v, hv, hR⟩ := ends _ (.inl rfl) hq
    refine ⟨.ret v, S'.heap, ⟨hok, fun g w args' hs ha => fin g w args' hs _ _ (fun x a' w' g' bx' q1 q2 q3 q4 => ?_) ha⟩, hR⟩
    cases q1
    obtain ⟨v', k1, k2⟩ := resultsA_ok q2 hv
    exact ⟨q3, v', k1, g', ⟨v', rfl, k2⟩, q2.sim, ext q4⟩
  | ret =>
    obtain ⟨v, hv, hR⟩ := ends _ (.inr rfl) hq
    refine ⟨.ret v, S'.heap, ⟨hok, fun g w args' hs ha => fin g w args' hs _ _ (fun x a' w' g' bx' q1 q2 q3 q4 => ?_) ha⟩, hR⟩
    cases q1
    obtain ⟨v', k1, k2⟩ := resultsA_ok q2 hv
    exact ⟨q3, v', k1, g', ⟨v', rfl, k2⟩, q2.sim, ext q4⟩
  | panic v =>
    refine ⟨.panic v, S'.heap, ⟨hok, fun g w args' hs ha => fin g w args' hs _ _ (fun x a' w' g' bx' q1 q2 q3 q4 => ?_) ha⟩, hq⟩
    obtain ⟨v', rfl, hv⟩ := q1
    exact ⟨q3, g', ⟨v', rfl, hv⟩, q2.sim, ext q4⟩
  | exit id => exact hq.elim
  | goto l => exact hq.elim

end
end Go.Av
