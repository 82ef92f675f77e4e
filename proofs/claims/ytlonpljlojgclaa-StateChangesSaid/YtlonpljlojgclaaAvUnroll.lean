import Derived.Test.YtlonpljlojgclaaAvNum
set_option linter.unusedSimpArgs false
set_option linter.unusedVariables false
namespace Go.Av
open Go

/-! ## A run has one end; loops round by round -/

section
variable {P : Program} {C : Cfg}

theorem effK_det {E : Option Eff} {d : Option Nat} {S : St} {K : St → Prop} (h : effK E d S K .mk .mk) : ∃ S', K S' ∧ ∀ K' : St → Prop, K' S' → effK E d S K' .mk .mk := by
  cases E with
  | none => exact h.elim
  | some E => exact ⟨_, h, fun K' h' => h'⟩

theorem stepA_det {o : SOp} {S : St} {K : St → Prop} {Q : XE → St → Prop} (h : stepA P C o S K Q) :
    (∃ S', K S' ∧ ∀ (K' : St → Prop) (Q' : XE → St → Prop), K' S' → stepA P C o S K' Q') ∨
    (∃ v S', Q (.panic v) S' ∧ ∀ (K' : St → Prop) (Q' : XE → St → Prop), Q' (.panic v) S' → stepA P C o S K' Q') := by
  unfold stepA at h
  split at h
  · rename_i f as ts hop
    split at h
    · rename_i hc
      obtain ⟨hf, out, H', hr, hk⟩ := h
      cases out with
      | ret v => exact .inl ⟨_, hk, fun K' Q' h' => by unfold stepA; simp only [hop, hc]; exact ⟨hf, _, _, hr, h'⟩⟩
      | panic v => exact .inr ⟨_, _, hk, fun K' Q' h' => by unfold stepA; simp only [hop, hc]; exact ⟨hf, _, _, hr, h'⟩⟩
    · exact h.elim
  · rename_i x hop
    split at h
    · rename_i hx
      exact .inr ⟨_, _, h, fun K' Q' h' => by unfold stepA; simp only [hop, hx]; exact h'⟩
    · exact h.elim
  · rename_i op hn1 hn2
    split at h
    · rename_i hx
      refine .inl ⟨_, h, fun K' Q' h' => ?_⟩
      unfold stepA
      split
      · rename_i heq; exact absurd heq (hn1 _ _ _)
      · rename_i heq; exact absurd heq (hn2 _)
      · simp only [hx]; exact h'
    · exact h.elim

theorem RWp_det : ∀ (l : List SOp) (S : St) (Q : XE → St → Prop), RWp P C l Q S → ∃ e S', Q e S' ∧ ∀ Q' : XE → St → Prop, Q' e S' → RWp P C l Q' S
  | [], S, Q, h => ⟨.normal, S, h, fun Q' h' => h'⟩
  | o :: r, S, Q, h => by
      rw [RWp_cons] at h
      simp only [RWp_cons]
      cases hg : guardA S o.g with
      | none => rw [hg] at h; exact h.elim
      | some b =>
        rw [hg] at h
        cases b with
        | true =>
          rcases stepA_det h with ⟨S1, hK, h1⟩ | ⟨v, S1, hQ, h1⟩
          · obtain ⟨e, S', q1, q2⟩ := RWp_det r S1 Q hK
            exact ⟨e, S', q1, fun Q' h' => h1 _ _ (q2 Q' h')⟩
          · exact ⟨_, S1, hQ, fun Q' h' => h1 _ _ h'⟩
        | false => exact RWp_det r _ Q h

theorem RWpD_det : ∀ (l : List (SOp × Foot)) (S : St) (Q : XE → St → Prop), RWpD P C l Q S → ∃ e S', Q e S' ∧ ∀ Q' : XE → St → Prop, Q' e S' → RWpD P C l Q' S
  | [], S, Q, h => ⟨.normal, S, h, fun Q' h' => h'⟩
  | o :: r, S, Q, h => by
      rw [RWpD_cons] at h
      simp only [RWpD_cons]
      cases hg : guardA S o.1.g with
      | none => rw [hg] at h; exact h.elim
      | some b =>
        rw [hg] at h
        cases b with
        | true =>
          cases hf : fitsFoot C o.2 o.1 (evalA S.tmp) with
          | false => rw [hf] at h; exact h.elim
          | true =>
            rw [hf] at h
            simp only [brK_true] at h ⊢
            rcases stepA_det h with ⟨S1, hK, h1⟩ | ⟨v, S1, hQ, h1⟩
            · obtain ⟨e, S', q1, q2⟩ := RWpD_det r S1 Q hK
              exact ⟨e, S', q1, fun Q' h' => h1 _ _ (q2 Q' h')⟩
            · exact hQ.elim
        | false => exact RWpD_det r _ Q h

theorem RWpS_det {prot : List Nat} {H0 : Heap} : ∀ (l : List (SOp × Foot)) (rr : Nat) (S : St) (Q : XE → St → Prop), RWpS P C prot H0 rr l Q S → ∃ e S', Q e S' ∧ ∀ Q' : XE → St → Prop, Q' e S' → RWpS P C prot H0 rr l Q' S
  | [], rr, S, Q, h => ⟨.normal, S, h.2, fun Q' h' => ⟨h.1, h'⟩⟩
  | o :: r, rr, S, Q, h => by
      rw [RWpS] at h
      obtain ⟨h0, h⟩ := h
      cases hg : guardA S o.1.g with
      | none => rw [hg] at h; exact h.elim
      | some b =>
        rw [hg] at h
        cases b with
        | true =>
          simp only at h
          obtain ⟨hf, h⟩ := h
          rcases stepA_det h with ⟨S1, hK, h1⟩ | ⟨v, S1, hQ, h1⟩
          · obtain ⟨e, S', q1, q2⟩ := RWpS_det r (rr - 1) S1 Q hK
            refine ⟨e, S', q1, fun Q' h' => ?_⟩
            rw [RWpS, hg]
            exact ⟨h0, hf, h1 _ _ (q2 Q' h')⟩
          · exact hQ.elim
        | false =>
          simp only at h
          obtain ⟨e, S', q1, q2⟩ := RWpS_det r (rr - 1) _ Q h
          refine ⟨e, S', q1, fun Q' h' => ?_⟩
          rw [RWpS, hg]
          exact ⟨h0, q2 Q' h'⟩

theorem LoopN_det {W : (XE → St → Prop) → St → Prop} (hW : ∀ S Q, W Q S → ∃ e S', Q e S' ∧ ∀ Q' : XE → St → Prop, Q' e S' → W Q' S) :
    ∀ (n : Nat) (S : St) (Q : XE → St → Prop), LoopN W n Q S → ∃ e S', Q e S' ∧ ∀ Q' : XE → St → Prop, Q' e S' → LoopN W n Q' S
  | 0, S, Q, h => h.elim
  | n + 1, S, Q, h => by
      simp only [LoopN] at h ⊢
      obtain ⟨e, S1, h1, h2⟩ := hW S _ h
      cases e with
      | normal =>
        obtain ⟨S2, hw, hl⟩ := h1
        obtain ⟨e, S', q1, q2⟩ := LoopN_det hW n S2 Q hl
        exact ⟨e, S', q1, fun Q' h' => h2 _ ⟨S2, hw, q2 Q' h'⟩⟩
      | exit i => exact ⟨_, S1, h1, fun Q' h' => h2 _ h'⟩
      | goto i => exact ⟨_, S1, h1, fun Q' h' => h2 _ h'⟩
      | ret => exact ⟨_, S1, h1, fun Q' h' => h2 _ h'⟩
      | panic i => exact ⟨_, S1, h1, fun Q' h' => h2 _ h'⟩

theorem jumpK_det {W : Nat → (XE → St → Prop) → St → Prop} (hW : ∀ l S Q, W l Q S → ∃ e S', Q e S' ∧ ∀ Q' : XE → St → Prop, Q' e S' → W l Q' S) :
    ∀ (n : Nat) (e : XE) (S : St) (Q : XE → St → Prop), jumpK W n Q e S → ∃ e' S', Q e' S' ∧ ∀ Q' : XE → St → Prop, Q' e' S' → jumpK W n Q' e S
  | 0, e, S, Q, h => by
      cases e with
      | goto l => exact h.elim
      | normal => exact ⟨_, S, h, fun Q' h' => h'⟩
      | exit i => exact ⟨_, S, h, fun Q' h' => h'⟩
      | ret => exact ⟨_, S, h, fun Q' h' => h'⟩
      | panic v => exact ⟨_, S, h, fun Q' h' => h'⟩
  | n + 1, e, S, Q, h => by
      cases e with
      | goto l =>
        obtain ⟨S2, hw, hf⟩ := h
        obtain ⟨e1, S3, q1, q2⟩ := hW l S2 _ hf
        obtain ⟨e', S', r1, r2⟩ := jumpK_det hW n e1 S3 Q q1
        exact ⟨e', S', r1, fun Q' h' => ⟨S2, hw, q2 _ (r2 Q' h')⟩⟩
      | normal => exact ⟨_, S, h, fun Q' h' => h'⟩
      | exit i => exact ⟨_, S, h, fun Q' h' => h'⟩
      | ret => exact ⟨_, S, h, fun Q' h' => h'⟩
      | panic v => exact ⟨_, S, h, fun Q' h' => h'⟩

theorem SWp_det2 : ∀ (c : SC), (∀ (S : St) (Q : XE → St → Prop), SWp P C c Q S → ∃ e S', Q e S' ∧ ∀ Q' : XE → St → Prop, Q' e S' → SWp P C c Q' S) ∧
    (∀ (l : Nat) (S : St) (Q : XE → St → Prop), SFrom P C c l Q S → ∃ e S', Q e S' ∧ ∀ Q' : XE → St → Prop, Q' e S' → SFrom P C c l Q' S) := by
  intro c
  induction c with
  | skip =>
    refine ⟨?_, fun l S Q h => ?_⟩
    rotate_left
    · simp only [SFrom] at h
    intro S Q h; exact ⟨_, _, h, fun Q' h' => h'⟩
  | region l =>
    refine ⟨?_, fun l S Q h => ?_⟩
    rotate_left
    · simp only [SFrom] at h
    intro S Q h; exact RWp_det l S Q h
  | draw l =>
    refine ⟨?_, fun l S Q h => ?_⟩
    rotate_left
    · simp only [SFrom] at h
    intro S Q h; exact RWpD_det l S Q h
  | draws R l =>
    refine ⟨?_, fun l S Q h => ?_⟩
    rotate_left
    · simp only [SFrom] at h
    intro S Q h
    simp only [SWp] at h ⊢
    obtain ⟨prot, h⟩ := h
    obtain ⟨e, S', q1, q2⟩ := RWpS_det l (R + 1) S Q h
    exact ⟨e, S', q1, fun Q' h' => ⟨prot, q2 Q' h'⟩⟩
  | seq a b iha ihb =>
    refine ⟨?_, fun l S Q h => ?_⟩
    rotate_left
    · simp only [SFrom] at h ⊢
      split at h
      · rename_i hl
        simp only [hl, if_true]
        obtain ⟨e, S1, h1, h2⟩ := iha.2 l S _ h
        cases e with
        | normal =>
          obtain ⟨e, S', q1, q2⟩ := ihb.1 S1 Q h1
          exact ⟨e, S', q1, fun Q' h' => h2 _ (q2 Q' h')⟩
        | exit i => exact ⟨_, S1, h1, fun Q' h' => h2 _ h'⟩
        | goto i => exact ⟨_, S1, h1, fun Q' h' => h2 _ h'⟩
        | ret => exact ⟨_, S1, h1, fun Q' h' => h2 _ h'⟩
        | panic i => exact ⟨_, S1, h1, fun Q' h' => h2 _ h'⟩
      · rename_i hl
        simp only [hl, if_false, Bool.false_eq_true]
        exact ihb.2 l S Q h
    intro S Q h
    simp only [SWp] at h ⊢
    obtain ⟨e, S1, h1, h2⟩ := iha.1 S _ h
    cases e with
    | normal =>
      obtain ⟨e, S', q1, q2⟩ := ihb.1 S1 Q h1
      exact ⟨e, S', q1, fun Q' h' => h2 _ (q2 Q' h')⟩
    | exit i => exact ⟨_, S1, h1, fun Q' h' => h2 _ h'⟩
    | goto i => exact ⟨_, S1, h1, fun Q' h' => h2 _ h'⟩
    | ret => exact ⟨_, S1, h1, fun Q' h' => h2 _ h'⟩
    | panic i => exact ⟨_, S1, h1, fun Q' h' => h2 _ h'⟩
  | cond c x y ihx ihy =>
    refine ⟨?_, fun l S Q h => ?_⟩
    rotate_left
    · simp only [SFrom] at h
    intro S Q h
    simp only [SWp] at h ⊢
    split at h
    · rename_i t ht
      cases t with
      | true =>
        obtain ⟨e, S', q1, q2⟩ := ihx.1 S Q (h.1 rfl)
        exact ⟨e, S', q1, fun Q' h' => by simpa [ht] using q2 Q' h'⟩
      | false =>
        obtain ⟨e, S', q1, q2⟩ := ihy.1 S Q (h.2 rfl)
        exact ⟨e, S', q1, fun Q' h' => by simpa [ht] using q2 Q' h'⟩
    · exact h.elim
  | block id b ih =>
    refine ⟨?_, fun l S Q h => ?_⟩
    rotate_left
    · simp only [SFrom] at h
    intro S Q h
    simp only [SWp] at h ⊢
    obtain ⟨e, S1, h1, h2⟩ := ih.1 S _ h
    cases e with
    | exit i =>
      by_cases hi : i = id
      · simp only [inBlockK, hi, if_true] at h1
        exact ⟨_, S1, h1, fun Q' h' => h2 _ (by simpa [inBlockK, hi] using h')⟩
      · simp only [inBlockK, hi, if_false] at h1
        exact ⟨_, S1, h1, fun Q' h' => h2 _ (by simpa [inBlockK, hi] using h')⟩
    | normal => exact ⟨_, S1, h1, fun Q' h' => h2 _ h'⟩
    | goto i => exact ⟨_, S1, h1, fun Q' h' => h2 _ h'⟩
    | ret => exact ⟨_, S1, h1, fun Q' h' => h2 _ h'⟩
    | panic i => exact ⟨_, S1, h1, fun Q' h' => h2 _ h'⟩
  | loop b ih =>
    refine ⟨?_, fun l S Q h => ?_⟩
    rotate_left
    · simp only [SFrom] at h
    intro S Q h
    simp only [SWp] at h ⊢
    obtain ⟨S0, hw, n, hn⟩ := h
    obtain ⟨e, S', q1, q2⟩ := LoopN_det (W := SWp P C b) (fun S Q h => ih.1 S Q h) n S0 Q hn
    exact ⟨e, S', q1, fun Q' h' => ⟨S0, hw, n, q2 Q' h'⟩⟩
  | exit i =>
    refine ⟨?_, fun l S Q h => ?_⟩
    rotate_left
    · simp only [SFrom] at h
    intro S Q h; exact ⟨_, _, h, fun Q' h' => h'⟩
  | ret =>
    refine ⟨?_, fun l S Q h => ?_⟩
    rotate_left
    · simp only [SFrom] at h
    intro S Q h; exact ⟨_, _, h, fun Q' h' => h'⟩
  | scope b ih =>
    refine ⟨?_, fun l S Q h => ?_⟩
    rotate_left
    · simp only [SFrom] at h
    intro S Q h
    simp only [SWp] at h ⊢
    obtain ⟨n, hn⟩ := h
    obtain ⟨e, S1, h1, h2⟩ := ih.1 S _ hn
    obtain ⟨e', S', q1, q2⟩ := jumpK_det (fun l S Q h => ih.2 l S Q h) n e S1 Q h1
    exact ⟨e', S', q1, fun Q' h' => ⟨n, h2 _ (q2 Q' h')⟩⟩
  | label l =>
    refine ⟨?_, fun l0 S Q h => ?_⟩
    rotate_left
    · simp only [SFrom] at h ⊢
      split at h
      · rename_i hl
        simp only [hl, if_true]
        exact ⟨_, _, h, fun Q' h' => h'⟩
      · exact h.elim
    intro S Q h; exact ⟨_, _, h, fun Q' h' => h'⟩
  | goto l =>
    refine ⟨?_, fun l S Q h => ?_⟩
    rotate_left
    · simp only [SFrom] at h
    intro S Q h; exact ⟨_, _, h, fun Q' h' => h'⟩

theorem SWp_det (c : SC) (S : St) (Q : XE → St → Prop) (h : SWp P C c Q S) : ∃ e S', Q e S' ∧ ∀ Q' : XE → St → Prop, Q' e S' → SWp P C c Q' S := (SWp_det2 c).1 S Q h

theorem SWp_mono {c : SC} {S : St} {Q Q' : XE → St → Prop} (h : SWp P C c Q S) (hq : ∀ e S', Q e S' → Q' e S') : SWp P C c Q' S := by
  obtain ⟨e, S', h1, h2⟩ := SWp_det c S Q h
  exact h2 Q' (hq _ _ h1)

theorem Weaker.refl {S : St} (hl : ∀ t k p T, tget S.tmp t = .loc k p T → bget S.box k ≠ none) (hs : ∀ t k p s e l c, tget S.tmp t = .lsl k p s e l c → bget S.box k ≠ none) : Weaker S S :=
  ⟨fun t => .inr rfl, fun k => .inr rfl, hl, hs, rfl⟩

/-- Every pointer to a local variable leads to one that is there. -/
def tidy (S : St) : Bool := S.tmp.all fun x => match x.2 with
  | .loc k _ _ => (bget S.box k).isSome
  | .lsl k _ _ _ _ _ => (bget S.box k).isSome
  | _ => true

theorem tget_mem : ∀ (l : List (Nat × AV)) (t : Nat), tget l t = .junk ∨ (t, tget l t) ∈ l
  | [], t => .inl rfl
  | (k, v) :: r, t => by
      simp only [tget]
      split
      · rename_i h; subst h; exact .inr (by simp)
      · rcases tget_mem r t with h | h
        · exact .inl h
        · exact .inr (List.mem_cons_of_mem _ h)

theorem Weaker.of_tidy {S : St} (h : tidy S = true) : Weaker S S := by
  simp only [tidy, List.all_eq_true] at h
  refine Weaker.refl (fun t k p T e hn => ?_) (fun t k p s e' l c e hn => ?_)
  · rcases tget_mem S.tmp t with h' | h'
    · rw [h'] at e; cases e
    · have := h _ h'
      rw [e] at this
      simp [hn] at this
  · rcases tget_mem S.tmp t with h' | h'
    · rw [h'] at e; cases e
    · have := h _ h'
      rw [e] at this
      simp [hn] at this

/-- One round of a loop. -/
theorem loop_round {b : SC} {Q : XE → St → Prop} {S : St} (h : SWp P C b (thenK (fun S' => ∃ S'', Weaker S'' S' ∧ LoopWp (SWp P C b) Q S'') Q) S) : LoopWp (SWp P C b) Q S := by
  obtain ⟨e, S1, h1, h2⟩ := SWp_det b S _ h
  cases e with
  | normal =>
    obtain ⟨S2, hw, n, hn⟩ := h1
    exact ⟨n + 1, h2 _ ⟨S2, hw, hn⟩⟩
  | exit i => exact ⟨1, h2 _ h1⟩
  | goto i => exact ⟨1, h2 _ h1⟩
  | ret => exact ⟨1, h2 _ h1⟩
  | panic i => exact ⟨1, h2 _ h1⟩

/-- Only some slots and some local variables. -/
def St.keep (ts bs : List Nat) (S : St) : St :=
  ⟨ts.map fun t => (t, tget S.tmp t), bs.filterMap fun k => (bget S.box k).map fun c => (k, c), S.heap⟩

theorem keep_tget (tmp : List (Nat × AV)) : ∀ (ts : List Nat) (t : Nat), tget (ts.map fun t => (t, tget tmp t)) t = .junk ∨ tget (ts.map fun t => (t, tget tmp t)) t = tget tmp t
  | [], t => .inl rfl
  | k :: ts, t => by
      simp only [List.map_cons, tget]
      split
      · rename_i h; subst h; exact .inr rfl
      · exact keep_tget tmp ts t

theorem keep_bget (box : List (Nat × BoxC)) : ∀ (bs : List Nat) (k : Nat), bget (bs.filterMap fun k => (bget box k).map fun c => (k, c)) k = none ∨ bget (bs.filterMap fun k => (bget box k).map fun c => (k, c)) k = bget box k
  | [], k => .inl rfl
  | j :: bs, k => by
      cases h : bget box j with
      | none =>
        have e : (j :: bs).filterMap (fun k => (bget box k).map fun c => (k, c)) = bs.filterMap (fun k => (bget box k).map fun c => (k, c)) := by simp [h]
        rw [e]; exact keep_bget box bs k
      | some c =>
        have e : (j :: bs).filterMap (fun k => (bget box k).map fun c => (k, c)) = (j, c) :: bs.filterMap (fun k => (bget box k).map fun c => (k, c)) := by simp [h]
        rw [e]
        simp only [bget]
        split
        · rename_i hk; subst hk; exact .inr h.symm
        · exact keep_bget box bs k

theorem Weaker.keep {S : St} {ts bs : List Nat} (h : tidy (S.keep ts bs) = true) : Weaker (S.keep ts bs) S := by
  have hw := Weaker.of_tidy h
  exact ⟨keep_tget S.tmp ts, keep_bget S.box bs, hw.loc, hw.lsl, rfl⟩

/-- At the head again. -/
def headK {σ : Type} (ts bs : List Nat) (I : σ → St) (ok : σ → Prop) (μ : σ → Nat) (n : Nat) (S : St) (_ : Dm I) (_ : Dm ok) (_ : Dm μ) (_ : Dm n) (_ : Dm S) : Prop := ∃ y, S.keep ts bs = I y ∧ ok y ∧ μ y < n

theorem headK_of {σ : Type} {ts bs : List Nat} {I : σ → St} {ok : σ → Prop} {μ : σ → Nat} {n : Nat} {S : St} {a : Dm I} {b : Dm ok} {c : Dm μ} {d : Dm n} {e : Dm S} (y : σ) (h1 : S.keep ts bs = I y) (h2 : ok y) (h3 : μ y < n) : headK ts bs I ok μ n S a b c d e :=
  ⟨y, h1, h2, h3⟩

/-- A loop by what holds at its head. -/
theorem loop_inv {σ : Type} {b : SC} {Q : XE → St → Prop} {S : St} (ts bs : List Nat) (I : σ → St) (ok : σ → Prop) (μ : σ → Nat) (x : σ) (hk : S.keep ts bs = I x) (ht : ∀ x, tidy (I x) = true) (hx : ok x)
    (round : ∀ x, ok x → SWp P C b (thenK (fun S' => headK ts bs I ok μ (μ x) S' .mk .mk .mk .mk .mk) Q) (I x)) {xb : Dm b} {xq : Dm Q} {xs : Dm S} : loopK P C b Q S xb xq xs := by
  refine ⟨I x, by rw [← hk]; exact Weaker.keep (by rw [hk]; exact ht x), ?_⟩
  refine loopWp_of I ok μ x rfl hx (fun x hx K hK => ?_)
  refine SWp_mono (round x hx) (fun e S' he => ?_)
  cases e with
  | normal =>
    obtain ⟨y, h1, h2, h3⟩ := he
    exact hK y S' h2 h3 (by rw [← h1]; exact Weaker.keep (by rw [h1]; exact ht y))
  | exit i => exact he
  | goto i => exact he
  | ret => exact he
  | panic i => exact he

/-- A loop's next round. -/
theorem loop_step {b : SC} {Q : XE → St → Prop} {S S1 : St} (ts bs : List Nat) (hk : S.keep ts bs = S1) (ht : tidy S1 = true) (h : SWp P C b (thenK (fun S' => loopK P C b Q S' .mk .mk .mk) Q) S1) {xb : Dm b} {xq : Dm Q} {xs : Dm S} : loopK P C b Q S xb xq xs :=
  ⟨S1, by rw [← hk]; exact Weaker.keep (by rw [hk]; exact ht), loop_round h⟩

/-- A jump. -/
theorem jump_keep {W : Nat → (XE → St → Prop) → St → Prop} {n l : Nat} {Q : XE → St → Prop} {S S1 : St} (ts bs : List Nat) (hk : S.keep ts bs = S1) (ht : tidy S1 = true) (h : W l (jumpK W n Q) S1) : jumpK W (n + 1) Q (.goto l) S :=
  ⟨S1, by rw [← hk]; exact Weaker.keep (by rw [hk]; exact ht), h⟩

theorem callRuns_of {f : FuncId} {fn : Func} {c : Code} {sc : SC} {rs : List ResultVar} {N : Nat} (hCN : C.N = N) (hD : DrawOK P) (hZ : ZOK P C.Z) (hf : P.funcs[f]? = some fn) (hb : fn.body = some c) (hN : fn.ntmps = N)
    (hok : callOK P f) (hsc : toSC C c = some sc) (hr : fn.results.toList = rs) {args : List AV} (hlen : args.length ≤ N) {H : Heap} {R : Out → Heap → Prop}
    (h : SWp P C sc (finK rs R) ⟨argSlots 0 args, [], H⟩) : ∃ out H', CallRuns P f args H out H' ∧ R out H' := by
  subst hr hCN
  exact callRuns_of_body hD hZ hf hb hN hok hsc hlen h

theorem callRuns_eq {f : FuncId} {args : List AV} {H H1 : Heap} {o : Out} (h : ∃ out H', CallRuns P f args H out H' ∧ (out = o ∧ H' = H1)) : CallRuns P f args H o H1 := by
  obtain ⟨out, H', hc, rfl, rfl⟩ := h
  exact hc

end
end Go.Av
