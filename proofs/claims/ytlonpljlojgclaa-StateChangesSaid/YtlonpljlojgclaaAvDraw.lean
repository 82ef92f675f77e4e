import Derived.Test.YtlonpljlojgclaaAvCode
set_option linter.unusedSimpArgs false
set_option linter.unusedVariables false
namespace Go.Av
open Go

/-! ## Regions that draw their order -/

/-- What an operation does, in itself. -/
structure Dlt where
  v : AV
  bw : Option (Nat × BoxC)
  heap : Heap

def St.appD (S : St) (dst : Option Nat) (D : Dlt) : St :=
  { tmp := match dst with | some d => (d, D.v) :: S.tmp | none => S.tmp, box := match D.bw with | some kb => kb :: S.box | none => S.box, heap := D.heap }

/-- The operations that the model asks of, as operands. -/
def sameOn (op : Op) (V V' : Operand → AV) : Prop := ∀ x ∈ op.operands, V x = V' x

section
variable {P : Program}

def dltOf (P : Program) (C : Cfg) (s : SOp) (S : St) (D : Dlt) : Prop :=
  match s.op with
  | .call { callee := .value f, args := as, argTypes := _ } =>
    match calleeA (evalA S.tmp f) with
    | some (f, a, b) =>
      freeAll (as.toList.map (evalA S.tmp)) = true ∧ CallRuns P f (a ++ as.toList.map (evalA S.tmp) ++ b) S.heap (.ret D.v) D.heap ∧ D.bw = none
    | none => False
  | .panic _ => False
  | op => match opFn P C s.dst op S.view with
    | some E => D = ⟨E.v, E.bw, hset S.heap E.hs ++ E.hp⟩
    | none => False

theorem op_cases (op : Op) : (∃ f as ts, op = .call { callee := .value f, args := as, argTypes := ts }) ∨ (∃ x, op = .panic x) ∨
    ((∀ f as ts, op ≠ .call { callee := .value f, args := as, argTypes := ts }) ∧ (∀ x, op ≠ .panic x)) := by
  cases op with
  | call c =>
    obtain ⟨cal, as, ts⟩ := c
    cases cal with
    | value f => exact .inl ⟨f, as, ts, rfl⟩
    | invoke r m => exact .inr (.inr ⟨fun _ _ _ h => (by cases h), fun _ h => (by cases h)⟩)
    | builtin b => exact .inr (.inr ⟨fun _ _ _ h => (by cases h), fun _ h => (by cases h)⟩)
  | panic x => exact .inr (.inl ⟨x, rfl⟩)
  | _ => exact .inr (.inr ⟨fun _ _ _ h => (by cases h), fun _ h => (by cases h)⟩)

theorem stepA_other {C : Cfg} {s : SOp} {S : St} {K : St → Prop} {Q : XE → St → Prop} (h1 : ∀ f as ts, s.op ≠ .call { callee := .value f, args := as, argTypes := ts }) (h2 : ∀ x, s.op ≠ .panic x) :
    stepA P C s S K Q = (match opFn P C s.dst s.op S.view with | some E => K ((S.app E).putO s.dst E.v) | none => False) := by
  unfold stepA
  split
  · rename_i he; exact (h1 _ _ _ he).elim
  · rename_i he; exact (h2 _ he).elim
  · rfl

theorem dltOf_other {C : Cfg} {s : SOp} {S : St} {D : Dlt} (h1 : ∀ f as ts, s.op ≠ .call { callee := .value f, args := as, argTypes := ts }) (h2 : ∀ x, s.op ≠ .panic x) :
    dltOf P C s S D = (match opFn P C s.dst s.op S.view with | some E => D = ⟨E.v, E.bw, hset S.heap E.hs ++ E.hp⟩ | none => False) := by
  unfold dltOf
  split
  · rename_i he; exact (h1 _ _ _ he).elim
  · rename_i he; exact (h2 _ he).elim
  · rfl

theorem dltOf_call {C : Cfg} {s : SOp} {S : St} {D : Dlt} {f as ts} (h : s.op = .call { callee := .value f, args := as, argTypes := ts }) :
    dltOf P C s S D = (match calleeA (evalA S.tmp f) with
    | some (f, a, b) =>
      freeAll (as.toList.map (evalA S.tmp)) = true ∧ CallRuns P f (a ++ as.toList.map (evalA S.tmp) ++ b) S.heap (.ret D.v) D.heap ∧ D.bw = none
    | none => False) := by
  unfold dltOf
  rw [h]

theorem stepA_call {C : Cfg} {s : SOp} {S : St} {K : St → Prop} {Q : XE → St → Prop} {f as ts} (h : s.op = .call { callee := .value f, args := as, argTypes := ts }) :
    stepA P C s S K Q = (match calleeA (evalA S.tmp f) with
    | some (f, a, b) =>
      freeAll (as.toList.map (evalA S.tmp)) = true ∧
      ∃ out H', CallRuns P f (a ++ as.toList.map (evalA S.tmp) ++ b) S.heap out H' ∧
        match out with
        | .ret v => K ({ S with heap := H' }.putO s.dst v)
        | .panic v => Q (.panic v) { S with heap := H' }
    | none => False) := by
  unfold stepA
  rw [h]
  rfl

theorem stepA_dlt {C : Cfg} {s : SOp} {S : St} {K : St → Prop} (h : stepA P C s S K (fun _ _ => False)) : ∃ D, dltOf P C s S D ∧ K (S.appD s.dst D) := by
  rcases op_cases s.op with ⟨f, as, ts, hop⟩ | ⟨x, hop⟩ | ⟨h1, h2⟩
  · rw [stepA_call hop] at h
    cases hcal : calleeA (evalA S.tmp f) with
    | none => simp [hcal] at h
    | some q =>
      obtain ⟨fn, a, b⟩ := q
      simp only [hcal] at h
      obtain ⟨hf, out, H', hc, hK⟩ := h
      cases out with
      | ret v =>
        refine ⟨⟨v, none, H'⟩, ?_, ?_⟩
        · rw [dltOf_call hop]; simp only [hcal]; exact ⟨hf, hc, trivial⟩
        · simp only at hK
          unfold St.putO at hK
          unfold St.appD
          cases hd : s.dst <;> simp only [hd] at hK ⊢ <;> exact hK
      | panic v => exact hK.elim
  · unfold stepA at h
    rw [hop] at h
    simp only at h
    split at h <;> exact h.elim
  · rw [stepA_other h1 h2] at h
    cases hE : opFn P C s.dst s.op S.view with
    | none => simp [hE] at h
    | some E =>
      simp only [hE] at h
      refine ⟨⟨E.v, E.bw, hset S.heap E.hs ++ E.hp⟩, by rw [dltOf_other h1 h2]; simp only [hE], ?_⟩
      unfold St.putO St.app at h
      unfold St.appD
      cases hd : s.dst <;> simp only [hd] at h ⊢ <;> exact h

theorem dlt_stepA {C : Cfg} {s : SOp} {S : St} {D : Dlt} (h : dltOf P C s S D) : stepA P C s S (fun X => X = S.appD s.dst D) (fun _ _ => False) := by
  rcases op_cases s.op with ⟨f, as, ts, hop⟩ | ⟨x, hop⟩ | ⟨h1, h2⟩
  · rw [dltOf_call hop] at h
    rw [stepA_call hop]
    cases hcal : calleeA (evalA S.tmp f) with
    | none => simp [hcal] at h
    | some q =>
      obtain ⟨fn, a, b⟩ := q
      simp only [hcal] at h ⊢
      obtain ⟨hf, hc, hb⟩ := h
      refine ⟨hf, .ret D.v, D.heap, hc, ?_⟩
      simp only
      unfold St.putO St.appD
      cases s.dst <;> simp [hb]
  · unfold dltOf at h
    rw [hop] at h
    exact h.elim
  · rw [dltOf_other h1 h2] at h
    rw [stepA_other h1 h2]
    cases hE : opFn P C s.dst s.op S.view with
    | none => simp [hE] at h
    | some E =>
      simp only [hE] at h ⊢
      subst h
      unfold St.putO St.app St.appD
      cases s.dst <;> rfl

theorem growA_bw {C : Cfg} {V : View} {e : TypeId} {hs : List (Nat × Blk)} {l : List AV} {E : Eff} (h : growA P C V e hs l = some E) : E.bw = none := by
  unfold growA at h
  split at h
  · cases h; rfl
  · cases h
theorem appendA_bw {C : Cfg} {V : View} {t tx : TypeId} {s x : AV} {E : Eff} (h : appendA P C V t tx s x = some E) : E.bw = none := by
  unfold appendA at h
  repeat' split at h
  all_goals first
    | cases h; done
    | (cases h; rfl)
    | exact growA_bw h
theorem clearA_bw {C : Cfg} {V : View} {t : TypeId} {x : AV} {E : Eff} (h : clearA P C V t x = some E) : E.bw = none := by
  unfold clearA at h
  repeat' split at h
  all_goals first
    | cases h; done
    | (cases h; rfl)
theorem makeSliceA_bw {C : Cfg} {V : View} {t : TypeId} {x y : AV} {E : Eff} (h : makeSliceA P C V t x y = some E) : E.bw = none := by
  unfold makeSliceA at h
  repeat' split at h
  all_goals first
    | cases h; done
    | (cases h; rfl)
theorem mapEntryA_bw {C : Cfg} {V : View} {t : TypeId} {m k : AV} {E : Eff} (h : mapEntryA P C V t m k = some E) : E.bw = none := by
  unfold mapEntryA at h
  repeat' split at h
  all_goals first
    | cases h; done
    | (cases h; rfl)
theorem mapPutA_bw {V : View} {t : TypeId} {m k x : AV} {E : Eff} (h : mapPutA P V t m k x = some E) : E.bw = none := by
  unfold mapPutA at h
  repeat' split at h
  all_goals first
    | cases h; done
    | (cases h; rfl)
theorem entryStoreA_bw {V : View} {m st x : AV} {E : Eff} (h : entryStoreA V m st x = some E) : E.bw = none := by
  unfold entryStoreA at h
  repeat' split at h
  all_goals first
    | cases h; done
    | (cases h; rfl)

theorem dlt_stepA' {C : Cfg} {s : SOp} {S : St} {D : Dlt} {K : St → Prop} (h : dltOf P C s S D) (hK : K (S.appD s.dst D)) : stepA P C s S K (fun _ _ => False) := by
  rcases op_cases s.op with ⟨f, as, ts, hop⟩ | ⟨x, hop⟩ | ⟨h1, h2⟩
  · rw [dltOf_call hop] at h
    rw [stepA_call hop]
    cases hcal : calleeA (evalA S.tmp f) with
    | none => simp [hcal] at h
    | some q =>
      obtain ⟨fn, a, b⟩ := q
      simp only [hcal] at h ⊢
      obtain ⟨hf, hc, hb⟩ := h
      refine ⟨hf, .ret D.v, D.heap, hc, ?_⟩
      simp only
      have e : ({ S with heap := D.heap } : St).putO s.dst D.v = S.appD s.dst D := by
        unfold St.putO St.appD
        cases s.dst <;> simp [hb]
      rw [e]; exact hK
  · unfold dltOf at h
    rw [hop] at h
    exact h.elim
  · rw [dltOf_other h1 h2] at h
    rw [stepA_other h1 h2]
    cases hE : opFn P C s.dst s.op S.view with
    | none => simp [hE] at h
    | some E =>
      simp only [hE] at h ⊢
      subst h
      have e : (S.app E).putO s.dst E.v = S.appD s.dst ⟨E.v, E.bw, hset S.heap E.hs ++ E.hp⟩ := by
        unfold St.putO St.app St.appD
        cases s.dst <;> rfl
      rw [e]; exact hK

theorem opFn_foot {C : Cfg} {F : Foot} {s : SOp} {V : View} {E : Eff} (h : opFn P C s.dst s.op V = some E) (hf : fitsFoot C F s V.ρ = true) :
    (∀ kc, E.bw = some kc → F.wb.contains kc.1 = true) ∧ (F.hw = false → E.hs = [] ∧ E.hp = []) := by
  have pure1 : ∀ {v : Option AV}, v.bind pv = some E → (∀ kc, E.bw = some kc → F.wb.contains kc.1 = true) ∧ (F.hw = false → E.hs = [] ∧ E.hp = []) := by
    intro v hv
    simp only [Option.bind_eq_some_iff] at hv
    obtain ⟨x, _, hx⟩ := hv
    cases hx
    exact ⟨fun kc hk => (by cases hk), fun _ => ⟨rfl, rfl⟩⟩
  have pure2 : ∀ {v : AV}, pv v = some E → (∀ kc, E.bw = some kc → F.wb.contains kc.1 = true) ∧ (F.hw = false → E.hs = [] ∧ E.hp = []) := by
    intro v hx
    cases hx
    exact ⟨fun kc hk => (by cases hk), fun _ => ⟨rfl, rfl⟩⟩
  have alloc1 : ∀ {t z}, allocA C V s.dst t z = some E → (match s.dst with | some d => if C.L.contains d then F.wb.contains d else F.hw | none => true) = true →
      (∀ kc, E.bw = some kc → F.wb.contains kc.1 = true) ∧ (F.hw = false → E.hs = [] ∧ E.hp = []) := by
    intro t z hx hfoot
    unfold allocA at hx
    split at hx
    · cases hx
    · rename_i d hd
      simp only [hd] at hfoot
      split at hx
      · rename_i hL
        rw [if_pos hL] at hfoot
        split at hx
        · cases hx
          exact ⟨fun kc hk => (by cases hk; exact hfoot), fun _ => ⟨rfl, rfl⟩⟩
        · cases hx
      · rename_i hL
        rw [if_neg hL] at hfoot
        cases hx
        exact ⟨fun kc hk => (by cases hk), fun hw => (by rw [hw] at hfoot; cases hfoot)⟩
  have row1 : ∀ {e l}, rowA C V s.dst e l = some E → (match s.dst with | some d => if C.L.contains d then F.wb.contains d else F.hw | none => true) = true →
      (∀ kc, E.bw = some kc → F.wb.contains kc.1 = true) ∧ (F.hw = false → E.hs = [] ∧ E.hp = []) := by
    intro e l hx hfoot
    unfold rowA at hx
    split at hx
    · cases hx
    · rename_i d hd
      simp only [hd] at hfoot
      split at hx
      · rename_i hL
        rw [if_pos hL] at hfoot
        split at hx
        · cases hx
          exact ⟨fun kc hk => (by cases hk; exact hfoot), fun _ => ⟨rfl, rfl⟩⟩
        · cases hx
      · rename_i hL
        rw [if_neg hL] at hfoot
        cases hx
        exact ⟨fun kc hk => (by cases hk), fun hw => (by rw [hw] at hfoot; cases hfoot)⟩
  cases hop : s.op with
  | move x => simp only [hop, opFn] at h; exact pure2 h
  | assign x => simp only [hop, opFn] at h; exact pure2 h
  | pick c x y => simp only [hop, opFn] at h; split at h; exact pure2 h; cases h
  | alloc t =>
    simp only [hop, opFn] at h
    unfold fitsFoot at hf; simp only [hop] at hf
    split at h
    · exact alloc1 h hf
    · cases h
  | box t x =>
    simp only [hop, opFn] at h
    unfold fitsFoot at hf; simp only [hop] at hf
    split at h
    · exact alloc1 h hf
    · cases h
  | build t ps => simp only [hop, opFn] at h; exact pure1 h
  | buildSlice t n ps =>
    simp only [hop, opFn] at h
    unfold fitsFoot at hf; simp only [hop] at hf
    split at h
    · split at h
      · split at h
        · split at h
          · exact row1 h hf
          · cases h
        · cases h
      · cases h
    · cases h
  | load t x => simp only [hop, opFn] at h; exact pure1 h
  | store t x y =>
    simp only [hop, opFn] at h
    unfold fitsFoot at hf; simp only [hop] at hf
    unfold storeA at h
    split at h
    · rename_i n p T hx
      simp only [hx] at hf
      split at h
      · split at h
        · split at h
          · cases h
            exact ⟨fun kc hk => (by cases hk), fun hw => (by rw [hw] at hf; cases hf)⟩
          · cases h
        · cases h
      · cases h
    · rename_i k p T hx
      simp only [hx] at hf
      split at h
      · split at h
        · split at h
          · cases h
            exact ⟨fun kc hk => (by cases hk; exact hf), fun _ => ⟨rfl, rfl⟩⟩
          · cases h
        · cases h
      · cases h
    · cases h
  | nilCheck x => simp only [hop, opFn] at h; split at h; exact pure2 h; exact pure2 h; cases h
  | binOp op t x y u => simp only [hop, opFn] at h; exact pure1 h
  | unOp op t x => simp only [hop, opFn] at h; exact pure1 h
  | convert a b x => simp only [hop, opFn] at h; exact pure1 h
  | fieldAddr a x f => simp only [hop, opFn] at h; exact pure1 h
  | indexAddr t x i => simp only [hop, opFn] at h; exact pure1 h
  | field t x f => simp only [hop, opFn] at h; exact pure1 h
  | index t x i => simp only [hop, opFn] at h; exact pure1 h
  | extract x i => simp only [hop, opFn] at h; exact pure1 h
  | slice t x lo hi mx => simp only [hop, opFn] at h; exact pure1 h
  | call c =>
    obtain ⟨cal, as, ts⟩ := c
    cases cal with
    | builtin b =>
      simp only [hop, opFn] at h
      unfold fitsFoot at hf
      simp only [hop] at hf
      have wild : E.bw = none → F.hw = true → (∀ kc, E.bw = some kc → F.wb.contains kc.1 = true) ∧ (F.hw = false → E.hs = [] ∧ E.hp = []) := fun h1 h2 => ⟨fun kc hk => (by rw [h1] at hk; cases hk), fun hw => (by rw [h2] at hw; cases hw)⟩
      unfold builtinE at h
      split at h
      · simp only [Bool.and_eq_true] at hf; exact wild (appendA_bw h) hf.1
      · simp only [Bool.and_eq_true] at hf; exact wild (clearA_bw h) hf.1
      · exact pure1 h
    | value f => simp [hop, opFn] at h
    | invoke r m => simp [hop, opFn] at h
  | makeSlice t l c =>
    simp only [hop, opFn] at h
    unfold fitsFoot at hf; simp only [hop] at hf
    exact ⟨fun kc hk => (by rw [makeSliceA_bw h] at hk; cases hk), fun hw => (by rw [hf] at hw; cases hw)⟩
  | mapEntry t m k =>
    simp only [hop, opFn] at h
    unfold fitsFoot at hf; simp only [hop] at hf
    exact ⟨fun kc hk => (by rw [mapEntryA_bw h] at hk; cases hk), fun hw => (by rw [hf] at hw; cases hw)⟩
  | entryStore t m st x =>
    simp only [hop, opFn] at h
    unfold fitsFoot at hf; simp only [hop] at hf
    exact ⟨fun kc hk => (by rw [entryStoreA_bw h] at hk; cases hk), fun hw => (by rw [hf] at hw; cases hw)⟩
  | insert t m k x =>
    simp only [hop, opFn] at h
    unfold fitsFoot at hf; simp only [hop] at hf
    exact ⟨fun kc hk => (by rw [mapPutA_bw h] at hk; cases hk), fun hw => (by rw [hf] at hw; cases hw)⟩
  | mapUpdate t m k x =>
    simp only [hop, opFn] at h
    unfold fitsFoot at hf; simp only [hop] at hf
    exact ⟨fun kc hk => (by rw [mapPutA_bw h] at hk; cases hk), fun hw => (by rw [hf] at hw; cases hw)⟩
  | lookup t m k ok => simp only [hop, opFn] at h; exact pure1 h
  | makeFunc f a b =>
    simp only [hop, opFn] at h
    unfold makeFuncA at h
    split at h
    · split at h
      · exact pure2 h
      · cases h
    · cases h
  | _ => first | (simp [fitsFoot, hop] at hf; done) | (simp [hop, opFn] at h; done)

theorem elemsA_local {V V' : View} {e : TypeId} {x : AV} {F : Foot} (hb : ∀ k, F.rb.contains k = true ∨ F.wb.contains k = true → V.bget k = V'.bget k) (hh : V.hget = V'.hget)
    (hf : (match x with | .lsl k _ _ _ _ _ => F.rb.contains k | _ => true) = true) : elemsA V' e x = elemsA V e x := by
  unfold elemsA
  split
  · rfl
  · rw [hh]
  · simp only at hf; rw [hb _ (.inl hf)]
  · rfl

theorem appendA_local {C : Cfg} {V V' : View} {t tx : TypeId} {s x : AV} {F : Foot} (hb : ∀ k, F.rb.contains k = true ∨ F.wb.contains k = true → V.bget k = V'.bget k) (hh : V.hget = V'.hget ∧ V.hlen = V'.hlen)
    (hf : (match x with | .lsl k _ _ _ _ _ => F.rb.contains k | _ => true) = true) : appendA P C V' t tx s x = appendA P C V t tx s x := by
  have e1 : ∀ e, elemsA V' e x = elemsA V e x := fun e => elemsA_local hb hh.1 hf
  simp only [appendA, growA, e1, hh.1, hh.2]

theorem loadA_local {V V' : View} {t : TypeId} {x : AV} {F : Foot} (hb : ∀ k, F.rb.contains k = true ∨ F.wb.contains k = true → V.bget k = V'.bget k) (hh : F.hr = true ∨ F.hw = true → V.hget = V'.hget)
    (hf : (match x with | .loc k _ _ => F.rb.contains k | _ => F.hr) = true) : loadA V' t x = loadA V t x := by
  unfold loadA
  split
  · simp only at hf; rw [hh (.inl hf)]
  · simp only at hf; rw [hb _ (.inl hf)]
  · rfl

theorem opFn_local {C : Cfg} {F : Foot} {s : SOp} {V V' : View} (hρ : ∀ x ∈ s.op.operands, V.ρ x = V'.ρ x) (hb : ∀ k, F.rb.contains k = true ∨ F.wb.contains k = true → V.bget k = V'.bget k)
    (hh : F.hr = true ∨ F.hw = true → V.hget = V'.hget ∧ V.hlen = V'.hlen) (hf : fitsFoot C F s V.ρ = true) : opFn P C s.dst s.op V' = opFn P C s.dst s.op V := by
  have e1 : ∀ {x}, x ∈ s.op.operands → V'.ρ x = V.ρ x := fun h => (hρ _ h).symm
  have alloc1 : ∀ {t z}, (match s.dst with | some d => if C.L.contains d then F.wb.contains d else F.hw | none => true) = true → allocA C V' s.dst t z = allocA C V s.dst t z := by
    intro t z hfoot
    unfold allocA
    split
    · rfl
    · rename_i d hd
      simp only [hd] at hfoot
      split
      · rename_i hL
        rw [if_pos hL] at hfoot
        rw [hb d (.inr hfoot)]
      · rename_i hL
        rw [if_neg hL] at hfoot
        rw [(hh (.inr hfoot)).2]
  have row1 : ∀ {e l}, (match s.dst with | some d => if C.L.contains d then F.wb.contains d else F.hw | none => true) = true → rowA C V' s.dst e l = rowA C V s.dst e l := by
    intro e l hfoot
    unfold rowA
    split
    · rfl
    · rename_i d hd
      simp only [hd] at hfoot
      split
      · rename_i hL
        rw [if_pos hL] at hfoot
        rw [hb d (.inr hfoot)]
      · rename_i hL
        rw [if_neg hL] at hfoot
        rw [(hh (.inr hfoot)).2]
  cases hop : s.op with
  | move x => simp only [opFn]; rw [e1 (by simp [hop, Op.operands])]
  | assign x => simp only [opFn]; rw [e1 (by simp [hop, Op.operands])]
  | pick c x y => simp only [opFn]; rw [e1 (x := c) (by simp [hop, Op.operands]), e1 (x := x) (by simp [hop, Op.operands]), e1 (x := y) (by simp [hop, Op.operands])]
  | alloc t =>
    unfold fitsFoot at hf; simp only [hop] at hf
    simp only [opFn]
    split
    · exact alloc1 hf
    · rfl
  | box t x =>
    unfold fitsFoot at hf; simp only [hop] at hf
    simp only [opFn]
    rw [e1 (by simp [hop, Op.operands]), alloc1 hf]
  | build t ps =>
    simp only [opFn]
    have : (ps.toList.map fun q => (q.1, V'.ρ q.2)) = ps.toList.map fun q => (q.1, V.ρ q.2) := by
      apply List.map_congr_left
      intro q hq
      rw [e1 (by simp only [hop, Op.operands, List.mem_toArray, List.mem_map]; exact ⟨q, hq, rfl⟩)]
    rw [this]
  | buildSlice t n ps =>
    unfold fitsFoot at hf; simp only [hop] at hf
    simp only [opFn]
    have : (ps.toList.map fun q => (q.1, V'.ρ q.2)) = ps.toList.map fun q => (q.1, V.ρ q.2) := by
      apply List.map_congr_left
      intro q hq
      rw [e1 (by simp only [hop, Op.operands, List.mem_toArray, List.mem_map]; exact ⟨q, hq, rfl⟩)]
    rw [this]
    split
    · split
      · split
        · split
          · exact row1 hf
          · rfl
        · rfl
      · rfl
    · rfl
  | load t x =>
    unfold fitsFoot at hf; simp only [hop] at hf
    simp only [opFn]
    rw [e1 (by simp [hop, Op.operands]), loadA_local hb (fun h => (hh h).1) hf]
  | store t x y =>
    unfold fitsFoot at hf; simp only [hop] at hf
    simp only [opFn]
    rw [e1 (x := x) (by simp [hop, Op.operands]), e1 (x := y) (by simp [hop, Op.operands])]
    unfold storeA
    split
    · rename_i n p T hx
      simp only [hx] at hf
      rw [(hh (.inr hf)).1]
    · rename_i k p T hx
      simp only [hx] at hf
      rw [hb _ (.inr hf)]
    · rfl
  | nilCheck x => simp only [opFn]; rw [e1 (by simp [hop, Op.operands])]
  | binOp op t x y u => simp only [opFn]; rw [e1 (x := x) (by simp [hop, Op.operands]), e1 (x := y) (by simp [hop, Op.operands])]
  | unOp op t x => simp only [opFn]; rw [e1 (by simp [hop, Op.operands])]
  | convert a b x => simp only [opFn]; rw [e1 (by simp [hop, Op.operands])]
  | fieldAddr a x f => simp only [opFn]; rw [e1 (by simp [hop, Op.operands])]
  | indexAddr t x i => simp only [opFn]; rw [e1 (x := x) (by simp [hop, Op.operands]), e1 (x := i) (by simp [hop, Op.operands])]
  | field t x f => simp only [opFn]; rw [e1 (by simp [hop, Op.operands])]
  | index t x i => simp only [opFn]; rw [e1 (x := x) (by simp [hop, Op.operands]), e1 (x := i) (by simp [hop, Op.operands])]
  | extract x i => simp only [opFn]; rw [e1 (by simp [hop, Op.operands])]
  | slice t x lo hi mx =>
    simp only [opFn]
    have o1 : ∀ (o : Option Operand), (∀ y, o = some y → y ∈ s.op.operands) → o.map V'.ρ = o.map V.ρ := by
      intro o ho
      cases o with
      | none => rfl
      | some y => simp [e1 (ho y rfl)]
    rw [e1 (x := x) (by simp [hop, Op.operands]), o1 lo (fun y hy => by subst hy; simp [hop, Op.operands]), o1 hi (fun y hy => by subst hy; simp [hop, Op.operands]), o1 mx (fun y hy => by subst hy; simp [hop, Op.operands])]
  | call c =>
    obtain ⟨cal, as, ts⟩ := c
    cases cal with
    | builtin b =>
      simp only [opFn]
      unfold fitsFoot at hf
      simp only [hop] at hf
      have : as.toList.map V'.ρ = as.toList.map V.ρ := by
        apply List.map_congr_left
        intro q hq
        rw [e1 (by simp only [hop, Op.operands, Call.operands]; simpa using hq)]
      rw [this]
      have mem : ∀ x ∈ as.toList.map V.ρ, (as.toList.all fun x => match V.ρ x with | .lsl k _ _ _ _ _ => F.rb.contains k | _ => true) = true → (match x with | .lsl k _ _ _ _ _ => F.rb.contains k | _ => true) = true := by
        intro x hx hall
        obtain ⟨q, hq, rfl⟩ := List.mem_map.1 hx
        exact List.all_eq_true.1 hall q hq
      unfold builtinE
      split
      · rename_i t tx s x hts has
        simp only [Bool.and_eq_true] at hf
        exact appendA_local hb (hh (.inr hf.1)) (mem x (by rw [has]; simp) hf.2)
      · simp only [Bool.and_eq_true] at hf
        simp only [clearA, (hh (.inr hf.1)).1]
      · rfl
    | value f => simp [opFn]
    | invoke r m => simp [opFn]
  | makeSlice t l c =>
    simp only [opFn]
    unfold fitsFoot at hf; simp only [hop] at hf
    rw [e1 (x := l) (by simp [hop, Op.operands]), e1 (x := c) (by simp [hop, Op.operands])]
    simp only [makeSliceA, (hh (.inr hf)).2]
  | mapEntry t m k =>
    simp only [opFn]
    unfold fitsFoot at hf; simp only [hop] at hf
    rw [e1 (x := m) (by simp [hop, Op.operands]), e1 (x := k) (by simp [hop, Op.operands])]
    simp only [mapEntryA, (hh (.inr hf)).1]
  | entryStore t m st x =>
    simp only [opFn]
    unfold fitsFoot at hf; simp only [hop] at hf
    rw [e1 (x := m) (by simp [hop, Op.operands]), e1 (x := st) (by simp [hop, Op.operands]), e1 (x := x) (by simp [hop, Op.operands])]
    simp only [entryStoreA, (hh (.inr hf)).1]
  | insert t m k x =>
    simp only [opFn]
    unfold fitsFoot at hf; simp only [hop] at hf
    rw [e1 (x := m) (by simp [hop, Op.operands]), e1 (x := k) (by simp [hop, Op.operands]), e1 (x := x) (by simp [hop, Op.operands])]
    simp only [mapPutA, (hh (.inr hf)).1]
  | mapUpdate t m k x =>
    simp only [opFn]
    unfold fitsFoot at hf; simp only [hop] at hf
    rw [e1 (x := m) (by simp [hop, Op.operands]), e1 (x := k) (by simp [hop, Op.operands]), e1 (x := x) (by simp [hop, Op.operands])]
    simp only [mapPutA, (hh (.inr hf)).1]
  | lookup t m k ok =>
    simp only [opFn]
    unfold fitsFoot at hf; simp only [hop] at hf
    rw [e1 (x := m) (by simp [hop, Op.operands]), e1 (x := k) (by simp [hop, Op.operands])]
    have : mapEs V' (V.ρ m) = mapEs V (V.ρ m) := by simp only [mapEs, (hh (.inl hf)).1]
    simp only [mapGetA, this]
  | makeFunc f x y =>
    simp only [opFn]
    have e2 : x.toList.map V'.ρ = x.toList.map V.ρ := by
      apply List.map_congr_left
      intro q hq
      rw [e1 (by simp only [hop, Op.operands]; simp; left; simpa using hq)]
    have e3 : y.toList.map V'.ρ = y.toList.map V.ρ := by
      apply List.map_congr_left
      intro q hq
      rw [e1 (by simp only [hop, Op.operands]; simp; right; simpa using hq)]
    rw [e2, e3]
  | _ => first | (simp [fitsFoot, hop] at hf; done) | (simp [opFn]; done)

/-- What an operation writes, of itself. -/
theorem dlt_foot {C : Cfg} {F : Foot} {s : SOp} {S : St} {D : Dlt} (h : dltOf P C s S D) (hf : fitsFoot C F s (evalA S.tmp) = true) :
    (∀ kc, D.bw = some kc → F.wb.contains kc.1 = true) ∧ (F.hw = false → D.heap = S.heap) := by
  rcases op_cases s.op with ⟨f, as, ts, hop⟩ | ⟨x, hop⟩ | ⟨h1, h2⟩
  · rw [dltOf_call hop] at h
    unfold fitsFoot at hf
    simp only [hop] at hf
    cases hcal : calleeA (evalA S.tmp f) with
    | none => simp [hcal] at h
    | some q =>
      obtain ⟨fn, a, b⟩ := q
      simp only [hcal] at h
      obtain ⟨_, _, hb⟩ := h
      exact ⟨fun kc hk => (by rw [hb] at hk; cases hk), fun hw => (by rw [hw] at hf; cases hf)⟩
  · unfold dltOf at h
    rw [hop] at h
    exact h.elim
  · rw [dltOf_other h1 h2] at h
    cases hE : opFn P C s.dst s.op S.view with
    | none => simp [hE] at h
    | some E =>
      simp only [hE] at h
      obtain ⟨k1, k2⟩ := opFn_foot (V := S.view) hE hf
      subst h
      exact ⟨k1, fun hw => (by obtain ⟨e1, e2⟩ := k2 hw; simp [e1, e2, hset])⟩

theorem dlt_local {C : Cfg} {F : Foot} {s : SOp} {X Y : St} {D : Dlt} (h : dltOf P C s Y D) (hf : fitsFoot C F s (evalA Y.tmp) = true)
    (hρ : ∀ x ∈ s.op.operands, evalA Y.tmp x = evalA X.tmp x) (hb : ∀ k, F.rb.contains k = true ∨ F.wb.contains k = true → bget Y.box k = bget X.box k)
    (hh : F.hr = true ∨ F.hw = true → Y.heap = X.heap) : dltOf P C s X ⟨D.v, D.bw, if F.hw then D.heap else X.heap⟩ := by
  rcases op_cases s.op with ⟨f, as, ts, hop⟩ | ⟨x, hop⟩ | ⟨h1, h2⟩
  · rw [dltOf_call hop] at h ⊢
    unfold fitsFoot at hf
    simp only [hop] at hf
    rw [hop] at hρ
    have hef : evalA X.tmp f = evalA Y.tmp f := (hρ f (by simp [Op.operands, Call.operands])).symm
    have hea : as.toList.map (evalA X.tmp) = as.toList.map (evalA Y.tmp) := by
      apply List.map_congr_left
      intro q hq
      exact (hρ q (by simp only [Op.operands, Call.operands]; simp; right; simpa using hq)).symm
    rw [hef, hea, ← hh (.inr hf)]
    cases hcal : calleeA (evalA Y.tmp f) with
    | none => simp [hcal] at h
    | some q =>
      obtain ⟨fn, a, b⟩ := q
      simp only [hcal] at h ⊢
      simp only [hf, if_true]
      exact h
  · unfold dltOf at h
    rw [hop] at h
    exact h.elim
  · rw [dltOf_other h1 h2] at h ⊢
    have hloc := opFn_local (P := P) (C := C) (F := F) (s := s) (V := Y.view) (V' := X.view) hρ hb (fun he => by simp [St.view, hh he]) hf
    cases hE : opFn P C s.dst s.op Y.view with
    | none => simp [hE] at h
    | some E =>
      simp only [hE] at h
      obtain ⟨k1, k2⟩ := opFn_foot (V := Y.view) hE hf
      subst h
      rw [hloc, hE]
      simp only [Dlt.mk.injEq, true_and]
      cases hw : F.hw with
      | true => simp [hh (.inr hw)]
      | false => obtain ⟨e1, e2⟩ := k2 hw; simp [e1, e2, hset]

/-! ### One run in the text's order, as a row of states -/

def StepD (P : Program) (C : Cfg) (prot : List Nat) (sf : SOp × Foot) (X Y : St) : Prop :=
  (guardA X sf.1.g = some false ∧ Y = X.putO sf.1.dst undefA) ∨
  (guardA X sf.1.g = some true ∧ fitsFootS C prot sf.2 sf.1 (evalA X.tmp) = true ∧ ∃ D, dltOf P C sf.1 X D ∧ Y = X.appD sf.1.dst D)

theorem isLoad (op : Op) : (∃ t x, op = .load t x) ∨ ∀ t x, op ≠ .load t x := by
  cases op <;> first | exact .inl ⟨_, _, rfl⟩ | (right; intro t x h; cases h)

theorem fitsFootS_other {C : Cfg} {prot : List Nat} {F : Foot} {s : SOp} {ρ : Operand → AV} (h : ∀ t x, s.op ≠ .load t x) : fitsFootS C prot F s ρ = fitsFoot C F s ρ := by
  unfold fitsFootS
  split
  · rename_i t x hop; exact absurd hop (h t x)
  · rfl

theorem fitsFoot_S {C : Cfg} {prot : List Nat} {F : Foot} {s : SOp} {ρ : Operand → AV} (h : fitsFoot C F s ρ = true) : fitsFootS C prot F s ρ = true := by
  rcases isLoad s.op with ⟨t, x, hop⟩ | hn
  · unfold fitsFoot at h
    unfold fitsFootS
    simp only [hop] at h ⊢
    split
    · rename_i k p T hx; simpa [hx] using h
    · rename_i n p T hx; simp only [hx] at h; simp [h]
    · rename_i h1 h2
      split at h
      · rename_i k p T hx; exact absurd hx (h1 k p T)
      · exact h
  · rw [fitsFootS_other hn]; exact h

theorem rwpD_S {C : Cfg} {H0 : Heap} : ∀ (l : List (SOp × Foot)) (r : Nat) (S : St) (Q : XE → St → Prop), RWpD P C l Q S → RWpS P C [] H0 r l Q S
  | [], r, S, Q, h => ⟨fun _ n hn => by (cases hn), h⟩
  | o :: l, r, S, Q, h => by
      rw [RWpS]
      refine ⟨fun _ n hn => by (cases hn), ?_⟩
      simp only [RWpD] at h
      cases hg : guardA S o.1.g with
      | none => simp [hg] at h
      | some b =>
        cases b with
        | false => simp only [hg] at h ⊢; exact rwpD_S l _ _ Q h
        | true =>
          simp only [hg] at h ⊢
          refine ⟨fitsFoot_S h.1, ?_⟩
          obtain ⟨D, h3, h4⟩ := stepA_dlt h.2
          exact dlt_stepA' h3 (rwpD_S l _ _ Q h4)

theorem rwpD_row {C : Cfg} {prot : List Nat} {H0 : Heap} : ∀ (l : List (SOp × Foot)) (r : Nat) (S : St) (Q : XE → St → Prop), RWpS P C prot H0 r l Q S →
    ∃ T : Nat → St, T 0 = S ∧ (∀ i sf, l[i]? = some sf → StepD P C prot sf (T i) (T (i + 1))) ∧ Q .normal (T l.length) ∧ (∀ i, i ≤ l.length → i < r → ∀ n ∈ prot, (T i).heap[n]? = H0[n]?)
  | [], r, S, Q, h => ⟨fun _ => S, rfl, fun i sf hi => by simp at hi, h.2, fun i _ hr => h.1 (by omega)⟩
  | sf :: l, r, S, Q, h => by
      rw [RWpS] at h
      obtain ⟨h0, h⟩ := h
      have key : ∃ Y, StepD P C prot sf S Y ∧ RWpS P C prot H0 (r - 1) l Q Y := by
        cases hg : guardA S sf.1.g with
        | none => simp [hg] at h
        | some b =>
          cases b with
          | false => simp only [hg] at h; exact ⟨_, .inl ⟨hg, rfl⟩, h⟩
          | true =>
            simp only [hg] at h
            obtain ⟨h1, h2⟩ := h
            obtain ⟨D, h3, h4⟩ := stepA_dlt h2
            exact ⟨_, .inr ⟨hg, h1, D, h3, rfl⟩, h4⟩
      obtain ⟨Y, h1, h2⟩ := key
      obtain ⟨T, t0, ts, tq, tp⟩ := rwpD_row l (r - 1) Y Q h2
      refine ⟨fun i => match i with | 0 => S | i + 1 => T i, rfl, fun i sf' hi => ?_, tq, fun i hi hr => ?_⟩
      · cases i with
        | zero => simp only [List.getElem?_cons_zero, Option.some.injEq] at hi; subst hi; simpa [t0] using h1
        | succ i => exact ts i sf' (by simpa using hi)
      · cases i with
        | zero => exact h0 (by omega)
        | succ i => exact tp i (by simpa using hi) (by omega)

theorem dlt_load {C : Cfg} {s : SOp} {S : St} {D : Dlt} {t : TypeId} {x : Operand} (hop : s.op = .load t x) : dltOf P C s S D ↔ ∃ v, loadA S.view t (evalA S.tmp x) = some v ∧ D = ⟨v, none, S.heap⟩ := by
  rw [dltOf_other (by rw [hop]; intro f as ts h; cases h) (by rw [hop]; intro x h; cases h)]
  simp only [hop, opFn]
  have hv : S.view.ρ x = evalA S.tmp x := rfl
  rw [hv]
  cases hl : loadA S.view t (evalA S.tmp x) with
  | none => simp
  | some v => simp [pv, hset]

theorem dlt_footS {C : Cfg} {prot : List Nat} {F : Foot} {s : SOp} {S : St} {D : Dlt} (h : dltOf P C s S D) (hf : fitsFootS C prot F s (evalA S.tmp) = true) :
    (∀ kc, D.bw = some kc → F.wb.contains kc.1 = true) ∧ (F.hw = false → D.heap = S.heap) := by
  rcases isLoad s.op with ⟨t, x, hop⟩ | hn
  · obtain ⟨v, _, rfl⟩ := (dlt_load hop).1 h
    exact ⟨fun kc hk => by (cases hk), fun _ => rfl⟩
  · rw [fitsFootS_other hn] at hf; exact dlt_foot h hf

theorem dlt_localS {C : Cfg} {prot : List Nat} {F : Foot} {s : SOp} {X Y : St} {D : Dlt} (h : dltOf P C s Y D) (hf : fitsFootS C prot F s (evalA Y.tmp) = true)
    (hρ : ∀ x ∈ s.op.operands, evalA Y.tmp x = evalA X.tmp x) (hb : ∀ k, F.rb.contains k = true ∨ F.wb.contains k = true → bget Y.box k = bget X.box k)
    (hh : F.hr = true ∨ F.hw = true → Y.heap = X.heap) (hp : F.rb.contains stableN = true → ∀ n ∈ prot, Y.heap[n]? = X.heap[n]?) : dltOf P C s X ⟨D.v, D.bw, if F.hw then D.heap else X.heap⟩ := by
  rcases isLoad s.op with ⟨t, x, hop⟩ | hn
  · obtain ⟨v, hv, rfl⟩ := (dlt_load hop).1 h
    rw [dlt_load hop]
    have hx : evalA Y.tmp x = evalA X.tmp x := hρ x (by simp [hop, Op.operands])
    refine ⟨v, ?_, ?_⟩
    · rw [← hx]
      unfold fitsFootS at hf
      simp only [hop] at hf
      have hv' := hv
      unfold loadA at hv ⊢
      split at hv
      · rename_i n p T hval
        simp only [hval] at hf ⊢
        simp only [Bool.or_eq_true, Bool.and_eq_true] at hf
        have : X.view.hget n = Y.view.hget n := by
          simp only [St.view]
          rcases hf with hf | hf
          · rw [hh (.inl hf)]
          · exact (hp hf.1 n (by simpa using hf.2)).symm
        rw [this]; exact hv
      · rename_i k p T hval
        simp only [hval] at hf ⊢
        have : X.view.bget k = Y.view.bget k := (hb k (.inl hf)).symm
        rw [this]; exact hv
      · cases hv
    · simp only
      cases hw : F.hw with
      | true => simp [hh (.inr hw)]
      | false => simp
  · rw [fitsFootS_other hn] at hf; exact dlt_local h hf hρ hb hh

theorem tget_putO (S : St) (d : Option Nat) (v : AV) (t : Nat) : tget (S.putO d v).tmp t = if d = some t then v else tget S.tmp t := by
  cases d with
  | none => simp [St.putO]
  | some d =>
    simp only [St.putO, tget]
    by_cases h : t = d
    · subst h; simp
    · have : ¬ d = t := fun e => h e.symm
      simp [h, this]

theorem tget_appD (S : St) (d : Option Nat) (D : Dlt) (t : Nat) : tget (S.appD d D).tmp t = if d = some t then D.v else tget S.tmp t := by
  cases d with
  | none => simp [St.appD]
  | some d =>
    simp only [St.appD, tget]
    by_cases h : t = d
    · subst h; simp
    · have : ¬ d = t := fun e => h e.symm
      simp [h, this]

theorem bget_appD (S : St) (d : Option Nat) (D : Dlt) (k : Nat) : bget (S.appD d D).box k = match D.bw with | some (j, c) => if k = j then some c else bget S.box k | none => bget S.box k := by
  unfold St.appD
  cases D.bw with
  | none => rfl
  | some jc => obtain ⟨j, c⟩ := jc; simp [bget]

/-- What a step leaves alone. -/
theorem StepD.stay {C : Cfg} {prot : List Nat} {sf : SOp × Foot} {X Y : St} (h : StepD P C prot sf X Y) :
    (∀ t, sf.1.dst ≠ some t → tget Y.tmp t = tget X.tmp t) ∧ (∀ k, sf.2.wb.contains k = false → bget Y.box k = bget X.box k) ∧ (sf.2.hw = false → Y.heap = X.heap) := by
  rcases h with ⟨_, rfl⟩ | ⟨_, hf, D, hD, rfl⟩
  · refine ⟨fun t ht => by rw [tget_putO, if_neg ht], fun k _ => by rw [putO_box], fun _ => putO_heap _ _ _⟩
  · obtain ⟨h1, h2⟩ := dlt_footS hD hf
    refine ⟨fun t ht => by rw [tget_appD, if_neg ht], fun k hk => ?_, h2⟩
    rw [bget_appD]
    cases hb : D.bw with
    | none => rfl
    | some jc =>
      obtain ⟨j, c⟩ := jc
      simp only
      have := h1 (j, c) hb
      have : k ≠ j := fun e => by subst e; rw [hk] at this; cases this
      simp [this]

/-- The relation asks of what can be looked up alone. -/
theorem SRel.congr {N : Nat} {g : List G} {bx : Nat → Option G} {X Y : St} {a : Act} {w : World} (h : SRel P N g bx X a w) (h1 : ∀ t, tget Y.tmp t = tget X.tmp t) (h2 : ∀ k, bget Y.box k = bget X.box k) (h3 : Y.heap = X.heap) :
    SRel P N g bx Y a w :=
  ⟨h.size, fun t => by rw [h1]; exact h.env t, fun k hk => h.box1 k (by rw [← h2]; exact hk), fun k c hk => h.box2 k c (by rw [← h2]; exact hk), by rw [h3]; exact h.sim, h.dis, fun k x n y b q1 q2 q3 => h.apart k x n y b q1 q2 (by rw [← h3]; exact q3)⟩

theorem sopsOf_get {C : Cfg} {ops : Array Oper} : ∀ (l : List Oper) (ss : List SOp), sopsOf C ops l = some ss → ss.length = l.length ∧ ∀ (i : Nat) (o : Oper), l[i]? = some o → ∃ s, ss[i]? = some s ∧ sopOf C ops o = some s
  | [], ss, h => by simp only [sopsOf, Option.some.injEq] at h; subst h; exact ⟨rfl, fun i o hi => by simp at hi⟩
  | o :: l, ss, h => by
      simp only [sopsOf] at h
      cases hx : sopOf C ops o with
      | none => simp [hx] at h
      | some s =>
        cases hy : sopsOf C ops l with
        | none => simp [hx, hy] at h
        | some sr =>
          simp only [hx, hy, Option.some.injEq] at h
          subst h
          obtain ⟨h1, h2⟩ := sopsOf_get l sr hy
          refine ⟨by simp [h1], fun i o' hi => ?_⟩
          cases i with
          | zero => simp only [List.getElem?_cons_zero, Option.some.injEq] at hi; subst hi; exact ⟨s, rfl, hx⟩
          | succ i => simp only [List.getElem?_cons_succ] at hi ⊢; exact h2 i o' hi

/-! ### What comes before what -/

theorem befStep_bit {acc : List Nat} {o : Oper} {i : Nat} (h : (befStep acc o).testBit i = true) : ∃ e ∈ o.after, Region.binds .any e = true ∧ (e.on = i ∨ (acc.getD e.on 0).testBit i = true) := by
  unfold befStep at h
  have : ∀ l : List Edge, (l.foldr (fun e s => if Region.binds .any e then s ||| (2 ^ e.on ||| acc.getD e.on 0) else s) 0).testBit i = true → ∃ e ∈ l, Region.binds .any e = true ∧ (e.on = i ∨ (acc.getD e.on 0).testBit i = true) := by
    intro l
    induction l with
    | nil => intro h; simp at h
    | cons e l ih =>
      intro h
      simp only [List.foldr_cons] at h
      split at h
      · rename_i hb
        simp only [Nat.testBit_or, Bool.or_eq_true, Nat.testBit_two_pow, decide_eq_true_eq] at h
        rcases h with h | h
        · obtain ⟨e', h1, h2⟩ := ih h; exact ⟨e', by simp [h1], h2⟩
        · exact ⟨e, by simp, hb, h⟩
      · obtain ⟨e', h1, h2⟩ := ih h; exact ⟨e', by simp [h1], h2⟩
  obtain ⟨e, h1, h2⟩ := this _ h
  exact ⟨e, by simpa using h1, h2⟩

theorem befGo_spec : ∀ (l : List Oper) (acc : List Nat), (befGo l acc).length = acc.length + l.length ∧ (befGo l acc).take acc.length = acc ∧
    ∀ (j : Nat) (o : Oper), l[j]? = some o → (befGo l acc).getD (acc.length + j) 0 = befStep ((befGo l acc).take (acc.length + j)) o
  | [], acc => ⟨rfl, by simp [befGo], fun j o h => by simp at h⟩
  | o :: l, acc => by
      obtain ⟨h1, h2, h3⟩ := befGo_spec l (acc ++ [befStep acc o])
      simp only [List.length_append, List.length_singleton] at h1 h2 h3
      simp only [befGo]
      have htake : (befGo l (acc ++ [befStep acc o])).take acc.length = acc := by
        have := congrArg (List.take acc.length) h2
        rw [List.take_take] at this
        simpa [Nat.min_eq_left] using this
      refine ⟨by rw [h1]; simp; omega, htake, fun j o' hj => ?_⟩
      cases j with
      | zero =>
        simp only [List.getElem?_cons_zero, Option.some.injEq] at hj
        subst hj
        simp only [Nat.add_zero, htake]
        have : (befGo l (acc ++ [befStep acc o]))[acc.length]? = some (befStep acc o) := by
          have e := congrArg (fun l : List Nat => l[acc.length]?) h2
          rw [List.getElem?_take, if_pos (by omega)] at e
          rw [e]
          simp
        simp [List.getD, this]
      | succ j =>
        simp only [List.getElem?_cons_succ] at hj
        have := h3 j o' hj
        rw [show acc.length + 1 + j = acc.length + (j + 1) from by omega] at this
        exact this

def Closed (ops : Array Oper) (L : Nat → Prop) : Prop := ∀ j o, ops[j]? = some o → L j → ∀ e ∈ o.after, Region.binds .any e = true → L e.on

theorem bef_closed {ops : Array Oper} {L : Nat → Prop} (hL : Closed ops L) {i : Nat} : ∀ (n j : Nat), j < n → ∀ o, ops[j]? = some o → (∀ e ∈ o.after, Region.binds .any e = true → L e.on) →
    ((befGo ops.toList []).getD j 0).testBit i = true → L i := by
  intro n
  induction n with
  | zero => intro j h; omega
  | succ n ih =>
    intro j hj o ho he hb
    obtain ⟨h1, h2, h3⟩ := befGo_spec ops.toList []
    have e1 := h3 j o (by simpa using ho)
    simp only [List.length_nil, Nat.zero_add] at e1
    rw [e1] at hb
    obtain ⟨e, q1, q2, q3⟩ := befStep_bit hb
    rcases q3 with rfl | q3
    · exact he e q1 q2
    · have hlt : e.on < j := by
        rcases Nat.lt_or_ge e.on j with h | h
        · exact h
        · simp only [List.getD, List.getElem?_take] at q3
          rw [if_neg (by omega)] at q3
          simp at q3
      have hjn : j < ops.size := by
        rcases Nat.lt_or_ge j ops.size with h | h
        · exact h
        · simp [Array.getElem?_eq_none h] at ho
      have heq : ((befGo ops.toList []).take j).getD e.on 0 = (befGo ops.toList []).getD e.on 0 := by
        simp only [List.getD, List.getElem?_take]
        rw [if_pos hlt]
      rw [heq] at q3
      have hon : ops[e.on]? = some ops[e.on] := by simp
      exact ih e.on (by omega) _ hon (hL e.on _ hon (he e q1 q2)) q3

theorem mem_tmps {x : Oper} {ops : Array Oper} {t : Nat} (h : Operand.tmp t ∈ x.op.operands) : t ∈ x.looksAt ops := by
  unfold Oper.looksAt
  apply List.mem_append_left
  simp only [List.mem_filterMap]
  exact ⟨.tmp t, by simpa using h, rfl⟩

theorem evalA_same {X Y : List (Nat × AV)} {x : Operand} (h : ∀ t, x = .tmp t → tget Y t = tget X t) : evalA Y x = evalA X x := by
  cases x with
  | tmp t => exact h t rfl
  | _ => rfl

theorem draw_core (hm : P.follows .mixedOrders = true) {C : Cfg} (hZ : ZOK P C.Z) (id : Nat) (ops : Array Oper) {ss : List SOp} {S : St} {Q : XE → St → Prop} (hss : sopsOf C ops ops.toList = some ss) (ft : Oper → Foot)
    (hback : edgesBack ops.toList = true) (hpairs : pairsApart ops (ops.toList.map ft) (befGo ops.toList []) = true) (prot : List Nat) (R : Nat) (hR : R = ops.size ∨ released (ops.toList.map ft) (befGo ops.toList []) ops.size R = true ∨ prot = []) (hrun : RWpS P C prot S.heap (R + 1) (ss.zip (ops.toList.map ft)) Q S) :
    ∃ e S', Q e S' ∧ CRun P C.N (.region id ops true) S e S' := by
  obtain ⟨hsl, hsget⟩ := sopsOf_get ops.toList ss hss
  obtain ⟨T, t0, tstep, tq, tprot⟩ := rwpD_row _ _ S Q hrun
  have hlen : (ss.zip (ops.toList.map ft)).length = ops.size := by simp [hsl]
  rw [hlen] at tq tprot
  -- the i-th operation, its plain form and its footprint
  have parts : ∀ (i : Nat) (o : Oper), ops[i]? = some o → ∃ s, sopOf C ops o = some s ∧ StepD P C prot (s, ft o) (T i) (T (i + 1)) := by
    intro i o ho
    obtain ⟨s, h1, h2⟩ := hsget i o (by simpa using ho)
    refine ⟨s, h2, tstep i _ ?_⟩
    rw [List.getElem?_zip_eq_some]
    exact ⟨h1, by simp [ho]⟩
  have hbefore : ∀ (i j : Nat) (oi oj : Oper), ops[i]? = some oi → ops[j]? = some oj → i < j → ((befGo ops.toList []).getD j 0).testBit i = false → oi.apart ops oj = true ∧ (ft oi).apart (ft oj) = true := by
    intro i j oi oj hi hj hlt hb
    have hjn : j < ops.size := by
      rcases Nat.lt_or_ge j ops.size with h | h
      · exact h
      · simp [Array.getElem?_eq_none h] at hj
    unfold pairsApart at hpairs
    rw [List.all_eq_true] at hpairs
    have h1 := hpairs j (by simpa using hjn)
    rw [List.all_eq_true] at h1
    have h2 := h1 i (by simpa using hlt)
    rw [hb, Bool.false_or, Bool.and_eq_true] at h2
    have e1 : ops.getD i default = oi := by simp [hi]
    have e2 : ops.getD j default = oj := by simp [hj]
    have e3 : (ops.toList.map ft).getD i default = ft oi := by simp [List.getD, hi]
    have e4 : (ops.toList.map ft).getD j default = ft oj := by simp [List.getD, hj]
    rw [e1, e2, e3, e4] at h2
    exact h2
  -- stability of the row of states
  have stab : ∀ (p : Oper → Bool) (α : Type) (f : St → α), (∀ i o, ops[i]? = some o → p o = false → f (T (i + 1)) = f (T i)) →
      ∀ i j, i ≤ j → j ≤ ops.size → (∀ k o, ops[k]? = some o → i ≤ k → k < j → p o = false) → f (T j) = f (T i) := by
    intro p α f hf i j hij hj hk
    induction j with
    | zero =>
      have h0 : i = 0 := by omega
      rw [h0]
    | succ j ih =>
      by_cases he : i = j + 1
      · subst he; rfl
      · have hon : ops[j]? = some ops[j] := by simp
        rw [hf j _ hon (hk j _ hon (by omega) (by omega))]
        exact ih (by omega) (by omega) (fun k o ho h1 h2 => hk k o ho h1 (by omega))
  have stT : ∀ (t i j : Nat), i ≤ j → j ≤ ops.size → (∀ k o, ops[k]? = some o → i ≤ k → k < j → o.dst ≠ some t) → tget (T j).tmp t = tget (T i).tmp t := by
    intro t i j hij hj hk
    refine stab (fun o => o.dst == some t) _ (fun X => tget X.tmp t) (fun k o ho hp => ?_) i j hij hj (fun k o ho h1 h2 => by simpa using hk k o ho h1 h2)
    obtain ⟨s, h1, h2⟩ := parts k o ho
    exact h2.stay.1 t (by simp only; rw [(sopOf_spec h1).2.1]; simpa using hp)
  have stB : ∀ (b i j : Nat), i ≤ j → j ≤ ops.size → (∀ k o, ops[k]? = some o → i ≤ k → k < j → (ft o).wb.contains b = false) → bget (T j).box b = bget (T i).box b := by
    intro b i j hij hj hk
    refine stab (fun o => (ft o).wb.contains b) _ (fun X => bget X.box b) (fun k o ho hp => ?_) i j hij hj hk
    obtain ⟨s, h1, h2⟩ := parts k o ho
    exact h2.stay.2.1 b hp
  have stH : ∀ (i j : Nat), i ≤ j → j ≤ ops.size → (∀ k o, ops[k]? = some o → i ≤ k → k < j → (ft o).hw = false) → (T j).heap = (T i).heap := by
    intro i j hij hj hk
    refine stab (fun o => (ft o).hw) _ (fun X => X.heap) (fun k o ho hp => ?_) i j hij hj hk
    obtain ⟨s, h1, h2⟩ := parts k o ho
    exact h2.stay.2.2 hp
  refine ⟨.normal, T ops.size, tq, ?_⟩
  intro g bx a w hr
  refine wp_region_any hm ?_
  -- the invariant
  have main : ∀ (fuel : Nat) (listed : Array Bool) (a1 : Act) (w1 : World) (X : St) (g1 : List G) (bx1 : Nat → Option G),
      listed.size = ops.size → (List.range ops.size).countP (fun i => !listed.getD i true) ≤ fuel →
      Closed ops (fun i => listed.getD i false = true) →
      (∀ t m, m ≤ ops.size → (∀ j o, ops[j]? = some o → o.dst = some t → (listed.getD j false = true ↔ j < m)) → tget X.tmp t = tget (T m).tmp t) →
      (∀ b m, m ≤ ops.size → (∀ j o, ops[j]? = some o → (ft o).wb.contains b = true → (listed.getD j false = true ↔ j < m)) → bget X.box b = bget (T m).box b) →
      (∀ m, m ≤ ops.size → (∀ j o, ops[j]? = some o → (ft o).hw = true → (listed.getD j false = true ↔ j < m)) → X.heap = (T m).heap) →
      SRel P C.N g1 bx1 X a1 w1 → a1.defers = a.defers → Ext g (Own g S.heap bx) w g1 (Own g1 X.heap bx1) w1 →
      wpAny P .any ops (CPost P C.N g bx S w a .normal (T ops.size)) fuel listed a1 w1 := by
    intro fuel
    have fin : ∀ (listed : Array Bool) (a1 : Act) (w1 : World) (X : St) (g1 : List G) (bx1 : Nat → Option G), listed.size = ops.size → Region.ready .any ops listed = [] →
      (∀ t m, m ≤ ops.size → (∀ j o, ops[j]? = some o → o.dst = some t → (listed.getD j false = true ↔ j < m)) → tget X.tmp t = tget (T m).tmp t) →
      (∀ b m, m ≤ ops.size → (∀ j o, ops[j]? = some o → (ft o).wb.contains b = true → (listed.getD j false = true ↔ j < m)) → bget X.box b = bget (T m).box b) →
      (∀ m, m ≤ ops.size → (∀ j o, ops[j]? = some o → (ft o).hw = true → (listed.getD j false = true ↔ j < m)) → X.heap = (T m).heap) →
      SRel P C.N g1 bx1 X a1 w1 → a1.defers = a.defers → Ext g (Own g S.heap bx) w g1 (Own g1 X.heap bx1) w1 → CPost P C.N g bx S w a .normal (T ops.size) .normal a1 w1 := by
      intro listed a1 w1 X g1 bx1 hsz hready hT hB hH hX hd hE
      have all : ∀ n j, j < n → j < ops.size → listed.getD j false = true := by
        intro n
        induction n with
        | zero => intro j h; omega
        | succ n ih =>
          intro j hj hjn
          by_cases hl : listed.getD j false = true
          · exact hl
          · exfalso
            have hon : ops[j]? = some ops[j] := by simp
            have : j ∈ Region.ready .any ops listed := by
              rw [mem_ready]
              refine ⟨?_, _, hon, fun e he hb => ?_⟩
              · have hlt : j < listed.size := by omega
                simp [hlt] at hl ⊢
                exact hl
              · unfold edgesBack at hback
                rw [List.all_eq_true] at hback
                have h1 := hback j (by simpa using hjn)
                rw [List.all_eq_true] at h1
                have h2 := h1 e (by simpa [List.getD, hjn] using he)
                simp only [hb, Bool.not_true, Bool.false_or, decide_eq_true_eq] at h2
                exact ih e.on (by omega) (by omega)
            rw [hready] at this
            cases this
      have all' : ∀ j o, ops[j]? = some o → (listed.getD j false = true ↔ j < ops.size) := by
        intro j o ho
        have hjn : j < ops.size := by
          rcases Nat.lt_or_ge j ops.size with h | h
          · exact h
          · simp [Array.getElem?_eq_none h] at ho
        exact ⟨fun _ => hjn, fun _ => all (j + 1) j (by omega) hjn⟩
      have e1 : ∀ t, tget (T ops.size).tmp t = tget X.tmp t := fun t => (hT t ops.size (Nat.le_refl _) (fun j o ho _ => all' j o ho)).symm
      have e2 : ∀ b, bget (T ops.size).box b = bget X.box b := fun b => (hB b ops.size (Nat.le_refl _) (fun j o ho _ => all' j o ho)).symm
      have e3 : (T ops.size).heap = X.heap := (hH ops.size (Nat.le_refl _) (fun j o ho _ => all' j o ho)).symm
      exact ⟨g1, bx1, rfl, hX.congr e1 e2 e3, hd, by rw [e3]; exact hE⟩
    induction fuel with
    | zero =>
      intro listed a1 w1 X g1 bx1 hsz hcnt hcl hT hB hH hX hd hE
      have hready : Region.ready .any ops listed = [] := by
        cases hrd : Region.ready .any ops listed with
        | nil => rfl
        | cons i r =>
          exfalso
          have hi : i ∈ Region.ready .any ops listed := by rw [hrd]; simp
          obtain ⟨h1, o, ho, _⟩ := mem_ready.1 hi
          have hin : i < ops.size := by
            rcases Nat.lt_or_ge i ops.size with h | h
            · exact h
            · simp [Array.getElem?_eq_none h] at ho
          have : 0 < (List.range ops.size).countP (fun i => !listed.getD i true) := List.countP_pos_iff.2 ⟨i, by simpa using hin, by rw [h1]; rfl⟩
          omega
      exact ⟨hready, fin listed a1 w1 X g1 bx1 hsz hready hT hB hH hX hd hE⟩
    | succ fuel ih =>
      intro listed a1 w1 X g1 bx1 hsz hcnt hcl hT hB hH hX hd hE
      refine ⟨fun hready => fin listed a1 w1 X g1 bx1 hsz hready hT hB hH hX hd hE, fun i hi => ?_⟩
      obtain ⟨hun, oi, hoi, hedges⟩ := mem_ready.1 hi
      have hin : i < ops.size := by
        rcases Nat.lt_or_ge i ops.size with h | h
        · exact h
        · simp [Array.getElem?_eq_none h] at hoi
      have hunf : ¬ listed.getD i false = true := by
        have hlt : i < listed.size := by omega
        simp [hlt] at hun ⊢
        exact hun
      obtain ⟨s, hs, hstep⟩ := parts i oi hoi
      obtain ⟨hdN, hsd, hsop, hsg⟩ := sopOf_spec hs
      -- what conflicts with i is ordered with it
      have order : ∀ j oj, ops[j]? = some oj → (i < j → oi.apart ops oj = true → (ft oi).apart (ft oj) = true → False) →
          (j < i → oj.apart ops oi = true → (ft oj).apart (ft oi) = true → False) → (listed.getD j false = true ↔ j < i) := by
        intro j oj hoj h1 h2
        have hjn : j < ops.size := by
          rcases Nat.lt_or_ge j ops.size with h | h
          · exact h
          · simp [Array.getElem?_eq_none h] at hoj
        rcases Nat.lt_trichotomy j i with h | h | h
        · refine ⟨fun _ => h, fun _ => ?_⟩
          cases hb : ((befGo ops.toList []).getD i 0).testBit j with
          | true => exact bef_closed hcl (i + 1) i (by omega) oi hoi (fun e he hbd => hedges e he hbd) hb
          | false => obtain ⟨q1, q2⟩ := hbefore j i oj oi hoj hoi h hb; exact (h2 h q1 q2).elim
        · subst h; exact ⟨fun h => (hunf h).elim, fun h => by omega⟩
        · refine ⟨fun hl => ?_, fun h' => by omega⟩
          exfalso
          cases hb : ((befGo ops.toList []).getD j 0).testBit i with
          | true => exact hunf (bef_closed hcl (j + 1) j (by omega) oj hoj (hcl j oj hoj hl) hb)
          | false => obtain ⟨q1, q2⟩ := hbefore i j oi oj hoi hoj h hb; exact h1 h q1 q2
      -- agreement with the row of states at i
      have agT : ∀ t, (t ∈ oi.looksAt ops ∨ oi.dst = some t) → tget X.tmp t = tget (T i).tmp t := by
        intro t ht
        refine hT t i (by omega) (fun j oj hoj hdj => order j oj hoj (fun _ hap _ => ?_) (fun _ hap _ => ?_))
        · obtain ⟨p1, p2, p3⟩ := Oper.apart_spec hap
          rcases ht with ht | ht
          · exact p3 t hdj ht
          · exact p2 t ht hdj
        · obtain ⟨p1, p2, p3⟩ := Oper.apart_spec hap
          rcases ht with ht | ht
          · exact p1 t hdj ht
          · exact p2 t hdj ht
      have agB : ∀ b, ((ft oi).rb.contains b = true ∨ (ft oi).wb.contains b = true) → bget X.box b = bget (T i).box b := by
        intro b hb
        refine hB b i (by omega) (fun j oj hoj hdj => order j oj hoj (fun _ _ hap => ?_) (fun _ _ hap => ?_))
        · simp only [Foot.apart, Bool.and_eq_true, List.all_eq_true, Bool.not_eq_true'] at hap
          obtain ⟨⟨⟨p1, p2⟩, _⟩, _⟩ := hap
          rcases hb with hb | hb
          · have := p2 b (by simpa using hdj); rw [hb] at this; cases this
          · have := (p1 b (by simpa using hb)).2; rw [hdj] at this; cases this
        · simp only [Foot.apart, Bool.and_eq_true, List.all_eq_true, Bool.not_eq_true'] at hap
          obtain ⟨⟨⟨p1, p2⟩, _⟩, _⟩ := hap
          have := p1 b (by simpa using hdj)
          rcases hb with hb | hb
          · rw [hb] at this; cases this.1
          · rw [hb] at this; cases this.2
      have agH : ((ft oi).hr = true ∨ (ft oi).hw = true) → X.heap = (T i).heap := by
        intro hb
        refine hH i (by omega) (fun j oj hoj hdj => order j oj hoj (fun _ _ hap => ?_) (fun _ _ hap => ?_))
        · simp only [Foot.apart, Bool.and_eq_true, Bool.not_eq_true', hdj] at hap
          rcases hb with hb | hb <;> simp [hb] at hap
        · simp only [Foot.apart, Bool.and_eq_true, Bool.not_eq_true', hdj] at hap
          rcases hb with hb | hb <;> simp [hb] at hap
      -- the new state
      have gslot : guardA X s.g = guardA (T i) s.g := by
        unfold guardOf at hsg
        cases hgd : oi.guard with
        | none => simp only [hgd, Option.some.injEq] at hsg; rw [← hsg]; rfl
        | some jw =>
          obtain ⟨j, want⟩ := jw
          simp only [hgd] at hsg
          cases hdd : (ops[j]?).bind (·.dst) with
          | none => simp [hdd] at hsg
          | some d =>
            simp only [hdd, Option.some.injEq] at hsg
            rw [← hsg]
            simp only [guardA]
            rw [agT d (.inl (by unfold Oper.looksAt; apply List.mem_append_right; simp [hgd, hdd]))]
      have hcnt' : (List.range ops.size).countP (fun k => !(listed.setIfInBounds i true).getD k true) ≤ fuel := by
        have : (List.range ops.size).countP (fun k => !(listed.setIfInBounds i true).getD k true) < (List.range ops.size).countP (fun k => !listed.getD k true) := by
          have gen : ∀ (l : List Nat), i ∈ l → l.Nodup → l.countP (fun k => !(listed.setIfInBounds i true).getD k true) < l.countP (fun k => !listed.getD k true) := by
            intro l
            have setD : ∀ k, (listed.setIfInBounds i true).getD k true = if k = i then true else listed.getD k true := by
              intro k
              by_cases hk : k = i
              · subst hk
                have hlt : k < listed.size := by omega
                simp [hlt]
              · simp only [hk, if_false, Array.getD_eq_getD_getElem?, Array.getElem?_setIfInBounds]
                rw [if_neg (fun e => hk e.symm)]
            have rest : ∀ (l : List Nat), i ∉ l → l.countP (fun k => !(listed.setIfInBounds i true).getD k true) = l.countP (fun k => !listed.getD k true) := by
              intro l hl
              apply List.countP_congr
              intro k hk
              have hki : k ≠ i := fun e => hl (e ▸ hk)
              rw [setD k, if_neg hki]
            induction l with
            | nil => intro h; cases h
            | cons k l ihl =>
              intro hmem hnd
              rw [List.nodup_cons] at hnd
              simp only [List.countP_cons]
              by_cases hk : k = i
              · subst hk
                rw [rest l hnd.1, setD k, if_pos rfl, hun]
                simp
              · have hm' : i ∈ l := by
                  rcases List.mem_cons.1 hmem with h | h
                  · exact (hk h.symm).elim
                  · exact h
                have := ihl hm' hnd.2
                rw [setD k, if_neg hk]
                omega
          exact gen _ (by simpa using hin) List.nodup_range
        omega
      have hl' : ∀ j, (listed.setIfInBounds i true).getD j false = true ↔ (j = i ∨ listed.getD j false = true) := by
        intro j
        by_cases hj : j = i
        · subst hj
          have hlt : j < listed.size := by omega
          simp [hlt]
        · simp only [hj, false_or, Array.getD_eq_getD_getElem?, Array.getElem?_setIfInBounds]
          rw [if_neg (fun e => hj e.symm)]
      have hcl' : Closed ops (fun j => (listed.setIfInBounds i true).getD j false = true) := by
        intro j oj hoj hj e he hb
        rw [hl'] at hj ⊢
        rcases hj with rfl | hj
        · rw [hoi] at hoj; cases hoj
          exact .inr (hedges e he hb)
        · exact .inr (hcl j oj hoj hj e he hb)
      -- what the run of i makes
      have next : ∀ (X' : St) (a2 : Act) (w2 : World) (g2 : List G) (bx2 : Nat → Option G),
          (∀ t, tget X'.tmp t = if oi.dst = some t then tget (T (i + 1)).tmp t else tget X.tmp t) →
          (∀ b, bget X'.box b = if (ft oi).wb.contains b = true then bget (T (i + 1)).box b else bget X.box b) →
          X'.heap = (if (ft oi).hw = true then (T (i + 1)).heap else X.heap) →
          SRel P C.N g2 bx2 X' a2 w2 → a2.defers = a1.defers → Ext g1 (Own g1 X.heap bx1) w1 g2 (Own g2 X'.heap bx2) w2 →
          wpAny P .any ops (CPost P C.N g bx S w a .normal (T ops.size)) fuel (listed.setIfInBounds i true) a2 w2 := by
        intro X' a2 w2 g2 bx2 k1 k2 k3 k4 k5 k6
        -- a cut for the new list
        have cut : ∀ m, m ≤ ops.size → ((listed.setIfInBounds i true).getD i false = true ↔ i < m) → i < m := fun m _ h => h.1 ((hl' i).2 (.inl rfl))
        refine ih _ a2 w2 X' g2 bx2 (by simpa using hsz) hcnt' hcl' (fun t m hm' hc => ?_) (fun b m hm' hc => ?_) (fun m hm' hc => ?_) k4 (k5.trans hd) (hE.trans k6)
        · rw [k1]
          by_cases ht : oi.dst = some t
          · rw [if_pos ht]
            have hi' := cut m hm' (hc i oi hoi ht)
            refine (stT t (i + 1) m (by omega) hm' (fun k o ho q1 q2 hdk => ?_)).symm
            have hlk := ((hl' k).1 ((hc k o ho hdk).2 q2)).resolve_left (by omega)
            have := (order k o ho (fun _ hap _ => (Oper.apart_spec hap).2.1 t ht hdk) (fun hlt => by omega)).1 hlk
            omega
          · rw [if_neg ht]
            refine hT t m hm' (fun j oj hoj hdj => ?_)
            rw [← hc j oj hoj hdj, hl']
            refine ⟨.inr, fun h => h.resolve_left (fun e => ?_)⟩
            subst e; rw [hoi] at hoj; cases hoj; exact ht hdj
        · rw [k2]
          by_cases ht : (ft oi).wb.contains b = true
          · rw [if_pos ht]
            have hi' := cut m hm' (hc i oi hoi ht)
            refine (stB b (i + 1) m (by omega) hm' (fun k o ho q1 q2 => ?_)).symm
            cases hdk : (ft o).wb.contains b with
            | false => rfl
            | true =>
              exfalso
              have hlk := ((hl' k).1 ((hc k o ho hdk).2 q2)).resolve_left (by omega)
              have := (order k o ho (fun _ _ hap => by
                simp only [Foot.apart, Bool.and_eq_true, List.all_eq_true, Bool.not_eq_true'] at hap
                have := (hap.1.1.1 b (by simpa using ht)).2
                rw [hdk] at this; cases this) (fun hlt => by omega)).1 hlk
              omega
          · rw [if_neg ht]
            refine hB b m hm' (fun j oj hoj hdj => ?_)
            rw [← hc j oj hoj hdj, hl']
            refine ⟨.inr, fun h => h.resolve_left (fun e => ?_)⟩
            subst e; rw [hoi] at hoj; cases hoj; exact ht hdj
        · rw [k3]
          by_cases ht : (ft oi).hw = true
          · rw [if_pos ht]
            have hi' := cut m hm' (hc i oi hoi ht)
            refine (stH (i + 1) m (by omega) hm' (fun k o ho q1 q2 => ?_)).symm
            cases hdk : (ft o).hw with
            | false => rfl
            | true =>
              exfalso
              have hlk := ((hl' k).1 ((hc k o ho hdk).2 q2)).resolve_left (by omega)
              have := (order k o ho (fun _ _ hap => by simp [Foot.apart, ht, hdk] at hap) (fun hlt => by omega)).1 hlk
              omega
          · rw [if_neg ht]
            refine hH m hm' (fun j oj hoj hdj => ?_)
            rw [← hc j oj hoj hdj, hl']
            refine ⟨.inr, fun h => h.resolve_left (fun e => ?_)⟩
            subst e; rw [hoi] at hoj; cases hoj; exact ht hdj
      unfold wpOp
      simp only [hoi]
      rcases hstep with ⟨hg, hY⟩ | ⟨hg, hfit, D, hD, hY⟩
      · simp only at hg hY
        rw [← gslot] at hg
        have hw := guard_ok hX hsg hg
        simp only [hw, Bool.false_eq_true, if_false]
        have hX' : SRel P C.N g1 bx1 (X.putO s.dst undefA) (a1.put oi.dst undef) w1 := by rw [← hsd]; exact hX.putO (by rw [hsd]; exact hdN) VRelE.undef
        refine next (X.putO s.dst undefA) _ w1 g1 bx1 (fun t => ?_) (fun b => ?_) ?_ hX' (put_defers _ _ _) (by rw [putO_heap]; exact Ext.refl _ _ _)
        · rw [tget_putO, hsd, hY, tget_putO, hsd]
          split <;> rfl
        · rw [putO_box, hY, putO_box]
          by_cases hb : (ft oi).wb.contains b = true
          · rw [if_pos hb]; exact agB b (.inr hb)
          · rw [if_neg hb]
        · rw [putO_heap, hY, putO_heap]
          by_cases hb : (ft oi).hw = true
          · rw [if_pos hb]; exact agH (.inr hb)
          · rw [if_neg hb]
      · simp only at hg hfit hD hY
        have hfit0 := hfit
        rw [← gslot] at hg
        have hw := guard_ok hX hsg hg
        simp only [hw, if_true]
        left
        -- the heap is one of the row's, as far as loads of blocks that stay ask
        have hsame : (ft oi).rb.contains stableN = true → ∀ n ∈ prot, (T i).heap[n]? = X.heap[n]? := by
          intro hst n hn
          rcases hR with hR | hR | hR
          rotate_left
          rotate_left
          · rw [hR] at hn; cases hn
          all_goals
            have hrel : i ≤ R ∧ ∀ j oj, ops[j]? = some oj → (ft oj).hw = true → R ≤ j → listed.getD j false = false := by
              first
              | (refine ⟨by omega, fun j oj hoj _ hj => ?_⟩
                 exfalso
                 rcases Nat.lt_or_ge j ops.size with h | h
                 · omega
                 · simp [Array.getElem?_eq_none h] at hoj)
              | (unfold released at hR
                 rw [List.all_eq_true] at hR
                 have h1 := hR i (by simpa using hin)
                 have e1 : (ops.toList.map ft).getD i default = ft oi := by simp [List.getD, hoi]
                 rw [e1, hst] at h1
                 simp only [Bool.not_true, Bool.false_or, Bool.and_eq_true, decide_eq_true_eq] at h1
                 refine ⟨by omega, fun j oj hoj hwj hj => ?_⟩
                 have hjn : j < ops.size := by
                   rcases Nat.lt_or_ge j ops.size with h | h
                   · exact h
                   · simp [Array.getElem?_eq_none h] at hoj
                 have h2 := h1.2
                 rw [List.all_eq_true] at h2
                 have h3 := h2 j (by simpa using hjn)
                 have e2 : (ops.toList.map ft).getD j default = ft oj := by simp [List.getD, hoj]
                 rw [e2, hwj] at h3
                 simp only [Bool.not_true, Bool.or_false, Bool.or_eq_true, decide_eq_true_eq] at h3
                 have hb := h3.resolve_left (by omega)
                 cases hl : listed.getD j false with
                 | false => rfl
                 | true => exact absurd (bef_closed hcl (j + 1) j (by omega) oj hoj (hcl j oj hoj hl) hb) hunf)
            obtain ⟨hiR, hrel⟩ := hrel
            -- heap writers are listed from the first on
            have down : ∀ j k oj ok, ops[j]? = some oj → ops[k]? = some ok → j < k → (ft oj).hw = true → (ft ok).hw = true → listed.getD k false = true → listed.getD j false = true := by
              intro j k oj ok hoj hok hjk hwj hwk hlk
              cases hb : ((befGo ops.toList []).getD k 0).testBit j with
              | true => exact bef_closed hcl (k + 1) k (by omega) ok hok (hcl k ok hok hlk) hb
              | false =>
                obtain ⟨_, q2⟩ := hbefore j k oj ok hoj hok hjk hb
                simp [Foot.apart, hwj, hwk] at q2
            have big : ∀ n, n ≤ ops.size → ∃ m, m ≤ n ∧ ∀ j o, ops[j]? = some o → (ft o).hw = true → j < n → (listed.getD j false = true ↔ j < m) := by
              intro n
              induction n with
              | zero => intro _; exact ⟨0, Nat.le_refl _, fun j o _ _ h => by omega⟩
              | succ n ihn =>
                intro hn
                obtain ⟨m, hm1, hm2⟩ := ihn (by omega)
                have hon : ops[n]? = some ops[n] := by simp
                by_cases hw : (ft ops[n]).hw = true
                · by_cases hl : listed.getD n false = true
                  · refine ⟨n + 1, Nat.le_refl _, fun j o ho hwo hj => ⟨fun _ => hj, fun _ => ?_⟩⟩
                    rcases Nat.lt_or_ge j n with h | h
                    · exact down j n o _ ho hon h hwo hw hl
                    · have : j = n := by omega
                      subst this; exact hl
                  · refine ⟨m, by omega, fun j o ho hwo hj => ?_⟩
                    rcases Nat.lt_or_ge j n with h | h
                    · exact hm2 j o ho hwo h
                    · have : j = n := by omega
                      subst this
                      exact ⟨fun h' => absurd h' hl, fun h' => by omega⟩
                · refine ⟨m, by omega, fun j o ho hwo hj => ?_⟩
                  rcases Nat.lt_or_ge j n with h | h
                  · exact hm2 j o ho hwo h
                  · have : j = n := by omega
                    subst this
                    rw [hon] at ho; cases ho
                    exact absurd hwo hw
            obtain ⟨m, hm1, hm2⟩ := big (min R ops.size) (Nat.min_le_right _ _)
            have hXm : X.heap = (T m).heap := by
              refine hH m (by omega) (fun j o ho hwo => ?_)
              have hjn : j < ops.size := by
                rcases Nat.lt_or_ge j ops.size with h | h
                · exact h
                · simp [Array.getElem?_eq_none h] at ho
              rcases Nat.lt_or_ge j R with h | h
              · exact hm2 j o ho hwo (by omega)
              · have hf := hrel j o ho hwo h
                exact ⟨fun h' => by (rw [hf] at h'; cases h'), fun h' => by omega⟩
            rw [hXm, tprot i (by omega) (by omega) n hn, tprot m (by omega) (by omega) n hn]
        have hDX := dlt_localS (X := X) hD hfit (fun x hx => evalA_same (fun t ht => by
          subst ht
          exact (agT t (.inl (mem_tmps (by rw [← hsop]; exact hx)))).symm)) (fun k hk => (agB k hk).symm) (fun hk => (agH hk).symm) hsame
        obtain ⟨f1, f2⟩ := dlt_footS hD hfit
        rcases stepA_sound hZ hsd hsop hdN (dlt_stepA hDX) with ⟨S', hK, _, hrun'⟩ | ⟨v, S', hbad, _⟩
        · refine hrun' g1 bx1 a1 w1 hX _ _ (fun g2 bx2 a2 w2 k4 k5 k6 => ?_)
          refine next S' a2 w2 g2 bx2 (fun t => ?_) (fun b => ?_) ?_ k4 k5 k6
          · rw [hK, tget_appD, hsd, hY, tget_appD, hsd]
            split <;> rfl
          · rw [hK, bget_appD, hY, bget_appD]
            by_cases hb : (ft oi).wb.contains b = true
            · rw [if_pos hb, agB b (.inr hb)]
            · rw [if_neg hb]
              cases hbw : D.bw with
              | none => rfl
              | some jc =>
                obtain ⟨j, c⟩ := jc
                have := f1 (j, c) hbw
                have : b ≠ j := fun e => by subst e; exact hb this
                simp [this]
          · rw [hK, hY]
            rfl
        · exact hbad.elim
  refine main ops.size _ a _ S g bx (by simp) ?_ ?_ ?_ ?_ ?_ ?_ rfl (Ext.drew _ _ _)
  · exact Nat.le_trans List.countP_le_length (by simp)
  · intro j oj hoj hj
    exfalso
    have hjn : j < ops.size := by
      rcases Nat.lt_or_ge j ops.size with h | h
      · exact h
      · simp [Array.getElem?_eq_none h] at hoj
    simp [hjn] at hj
  · intro t m hm' hc
    rw [← t0]
    refine (stT t 0 m (by omega) hm' (fun k o ho _ hk hdk => ?_)).symm
    have := (hc k o ho hdk).2 hk
    have hkn : k < ops.size := by omega
    simp [hkn] at this
  · intro b m hm' hc
    rw [← t0]
    refine (stB b 0 m (by omega) hm' (fun k o ho _ hk => ?_)).symm
    cases hdk : (ft o).wb.contains b with
    | false => rfl
    | true =>
      have := (hc k o ho hdk).2 hk
      have hkn : k < ops.size := by omega
      simp [hkn] at this
  · intro m hm' hc
    rw [← t0]
    refine (stH 0 m (by omega) hm' (fun k o ho _ hk => ?_)).symm
    cases hdk : (ft o).hw with
    | false => rfl
    | true =>
      have := (hc k o ho hdk).2 hk
      have hkn : k < ops.size := by omega
      simp [hkn] at this
  · have hdr := Ext.drew g (Own g S.heap bx) w
    exact ⟨hr.size, hr.env, hr.box1, hr.box2, ⟨hr.sim.len, hr.sim.blk, hr.sim.inj⟩, hr.dis, hr.apart⟩

theorem draw_ok (hm : P.follows .mixedOrders = true) : DrawOK P := by
  intro C hZ id ops sc S Q hsc hrun
  simp only [toSC] at hsc
  cases hss : sopsOf C ops ops.toList with
  | none => simp [hss] at hsc
  | some ss =>
  simp only [hss, if_true] at hsc
  split at hsc
  · rename_i hchk
    simp only [Bool.and_eq_true] at hchk
    simp only [Option.some.injEq] at hsc
    subst hsc
    exact draw_core hm hZ id ops hss _ hchk.1 hchk.2 [] ops.size (.inl rfl) (rwpD_S _ _ S Q hrun)
  · split at hsc
    · rename_i hchk
      simp only [Bool.and_eq_true] at hchk
      simp only [Option.some.injEq] at hsc
      subst hsc
      obtain ⟨prot, hrun⟩ := hrun
      refine draw_core hm hZ id ops hss _ hchk.1 hchk.2 prot _ ?_ hrun
      unfold releaseOf
      cases hf : (List.range ops.size).find? (released (ops.toList.map fun o => stableF o (footOf C ops.toList o)) (befGo ops.toList []) ops.size) with
      | none => exact .inl rfl
      | some R => exact .inr (.inl (List.find?_some hf))
    · cases hsc

end
end Go.Av
