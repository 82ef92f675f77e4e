import Derived.Test.YtlonpljlojgclaaAvOk4
set_option linter.unusedSimpArgs false
set_option linter.unusedVariables false
namespace Go.Av
open Go

section
variable {P : Program} {N : Nat} {g : List G} {bx : Nat → Option G} {S : St} {a : Act} {w : World}

/-! ### Addresses -/

theorem offT_append : (p q : List Nat) → (t : TypeId) → (o : Nat) → (u : TypeId) → (o' : Nat) → (u' : TypeId) → offT P p t = some (o, u) → offT P q u = some (o', u') → offT P (p ++ q) t = some (o + o', u')
  | [], q, t, o, u, o', u', h1, h2 => by
      simp only [offT, Option.some.injEq, Prod.mk.injEq] at h1
      obtain ⟨rfl, rfl⟩ := h1
      simpa using h2
  | i :: p, q, t, o, u, o', u', h1, h2 => by
      simp only [List.cons_append, offT] at h1 ⊢
      cases hu : P.underlying t with
      | none => simp [hu] at h1
      | some d =>
        cases d with
        | struct fs =>
          simp only [hu] at h1 ⊢
          cases hf : fs.toList[i]? with
          | none => simp [hf] at h1
          | some f =>
            simp only [hf, Option.map_eq_some_iff] at h1 ⊢
            obtain ⟨⟨o1, u1⟩, e1, e2⟩ := h1
            simp only [Prod.mk.injEq] at e2
            obtain ⟨rfl, rfl⟩ := e2
            exact ⟨_, offT_append p q f.type o1 u1 o' u' e1 h2, by simp [Nat.add_assoc]⟩
        | array n e =>
          simp only [hu] at h1 ⊢
          split at h1
          · rename_i hi
            simp only [hi, if_true, Option.map_eq_some_iff] at h1 ⊢
            obtain ⟨⟨o1, u1⟩, e1, e2⟩ := h1
            simp only [Prod.mk.injEq] at e2
            obtain ⟨rfl, rfl⟩ := e2
            exact ⟨_, offT_append p q e o1 u1 o' u' e1 h2, by simp [Nat.add_assoc]⟩
          · cases h1
        | _ => simp [hu] at h1

theorem PtrOk.ext {x : G} {p : List Nat} {t u : TypeId} {q : List Nat} {o' : Nat} {v : Value} (h : PtrOk P x p t v) (hq : offT P q t = some (o', u)) :
    ∃ b o, v = .pointer (some ⟨b, o, none⟩) ∧ PtrOk P x (p ++ q) u (.pointer (some ⟨b, o + o', none⟩)) := by
  obtain ⟨o, h1, h2, rfl⟩ := h
  cases p with
  | nil => simp [offR] at h1
  | cons i p =>
    simp only [offR, Option.map_eq_some_iff] at h1
    obtain ⟨⟨o1, u1⟩, e1, e2⟩ := h1
    simp only [Prod.mk.injEq] at e2
    obtain ⟨rfl, rfl⟩ := e2
    refine ⟨_, _, rfl, i * P.cellsOf x.ty + o1 + o', ?_, by simpa using h2, by simp [Nat.add_assoc]⟩
    simp only [List.cons_append, offR, Option.map_eq_some_iff]
    exact ⟨_, offT_append p q x.ty o1 u1 o' u e1 hq, by simp [Nat.add_assoc]⟩

theorem fieldAddrA_ok {s : TypeId} {f : Nat} {x v : AV} (h : fieldAddrA P s f x = some v) {vx : Value} (hx : VRelE P g bx x vx) :
    ∃ v', (Instr.fieldAt s vx f).run P w = .ok v' w ∧ VRelE P g bx v v' := by
  unfold fieldAddrA at h
  cases hu : P.underlying s with
  | none => simp [hu] at h
  | some d =>
    cases d <;> simp only [hu] at h <;> try (cases h; done)
    rename_i fs
    cases hf : fs.toList[f]? with
    | none => simp [hf] at h
    | some fl =>
      simp only [hf] at h
      split at h
      · cases h
      · rename_i hne
        have hfl : fs[f]? = some fl := by simpa using hf
        have hdesc : ∃ i, P.info? fl.type = some i := by
          unfold Program.cellsOf at hne
          cases hi : P.info? fl.type with
          | none => simp [hi] at hne
          | some i => exact ⟨i, rfl⟩
        obtain ⟨i, hi⟩ := hdesc
        have hsz : (sizeOf fl.type).run P w = .ok (P.cellsOf fl.type) w := by simp [sizeOf, typeInfo, Program.cellsOf, hi]
        have hoff : offT P [f] s = some (fl.offset, fl.type) := by simp [offT, hu, hf]
        have run : ∀ b o, (Instr.fieldAt s (.pointer (some ⟨b, o, none⟩)) f).run P w = .ok (.pointer (some ⟨b, o + fl.offset, none⟩)) w := by
          intro b o
          simp [Instr.fieldAt, run_underlying hu, hfl, Instr.sureAddr, fieldPlace, hsz, hne, add_none]
        split at h
        · rename_i n p T
          split at h
          · rename_i hT
            subst hT
            cases h
            have hx' : VRel P g (.ptr (some (n, p, T))) vx := hx
            have := hx'.leaf rfl
            simp only [FRel] at this
            obtain ⟨y, v1, e1, e2, e3⟩ := this
            obtain rfl : vx = v1 := by simpa using e2
            obtain ⟨b, o, rfl, k⟩ := e3.ext hoff
            refine ⟨_, run b o, VRelE.of_VRel (VRel.of_cell rfl ?_)⟩
            simp only [FRel]
            exact ⟨y, _, e1, rfl, k⟩
          · cases h
        · rename_i k p T
          split at h
          · rename_i hT
            subst hT
            cases h
            obtain ⟨y, e1, e3⟩ := hx
            obtain ⟨b, o, rfl, k⟩ := e3.ext hoff
            exact ⟨_, run b o, y, e1, k⟩
          · cases h
        · cases h

theorem SlOk.elem {x : G} {p : List Nat} {s : Nat} {e : TypeId} {len cap : Nat} {v : Value} (h : SlOk P x p s e len cap v) {i : Nat} (hi : i < len) :
    ∃ b o cap', v = .slice (some ⟨b, o, none⟩) len cap' ∧ PtrOk P x (p ++ [s + i]) e (.pointer (some ⟨b, o + i * P.cellsOf e, none⟩)) := by
  obtain ⟨a, cap', rfl, h1, h2, h3⟩ := h
  cases p with
  | nil =>
    obtain ⟨h4, h5, h6, h7⟩ := h3
    rcases h7 with h7 | ⟨rfl, h8⟩
    · omega
    · refine ⟨_, _, cap', rfl, (s + i) * P.cellsOf x.ty + 0, ?_, by simp; omega, ?_⟩
      · simp [offR, offT, h4]
      · simp [h4, Nat.add_mul, Nat.add_assoc]
  | cons j q =>
    obtain ⟨o, m, h4, h5, h6, h7, h8⟩ := h3
    rcases h8 with h8 | rfl
    · omega
    · refine ⟨_, _, cap', rfl, ?_⟩
      unfold contOff at h4
      simp only at h4
      cases ho : offR P x.ty (j :: q) with
      | none => simp [ho] at h4
      | some oa =>
        obtain ⟨o', A⟩ := oa
        simp only [ho] at h4
        cases hA : P.underlying A with
        | none => simp [hA] at h4
        | some d =>
          cases d <;> simp only [hA] at h4 <;> try (cases h4; done)
          rename_i m' e'
          split at h4
          · rename_i he
            subst he
            simp only [Option.some.injEq, Prod.mk.injEq] at h4
            obtain ⟨rfl, rfl⟩ := h4
            have hp : PtrOk P x (j :: q) A (.pointer (some ⟨x.blk, x.base + o', none⟩)) := ⟨o', ho, by simpa using h5, rfl⟩
            have hq : offT P [s + i] A = some ((s + i) * P.cellsOf e', e') := by
              simp only [offT, hA]
              rw [if_pos (by omega)]
              simp
            obtain ⟨b, o2, hv, k⟩ := hp.ext hq
            simp only [Value.pointer.injEq, Option.some.injEq, Addr.mk.injEq, and_true] at hv
            obtain ⟨rfl, rfl⟩ := hv
            have ee : x.base + o' + (s + i) * P.cellsOf e' = x.base + (o' + s * P.cellsOf e') + i * P.cellsOf e' := by
              simp [Nat.add_mul, Nat.add_assoc]
            rw [ee] at k
            exact k
          · simp at h4

theorem run_sizeOf_ne {e : TypeId} (h : P.cellsOf e ≠ 0) : (sizeOf e).run P w = .ok (P.cellsOf e) w := by
  have : ∃ i, P.info? e = some i := by
    unfold Program.cellsOf at h
    cases hi : P.info? e with
    | none => simp [hi] at h
    | some i => exact ⟨i, rfl⟩
  obtain ⟨i, hi⟩ := this
  simp [sizeOf, typeInfo, Program.cellsOf, hi]

theorem indexAddrA_ok {t : TypeId} {x ix v : AV} (h : indexAddrA P t x ix = some v) {vx vi : Value} (hx : VRelE P g bx x vx) (hi : VRelE P g bx ix vi) :
    ∃ v', (Instr.indexAt t vx vi).run P w = .ok v' w ∧ VRelE P g bx v v' := by
  unfold indexAddrA at h
  split at h
  · rename_i k i
    obtain rfl := VRel.int_inv (P := P) (g := g) hi
    cases hu : P.underlying t with
    | none => simp [hu] at h
    | some d =>
      cases d with
      | array n e =>
        simp only [hu] at h
        split at h
        · rename_i hb
          obtain ⟨hne, h0, h1⟩ := hb
          have hoff : offT P [i.toNat] t = some (i.toNat * P.cellsOf e, e) := by
            simp only [offT, hu]
            rw [if_pos (by omega)]
            simp
          have run : ∀ b o, (Instr.indexAt t (.pointer (some ⟨b, o, none⟩)) (.int k i)).run P w = .ok (.pointer (some ⟨b, o + i.toNat * P.cellsOf e, none⟩)) w := by
            intro b o
            simp [Instr.indexAt, asIntOf, run_underlying hu, Instr.sureAddr, h0, h1, run_sizeOf_ne hne, add_none]
          split at h
          · rename_i m p T
            split at h
            · rename_i hT
              subst hT
              cases h
              have hx' : VRel P g (.ptr (some (m, p, T))) vx := hx
              have := hx'.leaf rfl
              simp only [FRel] at this
              obtain ⟨y, v1, e1, e2, e3⟩ := this
              obtain rfl : vx = v1 := by simpa using e2
              obtain ⟨b, o, rfl, k⟩ := e3.ext hoff
              refine ⟨_, run b o, VRelE.of_VRel (VRel.of_cell rfl ?_)⟩
              simp only [FRel]
              exact ⟨y, _, e1, rfl, k⟩
            · cases h
          · rename_i k p T
            split at h
            · rename_i hT
              subst hT
              cases h
              obtain ⟨y, e1, e3⟩ := hx
              obtain ⟨b, o, rfl, k⟩ := e3.ext hoff
              exact ⟨_, run b o, y, e1, k⟩
            · cases h
          · cases h
        · cases h
      | slice e =>
        simp only [hu] at h
        have run : ∀ b o len cap, P.cellsOf e ≠ 0 → 0 ≤ i → i < (len : Nat) →
            (Instr.indexAt t (.slice (some ⟨b, o, none⟩) len cap) (.int k i)).run P w = .ok (.pointer (some ⟨b, o + i.toNat * P.cellsOf e, none⟩)) w := by
          intro b o len cap hne h0 h1
          simp [Instr.indexAt, asIntOf, run_underlying hu, h0, h1, run_sizeOf_ne hne, add_none]
        split at h
        · rename_i m p s E len cap
          split at h
          · rename_i hb
            obtain ⟨rfl, hne, h0, h1⟩ := hb
            cases h
            have hx' : VRel P g (.sl (some (m, p, s, E)) len cap) vx := hx
            have := hx'.leaf rfl
            simp only [FRel] at this
            obtain ⟨y, v1, e1, e2, e3⟩ := this
            obtain rfl : vx = v1 := by simpa using e2
            obtain ⟨b, o, cap', rfl, kk⟩ := e3.elem (i := i.toNat) (by omega)
            refine ⟨_, run b o len cap' hne h0 h1, VRelE.of_VRel (VRel.of_cell rfl ?_)⟩
            simp only [FRel]
            exact ⟨y, _, e1, rfl, kk⟩
          · cases h
        · rename_i k p s E len cap
          split at h
          · rename_i hb
            obtain ⟨rfl, hne, h0, h1⟩ := hb
            cases h
            obtain ⟨y, e1, e3⟩ := hx
            obtain ⟨b, o, cap', rfl, kk⟩ := e3.elem (i := i.toNat) (by omega)
            exact ⟨_, run b o len cap' hne h0 h1, y, e1, kk⟩
          · cases h
        · cases h
      | _ => simp [hu] at h
  · cases h

/-! ### Slices -/

def OptRel (P : Program) (g : List G) (bx : Nat → Option G) : Option AV → Option Value → Prop
  | none, none => True
  | some x, some y => VRelE P g bx x y
  | _, _ => False

theorem sliceBound_ok {v : AV} {v' : Value} (hv : VRelE P g bx v v') {i : Nat} (hi : natOf v = some i) {y : Nat} (hy : i ≤ y) (code : BoundsCode) :
    (Instr.sliceBound v' y code).run P w = .ok i w := by
  unfold natOf at hi
  split at hi
  · rename_i k n
    obtain rfl := VRel.int_inv (P := P) (g := g) hv
    split at hi
    · rename_i h0
      cases hi
      have h2 : n ≤ y := by omega
      simp [Instr.sliceBound, asIntOf, h0, h2]
    · cases hi
  · cases hi

theorem boundA_inv {d t : Nat} {o : Option AV} {i : Nat} (h : boundA d t o = some i) : (o = none ∧ i = d) ∨ (∃ v, o = some v ∧ natOf v = some i ∧ i ≤ t) := by
  unfold boundA at h
  cases o with
  | none => simp only [Option.some.injEq] at h; exact .inl ⟨rfl, h.symm⟩
  | some v =>
    simp only at h
    cases hn : natOf v with
    | none => simp [hn] at h
    | some j =>
      simp only [hn] at h
      split at h
      · cases h; exact .inr ⟨v, rfl, hn, by assumption⟩
      · cases h

/-- Go's bounds of a slice: real and abstract. -/
theorem sliceBounds_ok {len cap cap' : Nat} (hc : cap ≤ cap') {lo hi mx : Option AV} {lo' hi' mx' : Option Value} (h1 : OptRel P g bx lo lo') (h2 : OptRel P g bx hi hi') (h3 : OptRel P g bx mx mx') (hmh : mx = none ∨ hi ≠ none)
    {m h l : Nat} (em : boundA cap cap mx = some m) (eh : boundA len m hi = some h) (el : boundA 0 h lo = some l) :
    (Instr.sliceBounds true len cap' lo' hi' mx').run P w = .ok (l, h, if mx.isSome then m else cap') w := by
  have k1 : ∀ (lo' : Option Value) (y : Nat), OptRel P g bx lo lo' → y = h → ∀ code, (match lo' with | some v => Instr.sliceBound v y code | none => pure 0 : Sem Nat).run P w = .ok l w := by
    intro lo' y hr hy code
    subst hy
    rcases boundA_inv el with ⟨rfl, rfl⟩ | ⟨v, rfl, e1, e2⟩
    · cases lo' with
      | none => rfl
      | some v' => exact hr.elim
    · cases lo' with
      | none => exact hr.elim
      | some v' => exact sliceBound_ok hr e1 e2 code
  cases mx with
  | none =>
    cases mx' with
    | some v => exact h3.elim
    | none =>
      rcases boundA_inv em with ⟨_, rfl⟩ | ⟨v, hv, _⟩
      · rcases boundA_inv eh with ⟨rfl, rfl⟩ | ⟨v, rfl, e1, e2⟩
        · cases hi' with
          | some v => exact h2.elim
          | none =>
            have := k1 lo' h h1 rfl .sliceB
            simp only [Instr.sliceBounds, Sem.run_bind, Sem.run_pure, Result.andThen_ok, Option.isSome_none, Bool.false_eq_true, if_false]
            cases lo' <;> simp_all
        · cases hi' with
          | none => exact h2.elim
          | some v' =>
            have := k1 lo' h h1 rfl .sliceB
            have hb := sliceBound_ok (w := w) (P := P) h2 e1 (Nat.le_trans e2 hc) .sliceAcap
            simp only [Instr.sliceBounds, Sem.run_bind, Sem.run_pure, Result.andThen_ok, Option.isSome_none, Bool.false_eq_true, if_false, if_true, hb]
            cases lo' <;> simp_all
      · cases hv
  | some vm =>
    cases mx' with
    | none => exact h3.elim
    | some vm' =>
      rcases boundA_inv em with ⟨hv, _⟩ | ⟨v, hv, e1, e2⟩
      · cases hv
      · cases hv
        have hbm := sliceBound_ok (w := w) (P := P) h3 e1 (Nat.le_trans e2 hc) .slice3Acap
        rcases boundA_inv eh with ⟨rfl, rfl⟩ | ⟨v, rfl, f1, f2⟩
        · simp at hmh
        · cases hi' with
          | none => exact h2.elim
          | some v' =>
            have := k1 lo' h h1 rfl .slice3C
            have hb := sliceBound_ok (w := w) (P := P) h2 f1 f2 .slice3B
            simp only [Instr.sliceBounds, Sem.run_bind, Sem.run_pure, Result.andThen_ok, Option.isSome_some, if_true, hbm, hb]
            cases lo' <;> simp_all

theorem SlOk.sub {x : G} {p : List Nat} {s : Nat} {e : TypeId} {len cap : Nat} {b : Option Addr} {cap' : Nat} (h : SlOk P x p s e len cap (.slice b len cap')) {l hh m m' : Nat}
    (h1 : l ≤ hh) (h2 : hh ≤ m) (h3 : m ≤ cap) (h4 : (m' = m) ∨ (m = cap ∧ m' = cap')) :
    SlOk P x p (s + l) e (hh - l) (m - l) (.slice (if m' = l then b else b.map (·.add (l * P.cellsOf e))) (hh - l) (m' - l)) := by
  obtain ⟨a, cap'', hv, h5, h6, h7⟩ := h
  simp only [Value.slice.injEq, true_and] at hv
  obtain ⟨rfl, rfl⟩ := hv
  refine ⟨if m' = l then a else a.add (l * P.cellsOf e), m' - l, ?_, by omega, ?_, ?_⟩
  · split <;> rfl
  · rcases h4 with rfl | ⟨rfl, rfl⟩ <;> omega
  · cases p with
    | nil =>
      obtain ⟨h8, h9, h10, h11⟩ := h7
      refine ⟨h8, by omega, ?_, ?_⟩
      · rcases h4 with rfl | ⟨rfl, rfl⟩
        · exact .inl rfl
        · rcases h10 with rfl | ⟨h10, h12⟩
          · exact .inl rfl
          · exact .inr ⟨h10, by omega⟩
      · by_cases hml : m' = l
        · exact .inl (by omega)
        · right
          have hc0 : cap' ≠ 0 := by rcases h4 with rfl | ⟨rfl, rfl⟩ <;> omega
          rcases h11 with h11 | ⟨rfl, h12⟩
          · exact absurd h11 hc0
          · simp only [hml, if_false]
            refine ⟨by simp [add_none, Nat.add_mul, Nat.add_assoc], ?_⟩
            have : s + l + (m' - l) ≤ s + cap' := by rcases h4 with rfl | ⟨rfl, rfl⟩ <;> omega
            have := Nat.mul_le_mul_right (P.cellsOf e) this
            omega
    | cons j q =>
      obtain ⟨o, mm, h8, h9, h10, h11, h12⟩ := h7
      refine ⟨o, mm, h8, h9, by omega, ?_, ?_⟩
      · rcases h4 with rfl | ⟨rfl, rfl⟩ <;> omega
      · by_cases hml : m' = l
        · exact .inl (by omega)
        · right
          have hc0 : cap' ≠ 0 := by rcases h4 with rfl | ⟨rfl, rfl⟩ <;> omega
          rcases h12 with h12 | rfl
          · exact absurd h12 hc0
          · simp only [hml, if_false]
            simp [add_none, Nat.add_mul, Nat.add_assoc]

end
end Go.Av
