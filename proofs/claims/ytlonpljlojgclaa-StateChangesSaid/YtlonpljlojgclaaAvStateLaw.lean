import Derived.Test.YtlonpljlojgclaaAvState
set_option linter.unusedSimpArgs false
set_option linter.unusedVariables false
namespace Go.Av
open Go

/-! ## Plain laws of states: what covers itself, and what covers more -/

/-- Each id goes with itself. -/
def Diag (p : Prs) : Prop := p.there = p.back ∧ ∀ e ∈ p.there, e.1 = e.2

theorem lk_mem {a x : Int} : ∀ {l : List (Int × Int)}, lk a l = some x → (a, x) ∈ l
  | [], h => by simp [lk] at h
  | (y, z) :: l, h => by
      simp only [lk] at h
      split at h
      · rename_i e; subst e; cases h; simp
      · exact List.mem_cons_of_mem _ (lk_mem h)

theorem pm_diag {p : Prs} (h : Diag p) (a : Int) : (pm p a a).1 = true ∧ Diag (pm p a a).2 := by
  obtain ⟨h1, h2⟩ := h
  unfold pm
  rw [← h1]
  cases hl : lk a p.there with
  | none =>
    simp only [true_and]
    refine ⟨rfl, fun e he => ?_⟩
    rcases List.mem_append.1 he with he | he
    · exact h2 e he
    · simp at he; subst he; rfl
  | some x =>
    have := h2 _ (lk_mem hl)
    simp only at this
    subst this
    simp [Diag, ← h1]
    exact fun a b hab => h2 (a, b) hab

theorem tIn_self (t : Tn) : tIn t t = true := by simp [tIn]
theorem scIn_self (s : Sc) : scIn s s = true := by simp [scIn, tIn_self]

theorem scIn_unknown (s : Sc) : scIn scUnknown s = true := by
  have a1 : (18446744073709551615#64) ||| s.t.m = 18446744073709551615#64 := by
    show BitVec.allOnes 64 ||| s.t.m = BitVec.allOnes 64
    exact BitVec.allOnes_or
  have a2 : s.t.v &&& ~~~(18446744073709551615#64) = 0#64 &&& ~~~(18446744073709551615#64) := by
    show s.t.v &&& ~~~(BitVec.allOnes 64) = 0#64 &&& ~~~(BitVec.allOnes 64)
    simp
  have a3 : (0#64) ≤ s.lo := by simp [BitVec.le_def]
  have a4 : s.hi ≤ 18446744073709551615#64 := by
    rw [BitVec.le_def]
    have := s.hi.isLt
    have e : (18446744073709551615#64).toNat = 18446744073709551615 := rfl
    omega
  simp only [scIn, scUnknown, tIn, a1, a2, a3, a4, decide_true, Bool.and_self]

/-- A register that covers another one with the same id. -/
def Cov (a b : Rg) : Prop := a.kind = 0 ∨ (a.kind = b.kind ∧ a.mp = b.mp ∧ a.sz = b.sz ∧ scIn a.num b.num = true ∧ a.id = b.id)

theorem Cov.refl (a : Rg) : Cov a a := .inr ⟨rfl, rfl, rfl, scIn_self _, rfl⟩

theorem pReg_diag {p : Prs} (h : Diag p) {a b : Rg} (hc : Cov a b) : (pReg p a b).1 = true ∧ Diag (pReg p a b).2 := by
  unfold pReg
  by_cases h0 : a.kind = 0
  · simp [h0, h]
  rcases hc with hc | ⟨c1, c2, c3, c4, c5⟩
  · exact absurd hc h0
  simp only [h0, if_false, c1, c2, c3, c4]
  simp only [ne_eq, not_true, or_self, if_false, Bool.true_eq_false]
  rw [← c1, if_neg h0, c5]
  split
  · exact pm_diag h _
  · exact ⟨rfl, h⟩

theorem orI_self {k : Int} (h1 : 0 ≤ k) (h2 : k ≤ 255) : orI k k = k := by
  unfold orI
  have e : BitVec.ofInt 64 k ||| BitVec.ofInt 64 k = BitVec.ofInt 64 k := by simp
  rw [e, BitVec.toNat_ofInt, wrap_i64_of (by omega) (by omega)]
  omega

theorem pSlot_diag {p : Prs} (h : Diag p) {x : Sl} (h1 : 0 ≤ x.kind) (h2 : x.kind ≤ 2) (h3 : 0 ≤ x.known) (h4 : x.known ≤ 255) : (pSlot p x x).1 = true ∧ Diag (pSlot p x x).2 := by
  unfold pSlot
  split
  · exact ⟨rfl, h⟩
  · rename_i h0
    split
    · rename_i h5
      simp [h5, orI_self h3 h4, h]
    · rename_i h5
      have h6 : x.kind = 2 := by
        have : ¬ x.kind = 0 := fun e => h0 (.inr e)
        omega
      rw [if_pos h6]
      exact pReg_diag h (Cov.refl _)

theorem pAll_diag {α : Type} {f : Prs → α → α → Bool × Prs} {C : α → α → Prop} (hf : ∀ p a b, Diag p → C a b → (f p a b).1 = true ∧ Diag (f p a b).2) :
    ∀ (l m : List α) (p : Prs), Diag p → (∀ (i : Nat) (x y : α), l[i]? = some x → m[i]? = some y → C x y) → (pAll f p l m).1 = true ∧ Diag (pAll f p l m).2
  | [], m, p, h, _ => by simp [pAll, h]
  | a :: l, [], p, h, _ => by simp [pAll, h]
  | a :: l, b :: m, p, h, hc => by
      obtain ⟨h1, h2⟩ := hf p a b h (hc 0 a b rfl rfl)
      rw [pAll, if_pos h1]
      exact pAll_diag hf l m _ h2 (fun i x y hx hy => hc (i + 1) x y (by simpa using hx) (by simpa using hy))

theorem inF_of {ra rb : List Rg} {s : List Sl} {l : List Int} {ga gb : Int} (h1 : ∀ (i : Nat) (x y : Rg), ra[i]? = some x → rb[i]? = some y → Cov x y) (h2 : ∀ x ∈ s, 0 ≤ x.kind ∧ x.kind ≤ 2 ∧ 0 ≤ x.known ∧ x.known ≤ 255) (h3 : ga ≤ gb) :
    inF ra rb s s l l ga gb = true := by
  have d0 : Diag ⟨[], []⟩ := ⟨rfl, fun e he => by cases he⟩
  obtain ⟨a1, a2⟩ := pAll_diag (f := pReg) (C := Cov) (fun p a b hp hc => pReg_diag hp hc) ra rb _ d0 h1
  obtain ⟨b1, b2⟩ := pAll_diag (f := pSlot) (C := fun x y => x = y ∧ x ∈ s) (fun p a b hp hc => by
    obtain ⟨rfl, hm⟩ := hc
    obtain ⟨q1, q2, q3, q4⟩ := h2 a hm
    exact pSlot_diag hp q1 q2 q3 q4) s s _ a2 (fun i x y hx hy => by rw [hx] at hy; cases hy; exact ⟨rfl, List.mem_of_getElem? hx⟩)
  obtain ⟨c1, c2⟩ := pAll_diag (f := pm) (C := fun x y => x = y) (fun p a b hp hc => by subst hc; exact pm_diag hp _) l l _ b2 (fun i x y hx hy => by rw [hx] at hy; cases hy; rfl)
  simp [inF, a1, b1, pRefs, c1, h3]

end Go.Av
