import Derived.Test.YtlonpljlojgclaaSt9
set_option linter.unusedSimpArgs false
set_option linter.unusedVariables false
set_option maxRecDepth 1000000
namespace Go.Proofs.Ytlonpljlojgclaa
open Go Go.Av

theorem tReg_ne (p : Tab) {a b : Rg} (h0 : ¬ a.kind = 0) (h : a.kind ≠ b.kind ∨ a.mp ≠ b.mp ∨ a.sz ≠ b.sz ∨ scIn a.num b.num = false) : tReg p a b = (false, p) := by
  simp only [tReg, h0, if_false, h, if_true]

set_option maxHeartbeats 4000000 in
theorem k60 (a b : Rg) (l : Tab) (H E : Heap) (hT : TabAt H E l) (hl : l.length < 17592186044000) :
    ∃ E', CallRuns Try.prog 60 [.ptr (some (H.length, [0], 89)), eR a, eR b] E (.ret (.bool (tReg l a b).1)) E' ∧ TabAt H E' (tReg l a b).2 := by
  by_cases h0 : a.kind = 0
  · have e : tReg l a b = (true, l) := by simp [tReg, h0]
    rw [e]
    refine ⟨E, callRuns_eq (run60 (by simp) ?_), hT⟩
    simp -implicitDefEqProofs [h0]
  by_cases h1 : a.kind = b.kind
  rotate_left
  · rw [tReg_ne l h0 (.inl h1)]
    refine ⟨E, callRuns_eq (run60 (by simp) ?_), hT⟩
    simp -implicitDefEqProofs [h0, h1]
  by_cases h2 : a.mp = b.mp
  rotate_left
  · rw [tReg_ne l h0 (.inr (.inl h2))]
    refine ⟨E, callRuns_eq (run60 (by simp) ?_), hT⟩
    simp -implicitDefEqProofs [h0, h1, h2, h1 ▸ h0]
  by_cases h3 : a.sz = b.sz
  rotate_left
  · rw [tReg_ne l h0 (.inr (.inr (.inl h3)))]
    refine ⟨E, callRuns_eq (run60 (by simp) ?_), hT⟩
    simp -implicitDefEqProofs [h0, h1, h2, h3, h1 ▸ h0]
  cases h4 : scIn a.num b.num
  · rw [tReg_ne l h0 (.inr (.inr (.inr h4)))]
    refine ⟨E, callRuns_eq (run60 (by simp) ?_), hT⟩
    simp -implicitDefEqProofs [h0, h1, h2, h3, h1 ▸ h0]
    refine callK_ret (k106 _ _ _ _ _ _ _ _ _) ?_
    simp -implicitDefEqProofs [h0, h1, h2, h3, h4, h1 ▸ h0]
  have e : tReg l a b = if b.kind = 8 ∨ b.kind = 9 ∨ b.kind = 10 then tm l a.id b.id else (true, l) := by
    simp only [tReg, h0, h1, h2, h3, h4, if_false]
    simp [h1 ▸ h0]
  rw [e]
  by_cases h5 : b.kind = 8 ∨ b.kind = 9 ∨ b.kind = 10
  · rw [if_pos h5]
    obtain ⟨E', c1, c2⟩ := k62 a.id b.id l H E hT hl
    refine ⟨E', callRuns_eq (run60 (by simp) ?_), c2⟩
    simp -implicitDefEqProofs [h0, h1, h2, h3, h1 ▸ h0]
    refine callK_ret (k106 _ _ _ _ _ _ _ _ _) ?_
    rcases h5 with h5 | h5 | h5
    all_goals
      simp -implicitDefEqProofs [h0, h1, h2, h3, h4, h5]
      refine callK_ret c1 ?_
      simp -implicitDefEqProofs
  · rw [if_neg h5]
    simp only [not_or] at h5
    obtain ⟨h5, h6, h7⟩ := h5
    refine ⟨E, callRuns_eq (run60 (by simp) ?_), hT⟩
    simp -implicitDefEqProofs [h0, h1, h2, h3, h1 ▸ h0]
    refine callK_ret (k106 _ _ _ _ _ _ _ _ _) ?_
    simp -implicitDefEqProofs [h0, h1, h2, h3, h4, h5, h6, h7]

set_option maxHeartbeats 4000000 in
theorem k61 (a b : Sl) (l : Tab) (H E : Heap) (hT : TabAt H E l) (hl : l.length < 17592186044000) :
    ∃ E', CallRuns Try.prog 61 [.ptr (some (H.length, [0], 89)), eL a, eL b] E (.ret (.bool (tSlot l a b).1)) E' ∧ TabAt H E' (tSlot l a b).2 := by
  by_cases h1 : a.kind = 0
  · have e : tSlot l a b = (true, l) := by simp [tSlot, h1]
    rw [e]
    refine ⟨E, callRuns_eq (run61 (by simp) ?_), hT⟩
    simp -implicitDefEqProofs [h1]
  by_cases h2 : a.kind = 1
  · have e : tSlot l a b = (decide (a.known = 0) || (decide (b.kind = 1) && decide (andNotI a.known b.known = 0)) || (decide (b.kind = 2) && decide (b.reg.kind = 1)), l) := by simp only [tSlot, h2]; simp
    rw [e]
    refine ⟨E, callRuns_eq (run61 (by simp) ?_), hT⟩
    by_cases h3 : a.known = 0
    · simp -implicitDefEqProofs [h1, h2, h3]
    by_cases h4 : b.kind = 1
    · by_cases h5 : andNotI a.known b.known = 0
      · simp -implicitDefEqProofs [h1, h2, h3, h4, h5]
      · simp -implicitDefEqProofs [h1, h2, h3, h4, h5]
    · by_cases h5 : b.kind = 2
      · by_cases h6 : b.reg.kind = 1 <;> simp -implicitDefEqProofs [h1, h2, h3, h4, h5, h6]
      · simp -implicitDefEqProofs [h1, h2, h3, h4, h5]
  by_cases h3 : b.kind = 2
  · have e : tSlot l a b = tReg l a.reg b.reg := by simp only [tSlot, h1, h2, h3, if_false, if_true]
    rw [e]
    obtain ⟨E', c1, c2⟩ := k60 a.reg b.reg l H E hT hl
    refine ⟨E', callRuns_eq (run61 (by simp) ?_), c2⟩
    simp -implicitDefEqProofs [h1, h2, h3]
    refine callK_ret c1 ?_
    simp -implicitDefEqProofs
  · have e : tSlot l a b = (false, l) := by simp only [tSlot, h1, h2, h3, if_false]
    rw [e]
    refine ⟨E, callRuns_eq (run61 (by simp) ?_), hT⟩
    simp -implicitDefEqProofs [h1, h2, h3]

set_option maxHeartbeats 8000000 in
theorem k18 {p1 p2 : Option (Nat × List Nat × Nat × TypeId)} {n1 c1 n2 c2 : Nat} {l m : List Int} (ra rb : List Rg) (sa sb : List Sl) (ga gb ia ib : Int) (H : Heap)
    (hra : ra.length = 11) (hrb : rb.length = 11) (hsa : sa.length = 64) (hsb : sb.length = 64) (r1 : RefsAt H p1 n1 c1 l) (r2 : RefsAt H p2 n2 c2 m) (hl : l.length ≤ 17592186043904) :
    CallRuns Try.prog 18 [eSt ra sa ga (.sl p1 n1 c1) ia, eSt rb sb gb (.sl p2 n2 c2) ib] H (.ret (.bool (rinF ra rb sa sb l m ga gb))) H := by
  obtain ⟨res, hres⟩ : ∃ r, rinF ra rb sa sb l m ga gb = r := ⟨_, rfl⟩
  rw [hres]
  refine callRuns_trim (run18 (by simp) ?_) (by simp [clo, Out.val])
  obtain ⟨rfl, _⟩ := id r1
  obtain ⟨rfl, _⟩ := id r2
  simp -implicitDefEqProofs [hra, hrb, hsa, hsb]
  obtain ⟨R1, hR1⟩ : ∃ r, tAll tReg [] ra rb = r := ⟨_, rfl⟩
  unfold rinF at hres
  rw [hR1] at hres
  refine loop_inv [2, 3, 4, 5, 6] [2, 3] (fun x : Nat × Tab × Heap => ⟨[(2, .loc 2 [0] 35), (3, .loc 3 [0] 35), (4, .bool false), (5, .ptr (some (H.length, [0], 89))), (6, .int .i64 x.1)],
      [(2, 35, [eSt ra sa ga (.sl p1 l.length c1) ia]), (3, 35, [eSt rb sb gb (.sl p2 m.length c2) ib])], x.2.2⟩)
    (fun x => x.1 ≤ 11 ∧ TabAt H x.2.2 x.2.1 ∧ x.2.1.length ≤ x.1 ∧ tAll tReg x.2.1 (ra.drop x.1) (rb.drop x.1) = R1) (fun x => 11 - x.1) (0, [], H ++ [.cells 89 [.ag [.sl none 0 0, .sl none 0 0]] false])
    (by simp -implicitDefEqProofs [St.keep]) (by simp -implicitDefEqProofs [tidy]) ⟨by simp, ⟨⟨_, rfl⟩, by simp, .inl ⟨rfl, by simp⟩⟩, by simp, by simpa using hR1⟩ ?_
  clear hR1
  rintro ⟨i, q, E⟩ ⟨hi, hT, hql, hs⟩
  simp only at hi hs hT hql
  by_cases hlt : i < 11
  · obtain ⟨x, hx⟩ := getElem?_of_lt (show i < ra.length by omega)
    obtain ⟨y, hy⟩ := getElem?_of_lt (show i < rb.length by omega)
    have hi' : ((i : Nat) : Int) < 11 := by omega
    have e := tAll_step (f := tReg) (p := q) hx hy
    rw [hs] at e
    have hw := wrap_succ (show i < 2 ^ 60 by omega)
    obtain ⟨E', d1, d2⟩ := k60 x y q H E hT (by omega)
    simp -implicitDefEqProofs [hi', hx, hy]
    refine callK_ret d1 ?_
    have hlen := tReg_len q x y
    cases hb : (tReg q x y).1
    · rw [hb] at e
      simp at e
      subst e
      simp at hres
      subst hres
      simp -implicitDefEqProofs [hb]
      exact d2.1
    · rw [hb] at e
      simp -implicitDefEqProofs [hb, hw]
      exact headK_of (i + 1, (tReg q x y).2, E') (by simp -implicitDefEqProofs [St.keep]) ⟨by omega, d2, by simp; omega, e.symm⟩ (by simp; omega)
  have hi0 : i = 11 := by omega
  subst hi0
  rw [tAll_end (by omega)] at hs
  subst hs
  simp only [Bool.true_and] at hres
  simp -implicitDefEqProofs
  obtain ⟨R2, hR2⟩ : ∃ r, tAll tSlot q sa sb = r := ⟨_, rfl⟩
  rw [hR2] at hres
  refine loop_inv [2, 3, 4, 5, 7] [2, 3] (fun x : Nat × Tab × Heap => ⟨[(2, .loc 2 [0] 35), (3, .loc 3 [0] 35), (4, .bool false), (5, .ptr (some (H.length, [0], 89))), (7, .int .i64 x.1)],
      [(2, 35, [eSt ra sa ga (.sl p1 l.length c1) ia]), (3, 35, [eSt rb sb gb (.sl p2 m.length c2) ib])], x.2.2⟩)
    (fun x => x.1 ≤ 64 ∧ TabAt H x.2.2 x.2.1 ∧ x.2.1.length ≤ 11 + x.1 ∧ tAll tSlot x.2.1 (sa.drop x.1) (sb.drop x.1) = R2) (fun x => 64 - x.1) (0, q, E)
    (by simp -implicitDefEqProofs [St.keep]) (by simp -implicitDefEqProofs [tidy]) ⟨by simp, hT, by simpa using hql, by simpa using hR2⟩ ?_
  clear hR2 hT hql
  rintro ⟨i, q, E⟩ ⟨hi, hT, hql, hs⟩
  simp only at hi hs hT hql
  by_cases hlt : i < 64
  · obtain ⟨x, hx⟩ := getElem?_of_lt (show i < sa.length by omega)
    obtain ⟨y, hy⟩ := getElem?_of_lt (show i < sb.length by omega)
    have hi' : ((i : Nat) : Int) < 64 := by omega
    have e := tAll_step (f := tSlot) (p := q) hx hy
    rw [hs] at e
    have hw := wrap_succ (show i < 2 ^ 60 by omega)
    obtain ⟨E', d1, d2⟩ := k61 x y q H E hT (by omega)
    simp -implicitDefEqProofs [hi', hx, hy]
    refine callK_ret d1 ?_
    have hlen := tSlot_len q x y
    cases hb : (tSlot q x y).1
    · rw [hb] at e
      simp at e
      subst e
      simp at hres
      subst hres
      simp -implicitDefEqProofs [hb]
      exact d2.1
    · rw [hb] at e
      simp -implicitDefEqProofs [hb, hw]
      exact headK_of (i + 1, (tSlot q x y).2, E') (by simp -implicitDefEqProofs [St.keep]) ⟨by omega, d2, by simp; omega, e.symm⟩ (by simp; omega)
  have hi0 : i = 64 := by omega
  subst hi0
  rw [tAll_end (by omega)] at hs
  subst hs
  simp only [Bool.true_and] at hres
  simp -implicitDefEqProofs
  by_cases hlm : l.length = m.length
  rotate_left
  · have hlm' : ¬ ((l.length : Int) = m.length) := by omega
    simp [tRefs, hlm] at hres
    subst hres
    simp -implicitDefEqProofs [hlm']
    exact hT.1
  simp only [tRefs, hlm, if_true] at hres
  simp -implicitDefEqProofs [hlm]
  obtain ⟨R3, hR3⟩ : ∃ r, tAll tm q l m = r := ⟨_, rfl⟩
  rw [hR3] at hres
  refine loop_inv [2, 3, 4, 5, 8] [2, 3] (fun x : Nat × Tab × Heap => ⟨[(2, .loc 2 [0] 35), (3, .loc 3 [0] 35), (4, .bool false), (5, .ptr (some (H.length, [0], 89))), (8, .int .i64 x.1)],
      [(2, 35, [eSt ra sa ga (.sl p1 l.length c1) ia]), (3, 35, [eSt rb sb gb (.sl p2 m.length c2) ib])], x.2.2⟩)
    (fun x => x.1 ≤ l.length ∧ TabAt H x.2.2 x.2.1 ∧ x.2.1.length ≤ 75 + x.1 ∧ tAll tm x.2.1 (l.drop x.1) (m.drop x.1) = R3) (fun x => l.length - x.1) (0, q, E)
    (by simp -implicitDefEqProofs [St.keep]) (by simp -implicitDefEqProofs [tidy]) ⟨by simp, hT, by simpa using hql, by simpa using hR3⟩ ?_
  clear hR3 hT hql
  rintro ⟨i, q, E⟩ ⟨hi, hT, hql, hs⟩
  simp only at hi hs hT hql
  by_cases hlt : i < l.length
  · obtain ⟨x, hx⟩ := getElem?_of_lt hlt
    obtain ⟨y, hy⟩ := getElem?_of_lt (show i < m.length by omega)
    have hi' : ((i : Nat) : Int) < m.length := by omega
    have hi2 : ((i : Nat) : Int) < l.length := by omega
    have e := tAll_step (f := tm) (p := q) hx hy
    rw [hs] at e
    have hw := wrap_succ (show i < 2 ^ 60 by omega)
    obtain ⟨E', d1, d2⟩ := k62 x y q H E hT (by omega)
    obtain ⟨F, rfl⟩ := hT.1
    obtain ⟨a1, b1, w1, x', rfl, q1, q2, q3, q4, q5⟩ := (r1.append (D := F)).get hlt
    obtain ⟨a2, b2, w2, y', rfl, t1, t2, t3, t4, t5⟩ := (r2.append (D := F)).get (show i < m.length by omega)
    rw [hx] at q5; cases q5
    rw [hy] at t5; cases t5
    simp -implicitDefEqProofs [-Blk.row?, hi', hi2, q2, q3, q4, t2, t3, t4, hlm]
    refine callK_ret d1 ?_
    have hlen := tm_len q x y
    cases hb : (tm q x y).1
    · rw [hb] at e
      simp at e
      subst e
      simp at hres
      subst hres
      simp -implicitDefEqProofs [hb]
      exact d2.1
    · rw [hb] at e
      simp -implicitDefEqProofs [hb, hw]
      exact headK_of (i + 1, (tm q x y).2, E') (by simp -implicitDefEqProofs [St.keep, hlm]) ⟨by omega, d2, by simp; omega, e.symm⟩ (by simp; omega)
  have hi' : ¬ (((i : Nat) : Int) < m.length) := by omega
  rw [tAll_end (by omega)] at hs
  subst hs
  simp only [Bool.true_and] at hres
  simp -implicitDefEqProofs [hi', hlm]
  exact ⟨hres, hT.1⟩

end Go.Proofs.Ytlonpljlojgclaa
