import Derived.Test.YtlonpljlojgclaaSt4
import Derived.Test.YtlonpljlojgclaaBr4
set_option linter.unusedSimpArgs false
set_option linter.unusedVariables false
set_option maxRecDepth 1000000
namespace Go.Proofs.Ytlonpljlojgclaa
open Go Go.Av

theorem callRuns_some {f : FuncId} {args : List AV} {H : Heap} {Q : Bool → Prop} (h : ∃ out H', CallRuns Try.prog f args H out H' ∧ ((∃ D, H' = H ++ D) ∧ ∃ b, out = .ret (.bool b) ∧ Q b)) : ∃ b, CallRuns Try.prog f args H (.ret (.bool b)) H ∧ Q b := by
  obtain ⟨out, H', h1, ⟨D, rfl⟩, b, rfl, h2⟩ := h
  exact ⟨b, h1.trim (by simp [clo, Out.val]), h2⟩

set_option maxHeartbeats 4000000 in
theorem k51 (r : Rg) (H : Heap) : ∃ b, CallRuns Try.prog 51 [eR r] H (.ret (.bool b)) H ∧ (b = true → b = true) := by
  refine callRuns_some (run51 (by simp) ?_)
  by_cases h0 : r = rz
  · simp -implicitDefEqProofs [h0]
  by_cases h1 : 1 ≤ r.kind
  rotate_left
  · simp -implicitDefEqProofs [h0, h1]
  by_cases h2 : r.kind ≤ 10
  rotate_left
  · simp -implicitDefEqProofs [h0, h1, h2]
  simp -implicitDefEqProofs [h0, h1, h2]
  refine callK_ret (k65 _ _ _ _ _) ?_
  cases h3 : scCheck r.num
  · simp -implicitDefEqProofs [h0, h1, h2, h3]
  by_cases h4 : 0 ≤ r.mp
  rotate_left
  · simp -implicitDefEqProofs [h0, h1, h2, h3, h4]
  by_cases h5 : r.mp ≤ 1048576
  rotate_left
  · simp -implicitDefEqProofs [h0, h1, h2, h3, h4, h5]
  by_cases h6 : 0 ≤ r.id
  rotate_left
  · simp -implicitDefEqProofs [h0, h1, h2, h3, h4, h5, h6]
  by_cases h7 : r.id ≤ 1099511627776
  rotate_left
  · simp -implicitDefEqProofs [h0, h1, h2, h3, h4, h5, h6, h7]
  by_cases h8 : 0 ≤ r.sz
  rotate_left
  · simp -implicitDefEqProofs [h0, h1, h2, h3, h4, h5, h6, h7, h8]
  simp -implicitDefEqProofs [h0, h1, h2, h3, h4, h5, h6, h7, h8]
  omega

/-- What the law takes of a state that a verifier may have. -/
def slotOK (x : Sl) : Prop := 0 ≤ x.kind ∧ x.kind ≤ 2 ∧ 0 ≤ x.known ∧ x.known ≤ 255

set_option maxHeartbeats 16000000 in
theorem k14 {p : Option (Nat × List Nat × Nat × TypeId)} {n c : Nat} {l : List Int} (ra : List Rg) (sa : List Sl) (ga ia : Int) (H : Heap) (hra : ra.length = 11) (hsa : sa.length = 64) (r : RefsAt H p n c l) (hl : l.length < 2 ^ 44) :
    ∃ b, CallRuns Try.prog 14 [eSt ra sa ga (.sl p n c) ia] H (.ret (.bool b)) H ∧ (b = true → ∀ x ∈ sa, slotOK x) := by
  obtain ⟨rfl, _⟩ := id r
  refine callRuns_some (run14 (by simp) ?_)
  simp -implicitDefEqProofs [hra, hsa]
  refine loop_inv [1, 2, 3] [1] (fun i : Nat => ⟨[(1, .loc 1 [0] 35), (2, .bool false), (3, .int .i64 i)], [(1, 35, [eSt ra sa ga (.sl p l.length c) ia])], H⟩)
    (fun i => i ≤ 11) (fun i => 11 - i) 0 (by simp -implicitDefEqProofs [St.keep]) (by simp -implicitDefEqProofs [tidy]) (by omega) ?_
  intro i hi
  by_cases hlt : i < 11
  · obtain ⟨x, hx⟩ := getElem?_of_lt (show i < ra.length by omega)
    have hi' : ((i : Nat) : Int) < 11 := by omega
    have hw := wrap_succ (show i < 2 ^ 60 by omega)
    simp -implicitDefEqProofs [hi', hx]
    obtain ⟨b, hb, _⟩ := k51 x H
    refine callK_ret hb ?_
    cases b
    · simp -implicitDefEqProofs
    · simp -implicitDefEqProofs [hw]
      exact headK_of (i + 1) (by simp -implicitDefEqProofs [St.keep]) (by omega) (by omega)
  have hi0 : i = 11 := by omega
  subst hi0
  simp -implicitDefEqProofs
  clear hi hlt
  refine loop_inv [1, 2, 4] [1] (fun i : Nat => ⟨[(1, .loc 1 [0] 35), (2, .bool false), (4, .int .i64 i)], [(1, 35, [eSt ra sa ga (.sl p l.length c) ia])], H⟩)
    (fun i => i ≤ 64 ∧ ∀ k, k < i → ∀ x, sa[k]? = some x → slotOK x) (fun i => 64 - i) 0 (by simp -implicitDefEqProofs [St.keep]) (by simp -implicitDefEqProofs [tidy]) ⟨by omega, fun k hk => by omega⟩ ?_
  rintro i ⟨hi, hok⟩
  by_cases hlt : i < 64
  · obtain ⟨x, hx⟩ := getElem?_of_lt (show i < sa.length by omega)
    have hi' : ((i : Nat) : Int) < 64 := by omega
    have hw := wrap_succ (show i < 2 ^ 60 by omega)
    by_cases c1 : x.kind < 0
    · simp -implicitDefEqProofs [hi', hx, c1]
    by_cases c2 : 2 < x.kind
    · simp -implicitDefEqProofs [hi', hx, c1, c2]
    by_cases c3 : x.known < 0
    · simp -implicitDefEqProofs [hi', hx, c1, c2, c3]
    by_cases c4 : 255 < x.known
    · simp -implicitDefEqProofs [hi', hx, c1, c2, c3, c4]
    simp -implicitDefEqProofs [hi', hx, c1, c2, c3, c4]
    obtain ⟨b, hb, _⟩ := k51 x.reg H
    refine callK_ret hb ?_
    have hok' : ∀ k, k < i + 1 → ∀ y, sa[k]? = some y → slotOK y := by
      intro k hk y hy
      by_cases hki : k = i
      · subst hki
        rw [hx] at hy; cases hy
        exact ⟨by omega, by omega, by omega, by omega⟩
      · exact hok k (by omega) y hy
    cases b
    · simp -implicitDefEqProofs
    by_cases c5 : x.kind = 2
    · by_cases c6 : x.reg.kind = 0
      · simp -implicitDefEqProofs [c5, c6]
      by_cases c7 : x.known = 0
      rotate_left
      · simp -implicitDefEqProofs [c5, c6, c7]
      simp -implicitDefEqProofs [c5, c6, c7, hw]
      exact headK_of (i + 1) (by simp -implicitDefEqProofs [St.keep]) ⟨by omega, hok'⟩ (by omega)
    by_cases c6 : x.reg = rz
    rotate_left
    · simp -implicitDefEqProofs [c5, c6]
    by_cases c7 : x.kind = 0
    · by_cases c8 : x.known = 0
      rotate_left
      · simp -implicitDefEqProofs [c5, c6, c7, c8]
      simp -implicitDefEqProofs [c5, c6, c7, c8, hw]
      exact headK_of (i + 1) (by simp -implicitDefEqProofs [St.keep]) ⟨by omega, hok'⟩ (by omega)
    simp -implicitDefEqProofs [c5, c6, c7, hw]
    exact headK_of (i + 1) (by simp -implicitDefEqProofs [St.keep]) ⟨by omega, hok'⟩ (by omega)
  have hi0 : i = 64 := by omega
  subst hi0
  have hall : ∀ x ∈ sa, slotOK x := by
    intro x hx
    obtain ⟨k, hk, rfl⟩ := List.mem_iff_getElem.1 hx
    exact hok k (by omega) _ (by simp)
  simp -implicitDefEqProofs
  clear hi hlt hok
  refine loop_inv [1, 2, 6] [1] (fun i : Nat => ⟨[(1, .loc 1 [0] 35), (2, .bool false), (6, .int .i64 i)], [(1, 35, [eSt ra sa ga (.sl p l.length c) ia])], H⟩)
    (fun i => i ≤ l.length) (fun i => l.length - i) 0 (by simp -implicitDefEqProofs [St.keep]) (by simp -implicitDefEqProofs [tidy]) (by omega) ?_
  intro i hi
  by_cases hlt : i < l.length
  · obtain ⟨a1, b1, w1, x, rfl, q1, q2, q3, q4, q5⟩ := r.get hlt
    have hi' : ((i : Nat) : Int) < l.length := by omega
    have hw := wrap_succ (show i < 2 ^ 60 by omega)
    by_cases c1 : x < 1
    · simp -implicitDefEqProofs [-Blk.row?, hi', q2, q3, q4, c1]
    by_cases c2 : 1099511627776 < x
    · simp -implicitDefEqProofs [-Blk.row?, hi', q2, q3, q4, c1, c2]
    simp -implicitDefEqProofs [-Blk.row?, hi', q2, q3, q4, c1, c2]
    refine loop_inv [1, 2, 6, 7] [1] (fun k : Nat => ⟨[(1, .loc 1 [0] 35), (2, .bool false), (6, .int .i64 i), (7, .int .i64 k)], [(1, 35, [eSt ra sa ga (.sl (some (a1, [], 0, 3)) l.length c) ia])], H⟩)
      (fun k => k ≤ i) (fun k => i - k) 0 (by simp -implicitDefEqProofs [St.keep]) (by simp -implicitDefEqProofs [tidy]) (by omega) ?_
    intro k hk
    by_cases hkt : k < i
    · obtain ⟨a2, b2, w2, y, e2, t1, t2, t3, t4, t5⟩ := r.get (show k < l.length by omega)
      simp only [Option.some.injEq, Prod.mk.injEq, and_true] at e2
      subst e2
      rw [q2] at t2; cases t2
      rw [q3] at t3; cases t3
      have hk' : ((k : Nat) : Int) < i := by omega
      have hk2 : ((k : Nat) : Int) < l.length := by omega
      have hw2 := wrap_succ (show k < 2 ^ 60 by omega)
      by_cases hyx : y = x
      · simp -implicitDefEqProofs [-Blk.row?, hi', hk', hk2, q2, q3, q4, t4, hyx]
      · simp -implicitDefEqProofs [-Blk.row?, hi', hk', hk2, q2, q3, q4, t4, hyx, hw2]
        exact headK_of (k + 1) (by simp -implicitDefEqProofs [St.keep]) (by omega) (by omega)
    · have hk' : ¬ (((k : Nat) : Int) < i) := by omega
      simp -implicitDefEqProofs [hk', hw]
      exact headK_of (i + 1) (by simp -implicitDefEqProofs [St.keep]) (by omega) (by omega)
  · have hi' : ¬ (((i : Nat) : Int) < l.length) := by omega
    simp -implicitDefEqProofs [hi']
    by_cases c1 : 0 ≤ ga
    rotate_left
    · simp -implicitDefEqProofs [c1]
    by_cases c2 : ga ≤ 1048576
    rotate_left
    · simp -implicitDefEqProofs [c1, c2]
    by_cases c3 : 0 ≤ ia
    rotate_left
    · simp -implicitDefEqProofs [c1, c2, c3]
    simp -implicitDefEqProofs [c1, c2, c3]
    rcases Int.lt_or_le 1099511627776 ia with h | h
    · exact .inl h
    · exact .inr ⟨h, hall⟩

end Go.Proofs.Ytlonpljlojgclaa
