import Derived.Test.YtlonpljlojgclaaSt14
set_option linter.unusedSimpArgs false
set_option linter.unusedVariables false
set_option maxRecDepth 1000000
namespace Go.Proofs.Ytlonpljlojgclaa
open Go Go.Av

set_option maxHeartbeats 8000000 in
theorem k119 {k c : Nat} {l : List Int} {row : List AV} {sl : Bool} (id : Int) (a : Nat) (sa : Bool) (G : Heap) (ha : G[a]? = some (.cells 3 [.int .i64 id] sa)) (hak : k ≠ a) (hk : G[k]? = some (.cells 3 row sl)) (hrow : row.take l.length = l.map fun x => AV.int .i64 x) (hc : l.length ≤ c) (hcr : c ≤ row.length) (hl : l.length < 2 ^ 44) :
    ∃ row', CallRuns Try.prog 119 [.sl (some (k, [], 0, 3)) l.length c, .fn (.func 120) [] [.ptr (some (a, [0], 3))]] G (.ret (.sl (some (k, [], 0, 3)) (noId id l).length c)) (G.set k (.cells 3 row' sl)) ∧ row'.take (noId id l).length = (noId id l).map fun x => AV.int .i64 x := by
  have hkG : k < G.length := (List.getElem?_eq_some_iff.1 hk).1
  have r : RefsAt G (some (k, [], 0, 3)) l.length c l := ⟨rfl, hc, rfl, rfl, rfl, hkG, .inr ⟨_, row, hk, rfl, hrow⟩⟩
  rcases k132 id a sa G ha r hl with ⟨d1, d2⟩ | ⟨i, d1, d2, d3⟩
  · refine ⟨row, ?_, by rw [noId_of d2]; exact hrow⟩
    rw [noId_of d2]
    have e : G.set k (.cells 3 row sl) = G := by
      apply List.ext_getElem?
      intro m
      rw [List.getElem?_set]
      by_cases hm : k = m
      · subst hm; rw [if_pos rfl, if_pos hkG]; exact hk.symm
      · rw [if_neg hm]
    rw [e]
    refine callRuns_eq (run119 (by simp) ?_)
    simp -implicitDefEqProofs
    refine callK_ret d1 ?_
    simp -implicitDefEqProofs
  have fin : (∃ out E, CallRuns Try.prog 119 [.sl (some (k, [], 0, 3)) l.length c, .fn (.func 120) [] [.ptr (some (a, [0], 3))]] G out E ∧ (out = .ret (.sl (some (k, [], 0, 3)) (noId id l).length c) ∧ ∃ row', E = G.set k (.cells 3 row' sl) ∧ row'.take (noId id l).length = (noId id l).map fun x => AV.int .i64 x)) →
      ∃ row', CallRuns Try.prog 119 [.sl (some (k, [], 0, 3)) l.length c, .fn (.func 120) [] [.ptr (some (a, [0], 3))]] G (.ret (.sl (some (k, [], 0, 3)) (noId id l).length c)) (G.set k (.cells 3 row' sl)) ∧ row'.take (noId id l).length = (noId id l).map fun x => AV.int .i64 x := by
    rintro ⟨out, E, h1, rfl, row', rfl, h2⟩
    exact ⟨row', h1, h2⟩
  refine fin (run119 (by simp) ?_)
  clear fin
  have hil := (List.getElem?_eq_some_iff.1 d2).1
  have hw0 := wrap_succ (show i < 2 ^ 60 by omega)
  have hi1 : ¬ ((i : Int) = -1) := by omega
  have hlr : l.length ≤ row.length := by omega
  simp -implicitDefEqProofs
  refine callK_ret d1 ?_
  simp -implicitDefEqProofs [hi1, hw0]
  have st := RowAt.start (c := c) rfl hrow d2 d3
  refine loop_inv [0, 1, 4, 5, 6] [] (fun x : Nat × Nat × List AV => ⟨[(0, .sl (some (k, [], 0, 3)) l.length c), (1, .fn (.func 120) [] [.ptr (some (a, [0], 3))]), (4, .sl none 0 0), (5, .int .i64 x.2.1), (6, .int .i64 x.1)], [], G.set k (.cells 3 x.2.2 sl)⟩)
    (fun x => RowAt id l row.length x.2.2 x.1 x.2.1) (fun x => l.length - x.1) (i + 1, i, row) (by
      have e : G.set k (.cells 3 row sl) = G := by
        apply List.ext_getElem?
        intro m
        rw [List.getElem?_set]
        by_cases hm : k = m
        · subst hm; rw [if_pos rfl, if_pos hkG]; exact hk.symm
        · rw [if_neg hm]
      simp -implicitDefEqProofs [St.keep, e]) (by simp -implicitDefEqProofs [tidy]) st ?_
  clear st hrow hk
  rintro ⟨j, i, w⟩ hR
  simp only at hR
  have hR' := hR
  obtain ⟨g1, g2, g3, g4, g5, g6⟩ := hR'
  have ha' : (G.set k (.cells 3 w sl))[a]? = some (.cells 3 [.int .i64 id] sa) := by rw [List.getElem?_set_ne hak]; exact ha
  have hk' : ∀ w : List AV, (G.set k (.cells 3 w sl))[k]? = some (.cells 3 w sl) := fun w => by simp [hkG]
  by_cases hlt : j < l.length
  · obtain ⟨x, hx⟩ := getElem?_of_lt hlt
    have hj' : ((j : Nat) : Int) < l.length := by omega
    have hw := wrap_succ (show j < 2 ^ 60 by omega)
    have hw2 := wrap_succ (show i < 2 ^ 60 by omega)
    have hwj := g6 j x (Nat.le_refl _) hx
    simp -implicitDefEqProofs [hj', hk', hwj]
    refine callK_ret (k120 x id a sa _ ha') ?_
    by_cases hxi : x = id
    · simp -implicitDefEqProofs [hxi, hw]
      exact headK_of (j + 1, i, w) (by simp -implicitDefEqProofs [St.keep]) (hR.skip (hxi ▸ hx)) (by simp; omega)
    · have hil' : i < l.length := by omega
      obtain ⟨y, hy⟩ := getElem?_of_lt (show i < w.length by omega)
      have hiw : i < w.length := by omega
      have xs : ∀ b, (G.set k (.cells 3 w sl)).set k b = G.set k b := fun b => by simp
      have xk := hk' w
      generalize G.set k (.cells 3 w sl) = X at xs xk
      have hR2 := hR.keep hlr hx hxi
      simp -implicitDefEqProofs [hxi]
      rw [if_pos hil']
      simp -implicitDefEqProofs only [Option.bind, pv, effK, St.app, St.putO]
      simp -implicitDefEqProofs only [RWp_cons, guardA, brK, stepA_store]
      generalize hKK : (RWp Try.prog C119 []) = KK
      simp -implicitDefEqProofs [xk, hy, hiw, hset, xs]
      rw [← hKK]
      clear xk xs hKK
      generalize w.set i (.int .i64 x) = w2 at hR2
      simp -implicitDefEqProofs []
      have e1 : (AV.int .i64 (IntKind.i64.wrap ((j : Int) + 1))) = .int .i64 ((j + 1 : Nat) : Int) := by rw [hw]
      have e2 : (AV.int .i64 (IntKind.i64.wrap ((i : Int) + 1))) = .int .i64 ((i + 1 : Nat) : Int) := by rw [hw2]
      rw [e1, e2]
      exact headK_of (j + 1, i + 1, w2) (by simp -implicitDefEqProofs [St.keep]) hR2 (by simp; omega)
  have hj0 : j = l.length := by omega
  subst hj0
  have hj' : ¬ (((l.length : Nat) : Int) < l.length) := by omega
  rw [List.take_length] at g2 g3
  have u5 : l.length ≤ w.length := by omega
  have u1 : i ≤ l.length := by omega
  have u2 : ¬ (l.length - i = 0) := by omega
  have u3 : i + (l.length - i) ≤ w.length := by omega
  have u4 : i ≤ c := by omega
  simp -implicitDefEqProofs [hj', hk', sliceA, boundA, clearA, natOf_coe, u1, u2, u3, u4, u5]
  refine ⟨g3, _, rfl, ?_⟩
  rw [← g3]
  unfold putRow
  rw [List.take_append_of_le_length (by simp; omega), List.take_take, Nat.min_self]
  exact g2

end Go.Proofs.Ytlonpljlojgclaa
