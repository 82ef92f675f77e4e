import Derived.Test.YtlonpljlojgclaaSt8
import Derived.Test.YtlonpljlojgclaaAvTab
set_option linter.unusedSimpArgs false
set_option linter.unusedVariables false
set_option maxRecDepth 1000000
namespace Go.Proofs.Ytlonpljlojgclaa
open Go Go.Av

@[simp] theorem int_andNot {P : Program} {t : TypeId} {a b : Int} : binA P .andNot t (.int .i64 a) (.int .i64 b) = some (.int .i64 (andNotI a b)) := by simp [binA, intBin, andNotI]; rfl

theorem k123 (v m v' m' : BitVec 64) (H : Heap) : CallRuns Try.prog 123 [.ag [u64 v, u64 m], .ag [u64 v', u64 m']] H (.ret (.bool (tIn ⟨v, m⟩ ⟨v', m'⟩))) H := by
  rw [← rtIn_eq]
  refine callRuns_eq (run123 (by simp) ?_)
  by_cases h : m' &&& ~~~m = 0#64 <;> simp -implicitDefEqProofs [h, rtIn]

theorem k106 (v m lo hi v' m' lo' hi' : BitVec 64) (H : Heap) : CallRuns Try.prog 106 [.ag [.ag [u64 v, u64 m], u64 lo, u64 hi], .ag [.ag [u64 v', u64 m'], u64 lo', u64 hi']] H (.ret (.bool (scIn ⟨⟨v, m⟩, lo, hi⟩ ⟨⟨v', m'⟩, lo', hi'⟩))) H := by
  refine callRuns_eq (run106 (by simp) ?_)
  simp -implicitDefEqProofs
  refine callK_ret (k123 _ _ _ _ _) ?_
  cases h : tIn ⟨v, m⟩ ⟨v', m'⟩
  · simp -implicitDefEqProofs [h, scIn]
  by_cases h2 : lo ≤ lo'
  · simp -implicitDefEqProofs [h, h2, scIn]
  · simp -implicitDefEqProofs [h, h2, scIn]

theorem get_l {E X : Heap} {n : Nat} (h : n < E.length) : (E ++ X)[n]? = E[n]? := List.getElem?_append_left h
theorem set_l {E X : Heap} {n : Nat} {b : Blk} (h : n < E.length) : (E ++ X).set n b = E.set n b ++ X := List.set_append_left _ _ h

theorem set3 {H F : Heap} {i j : Nat} {a b c : Blk} : (((H ++ F).set (H.length + i) a).set (H.length + j) b).set H.length c = H ++ ((F.set i a).set j b).set 0 c := by
  have e : ∀ (G : List Blk) (n : Nat) (x : Blk), (H ++ G).set (H.length + n) x = H ++ G.set n x := fun G n x => by
    simp
  have e0 : ∀ (G : List Blk) (x : Blk), (H ++ G).set H.length x = H ++ G.set 0 x := fun G x => by
    simp
  have h1 : (H ++ F).set (H.length + i) a = H ++ F.set i a := e F i a
  rw [h1, e, e0]

set_option maxHeartbeats 16000000 in
theorem k62 (a b : Int) (l : Tab) (H E : Heap) (hT : TabAt H E l) (hl : l.length < 17592186044000) :
    ∃ E', CallRuns Try.prog 62 [.ptr (some (H.length, [0], 89)), .int .i64 a, .int .i64 b] E (.ret (.bool (tm l a b).1)) E' ∧ TabAt H E' (tm l a b).2 := by
  obtain ⟨res, hres⟩ : ∃ r, tm l a b = r := ⟨_, rfl⟩
  rw [hres]
  have fin : (∃ out E', CallRuns Try.prog 62 [.ptr (some (H.length, [0], 89)), .int .i64 a, .int .i64 b] E out E' ∧ (out = .ret (.bool res.1) ∧ TabAt H E' res.2)) → ∃ E', CallRuns Try.prog 62 [.ptr (some (H.length, [0], 89)), .int .i64 a, .int .i64 b] E (.ret (.bool res.1)) E' ∧ TabAt H E' res.2 := by
    rintro ⟨out, E', h1, rfl, h2⟩
    exact ⟨E', h1, h2⟩
  refine fin (run62 (by simp) ?_)
  clear fin
  obtain ⟨⟨F, hF⟩, hlt, hT⟩ := id hT
  have z1 : (l.length + 1) * 8 ≤ 140737488355328 := by omega
  have z2 : l.length + 1 ≤ 140737488355328 := by omega
  have z3 : ¬ (l.length + 1 ≤ l.length) := by omega
  rcases hT with ⟨rfl, hE⟩ | ⟨i0, j0, hij, hi0, hj0, hi1, hj1, hE, hA, hB⟩
  · simp [tm, hit] at hres
    subst hres
    have ea : ∀ X : Heap, (E ++ X)[H.length]? = some (.cells 89 [.ag [.sl none 0 0, .sl none 0 0]] false) := fun X => by rw [get_l hlt, hE]
    have es : ∀ (X : Heap) (b : Blk), (E ++ X).set H.length b = E.set H.length b ++ X := fun X b => set_l hlt
    have eg : ∀ (X : Heap) (b : Blk), (E.set H.length b ++ X)[H.length]? = some b := fun X b => by rw [get_l (by simpa using hlt)]; simp [hlt]
    have es2 : ∀ (X : Heap) (b b' : Blk), (E.set H.length b ++ X).set H.length b' = E.set H.length b' ++ X := fun X b b' => by rw [set_l (by simpa using hlt)]; simp
    simp -implicitDefEqProofs [hE]
    refine loop_step [0, 1, 2, 6, 7] [] (by simp -implicitDefEqProofs [St.keep]; rfl) (by simp -implicitDefEqProofs [tidy]) ?_
    simp -implicitDefEqProofs [hE]
    refine draws_run [H.length] rfl ?_
    simp -implicitDefEqProofs [hE, appendA, elemsA, growA, sizeOK, ea, es, eg, es2]
    subst hF
    refine ⟨⟨F.set 0 (.cells 89 [.ag [.sl (some (H.length + F.length, [], 0, 3)) 1 1, .sl (some (H.length + F.length + 1, [], 0, 3)) 1 1]] false) ++ [.cells 3 [.int .i64 a] true, .cells 3 [.int .i64 b] true], ?_⟩, by simp, .inr ⟨H.length + F.length, H.length + F.length + 1, by omega, ?_, ?_, by simp, by simp; omega, ?_, ?_, ?_⟩⟩
    · simp
    · simp at hlt; omega
    · simp at hlt; omega
    · rw [eg]; simp
    · rw [show H.length + F.length = ((H ++ F).set H.length (.cells 89 [.ag [.sl (some ((H ++ F).length, [], 0, 3)) 1 1, .sl (some ((H ++ F).length + 1, [], 0, 3)) 1 1]] false)).length from by simp]
      simp
    · rw [show H.length + F.length + 1 = (((H ++ F).set H.length (.cells 89 [.ag [.sl (some ((H ++ F).length, [], 0, 3)) 1 1, .sl (some ((H ++ F).length + 1, [], 0, 3)) 1 1]] false)) ++ [Blk.cells 3 [.int .i64 a] true]).length from by simp; omega]
      simp
  · -- the loop
    have hTl : ∀ i, i < l.length → ∃ x y, l[i]? = some (x, y) := fun i hi => ⟨_, _, List.getElem?_eq_getElem hi⟩
    simp -implicitDefEqProofs
    refine loop_inv [0, 1, 2, 6, 7] [] (fun i : Nat => ⟨[(0, .ptr (some (H.length, [0], 89))), (1, .int .i64 a), (2, .int .i64 b), (6, .bool false), (7, .int .i64 i)], [], E⟩)
      (fun i => i ≤ l.length ∧ hit a b (l.drop i) = hit a b l) (fun i => l.length - i) 0 (by simp -implicitDefEqProofs [St.keep]) (by simp -implicitDefEqProofs [tidy]) ⟨by omega, by simp⟩ ?_
    rintro i ⟨hi, hh⟩
    by_cases hlti : i < l.length
    · obtain ⟨x, y, hxy⟩ := hTl i hlti
      have hi' : ((i : Nat) : Int) < l.length := by omega
      have hw := wrap_succ (show i < 2 ^ 60 by omega)
      have hst := hit_step (a := a) (b := b) hxy
      rw [hh] at hst
      by_cases c1 : x = a
      · simp only [c1, true_or, if_true] at hst
        simp only [tm, hst] at hres
        subst hres
        by_cases c2 : y = b
        · simp -implicitDefEqProofs [hE, hA, hB, hi', hxy, c1, c2]
          exact hT
        · simp -implicitDefEqProofs [hE, hA, hB, hi', hxy, c1, c2]
          exact hT
      · by_cases c2 : y = b
        · simp only [c1, c2, or_true, if_true] at hst
          simp only [tm, hst] at hres
          subst hres
          simp -implicitDefEqProofs [hE, hA, hB, hi', hxy, c1, c2]
          exact hT
        · simp only [c1, c2, or_self, if_false] at hst
          simp -implicitDefEqProofs [hE, hA, hB, hi', hxy, c1, c2, hw]
          exact headK_of (i + 1) (by simp -implicitDefEqProofs [St.keep]) ⟨by omega, hst.symm⟩ (by omega)
    · have hi' : ¬ (((i : Nat) : Int) < l.length) := by omega
      have hd : l.drop i = [] := List.drop_eq_nil_of_le (by omega)
      rw [hd] at hh
      simp only [tm, ← hh, hit] at hres
      subst hres
      have hne : H.length ≠ i0 := by omega
      have hne2 : H.length ≠ j0 := by omega
      have n1 : ∀ X : Heap, (E.set i0 .dead ++ X)[H.length]? = some (.cells 89 [.ag [.sl (some (i0, [], 0, 3)) l.length l.length, .sl (some (j0, [], 0, 3)) l.length l.length]] false) := fun X => by rw [get_l (by simpa using hlt), List.getElem?_set_ne hne.symm, hE]
      have n2 : ∀ X : Heap, (E.set i0 .dead ++ X)[j0]? = some (.cells 3 (l.map fun x => AV.int .i64 x.2) true) := fun X => by rw [get_l (by simpa using hj1), List.getElem?_set_ne hij, hB]
      have n3 : ∀ (X : Heap) (b : Blk), (E.set i0 .dead ++ X).set j0 b = (E.set i0 .dead).set j0 b ++ X := fun X b => set_l (by simpa using hj1)
      have n4 : ∀ X : Heap, ((E.set i0 .dead).set j0 .dead ++ X)[H.length]? = some (.cells 89 [.ag [.sl (some (i0, [], 0, 3)) l.length l.length, .sl (some (j0, [], 0, 3)) l.length l.length]] false) := fun X => by
        rw [get_l (by simpa using hlt), List.getElem?_set_ne hne2.symm, List.getElem?_set_ne hne.symm, hE]
      have n5 : ∀ (X : Heap) (b : Blk), ((E.set i0 .dead).set j0 .dead ++ X).set H.length b = ((E.set i0 .dead).set j0 .dead).set H.length b ++ X := fun X b => set_l (by simpa using hlt)
      have n6 : ∀ (X : Heap) (b : Blk), (((E.set i0 .dead).set j0 .dead).set H.length b ++ X)[H.length]? = some b := fun X b => by rw [get_l (by simpa using hlt)]; simp [hlt]
      have n7 : ∀ (X : Heap) (b b' : Blk), (((E.set i0 .dead).set j0 .dead).set H.length b ++ X).set H.length b' = ((E.set i0 .dead).set j0 .dead).set H.length b' ++ X := fun X b b' => by rw [set_l (by simpa using hlt)]; simp
      have t1 : List.take l.length (l.map fun x => AV.int .i64 x.1) = l.map fun x => AV.int .i64 x.1 := List.take_of_length_le (by simp)
      have t2 : List.take l.length (l.map fun x => AV.int .i64 x.2) = l.map fun x => AV.int .i64 x.2 := List.take_of_length_le (by simp)
      simp -implicitDefEqProofs [hE, hi']
      refine draws_run [H.length] rfl ?_
      simp -implicitDefEqProofs [hE, hA, appendA, elemsA, growA, sizeOK, n1, n2, n3, n4, n5, n6, n7, t1, t2, z1, z2, z3]
      subst hF
      have hlt' : 0 < F.length := by simpa using hlt
      obtain ⟨i1, rfl⟩ : ∃ i1, i0 = H.length + i1 := ⟨i0 - H.length, by omega⟩
      obtain ⟨j1, rfl⟩ : ∃ j1, j0 = H.length + j1 := ⟨j0 - H.length, by omega⟩
      have hA' : F[i1]? = some (.cells 3 (l.map fun x => AV.int .i64 x.1) true) := by rw [← hA, List.getElem?_append_right (by omega)]; simp
      have hB' : F[j1]? = some (.cells 3 (l.map fun x => AV.int .i64 x.2) true) := by rw [← hB, List.getElem?_append_right (by omega)]; simp
      rw [set3]
      refine ⟨⟨_, by rw [List.append_assoc]⟩, by simp, .inr ⟨H.length + F.length, H.length + F.length + 1, by omega, by omega, by omega, by simp, by simp; omega, ?_, ?_, ?_⟩⟩
      · simp [List.getElem?_append, hlt']
      · generalize hX : H ++ ((F.set i1 .dead).set j1 .dead).set 0 _ = X
        have hXl : X.length = H.length + F.length := by rw [← hX]; simp
        rw [← hXl]; simp
      · generalize hX : H ++ ((F.set i1 .dead).set j1 .dead).set 0 _ = X
        have hXl : X.length = H.length + F.length := by rw [← hX]; simp
        rw [← hXl, List.getElem?_append_right (by omega)]; simp

end Go.Proofs.Ytlonpljlojgclaa
