import Derived.Test.YtlonpljlojgclaaSt13
set_option linter.unusedSimpArgs false
set_option linter.unusedVariables false
set_option maxRecDepth 1000000
namespace Go.Proofs.Ytlonpljlojgclaa
open Go Go.Av

theorem natOf_coe {k : IntKind} {i : Nat} : natOf (.int k (i : Int)) = some i := by simp [natOf]

theorem k120 (x i : Int) (a : Nat) (sa : Bool) (G : Heap) (ha : G[a]? = some (.cells 3 [.int .i64 i] sa)) : CallRuns Try.prog 120 [.int .i64 x, .ptr (some (a, [0], 3))] G (.ret (.bool (decide (x = i)))) G := by
  refine callRuns_eq (run120 (by simp) ?_)
  by_cases h : x = i <;> simp -implicitDefEqProofs [ha, h]

theorem noId_of {id : Int} : ∀ {l : List Int}, id ∉ l → noId id l = l := by
  intro l h
  unfold noId
  rw [List.filter_eq_self]
  intro x hx
  simp only [decide_eq_true_eq]
  rintro rfl
  exact h hx

set_option maxHeartbeats 4000000 in
theorem k132 {p : Option (Nat × List Nat × Nat × TypeId)} {n c : Nat} {l : List Int} (id : Int) (a : Nat) (sa : Bool) (G : Heap) (ha : G[a]? = some (.cells 3 [.int .i64 id] sa)) (r : RefsAt G p n c l) (hl : l.length < 2 ^ 44) :
    (CallRuns Try.prog 132 [.sl p n c, .fn (.func 120) [] [.ptr (some (a, [0], 3))]] G (.ret (.int .i64 (-1))) G ∧ id ∉ l) ∨
    ∃ i : Nat, CallRuns Try.prog 132 [.sl p n c, .fn (.func 120) [] [.ptr (some (a, [0], 3))]] G (.ret (.int .i64 i)) G ∧ l[i]? = some id ∧ id ∉ l.take i := by
  have fin : (∃ out E, CallRuns Try.prog 132 [.sl p n c, .fn (.func 120) [] [.ptr (some (a, [0], 3))]] G out E ∧ (E = G ∧ ((out = .ret (.int .i64 (-1)) ∧ id ∉ l) ∨ ∃ i : Nat, out = .ret (.int .i64 i) ∧ l[i]? = some id ∧ id ∉ l.take i))) →
    (CallRuns Try.prog 132 [.sl p n c, .fn (.func 120) [] [.ptr (some (a, [0], 3))]] G (.ret (.int .i64 (-1))) G ∧ id ∉ l) ∨
    ∃ i : Nat, CallRuns Try.prog 132 [.sl p n c, .fn (.func 120) [] [.ptr (some (a, [0], 3))]] G (.ret (.int .i64 i)) G ∧ l[i]? = some id ∧ id ∉ l.take i := by
    rintro ⟨out, E, h1, rfl, ⟨rfl, h2⟩ | ⟨i, rfl, h2⟩⟩
    · exact .inl ⟨h1, h2⟩
    · exact .inr ⟨i, h1, h2⟩
  refine fin (run132 (by simp) ?_)
  clear fin
  obtain ⟨rfl, _⟩ := _root_.id r
  simp -implicitDefEqProofs
  refine loop_inv [0, 1, 4, 7, 8] [] (fun i : Nat => ⟨[(0, .sl p l.length c), (1, .fn (.func 120) [] [.ptr (some (a, [0], 3))]), (4, .int .i64 0), (7, .int .i64 l.length), (8, .int .i64 i)], [], G⟩)
    (fun i => i ≤ l.length ∧ id ∉ l.take i) (fun i => l.length - i) 0 (by simp -implicitDefEqProofs [St.keep]) (by simp -implicitDefEqProofs [tidy]) ⟨by simp, by simp⟩ ?_
  rintro i ⟨hi, hn⟩
  by_cases hlt : i < l.length
  · obtain ⟨x, hx⟩ := getElem?_of_lt hlt
    obtain ⟨a1, b1, w1, x', rfl, q1, q2, q3, q4, q5⟩ := r.get hlt
    rw [hx] at q5; cases q5
    have hi' : ((i : Nat) : Int) < l.length := by omega
    have hw := wrap_succ (show i < 2 ^ 60 by omega)
    simp -implicitDefEqProofs [-Blk.row?, hi', q2, q3, q4]
    refine callK_ret (k120 x id a sa G ha) ?_
    by_cases hxi : x = id
    · simp -implicitDefEqProofs [hxi]
      exact ⟨i, rfl, hxi ▸ hx, hn⟩
    · simp -implicitDefEqProofs [hxi, hw]
      refine headK_of (i + 1) (by simp -implicitDefEqProofs [St.keep]) ⟨by omega, ?_⟩ (by omega)
      have e : l[i] = x := (List.getElem?_eq_some_iff.1 hx).2
      rw [List.take_succ_eq_append_getElem hlt, e]
      simp [hn, Ne.symm hxi]
  · have hi' : ¬ (((i : Nat) : Int) < l.length) := by omega
    rw [List.take_of_length_le (by omega)] at hn
    simp -implicitDefEqProofs [hi']
    exact hn

/-- The row while the list is drawn together: j seen, i kept. -/
def RowAt (id : Int) (l : List Int) (R : Nat) (row : List AV) (j i : Nat) : Prop :=
  row.length = R ∧ row.take i = ((noId id (l.take j)).map fun x => AV.int .i64 x) ∧ i = (noId id (l.take j)).length ∧ i < j ∧ j ≤ l.length ∧ ∀ (k : Nat) (x : Int), j ≤ k → l[k]? = some x → row[k]? = some (.int .i64 x)

theorem RowAt.skip {id : Int} {l : List Int} {R : Nat} {row : List AV} {j i : Nat} (h : RowAt id l R row j i) (hx : l[j]? = some id) : RowAt id l R row (j + 1) i := by
  obtain ⟨h1, h2, h3, h4, h5, h6⟩ := h
  have hj := (List.getElem?_eq_some_iff.1 hx).1
  have e := noId_snoc (id := id) hx
  rw [if_pos rfl] at e
  exact ⟨h1, by rw [e]; exact h2, by rw [e]; exact h3, by omega, by omega, fun k y hk hy => h6 k y (by omega) hy⟩

theorem RowAt.keep {id : Int} {l : List Int} {R : Nat} {row : List AV} {j i : Nat} {x : Int} (h : RowAt id l R row j i) (hR : l.length ≤ R) (hx : l[j]? = some x) (hn : x ≠ id) : RowAt id l R (row.set i (.int .i64 x)) (j + 1) (i + 1) := by
  obtain ⟨h1, h2, h3, h4, h5, h6⟩ := h
  have hj := (List.getElem?_eq_some_iff.1 hx).1
  have e := noId_snoc (id := id) hx
  rw [if_neg hn] at e
  refine ⟨by simpa using h1, ?_, by rw [e]; simp; omega, by omega, by omega, fun k y hk hy => ?_⟩
  · rw [e, List.map_append, ← h2]
    have hi : i < (row.set i (.int .i64 x)).length := by simp; omega
    rw [List.take_succ_eq_append_getElem hi]
    have e2 : (row.set i (.int .i64 x)).take i = row.take i := by
      apply List.ext_getElem?
      intro k
      rw [List.getElem?_take, List.getElem?_take]
      split
      · rw [List.getElem?_set_ne (by omega)]
      · rfl
    rw [e2]
    simp
  · rw [List.getElem?_set_ne (by omega)]
    exact h6 k y (by omega) hy

theorem RowAt.start {id : Int} {l : List Int} {R i c : Nat} {row : List AV} (h1 : row.length = R) (h2 : row.take l.length = l.map fun x => AV.int .i64 x) (hx : l[i]? = some id) (hn : id ∉ l.take i) : RowAt id l R row (i + 1) i := by
  have hi := (List.getElem?_eq_some_iff.1 hx).1
  have e := noId_snoc (id := id) hx
  rw [if_pos rfl, noId_of hn] at e
  refine ⟨h1, ?_, by rw [e]; simp; omega, by omega, by omega, fun k y hk hy => ?_⟩
  · rw [e, List.map_take, ← h2, List.take_take, Nat.min_eq_left (by omega)]
  · have hk := (List.getElem?_eq_some_iff.1 hy).1
    have e2 := congrArg (fun l => l[k]?) h2
    simp only [List.getElem?_take, List.getElem?_map, hy] at e2
    rw [if_pos hk] at e2
    exact e2

end Go.Proofs.Ytlonpljlojgclaa
