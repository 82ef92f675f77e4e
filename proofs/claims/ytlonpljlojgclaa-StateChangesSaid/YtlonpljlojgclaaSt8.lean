import Derived.Test.YtlonpljlojgclaaSt7
set_option linter.unusedSimpArgs false
set_option linter.unusedVariables false
set_option maxRecDepth 1000000
namespace Go.Proofs.Ytlonpljlojgclaa
open Go Go.Av

def incI (x : Int) : Int := IntKind.i64.wrap (x + 1)
theorem incI_ne (x : Int) : incI x ≠ x := by
  unfold incI
  simp only [IntKind.wrap, IntKind.bits, IntKind.signed]
  simp
  omega
theorem map_inc_ne {l : List Int} (h : l ≠ []) : ¬ l.map incI = l := by
  cases l with
  | nil => exact absurd rfl h
  | cons x l => intro e; simp only [List.map_cons, List.cons.injEq] at e; exact incI_ne x e.1

set_option maxHeartbeats 8000000 in
theorem k3 {p : Option (Nat × List Nat × Nat × TypeId)} {n c : Nat} {l : List Int} (ra : List Rg) (sa : List Sl) (ga ia : Int) (H : Heap) (hra : ra.length = 11) (hsa : sa.length = 64) (r : RefsAt H p n c l) (hl : l.length < 2 ^ 44) :
    CallRuns Try.prog 3 [eSt ra sa ga (.sl p n c) ia] H (.ret (.bool true)) H := by
  refine callRuns_trim (run3 (by simp) ?_) (by simp [clo, Out.val])
  simp -implicitDefEqProofs [-z35_S, z35', hra, hsa]
  obtain ⟨b, hb, hsane⟩ := k14 ra sa ga ia H hra hsa r hl
  refine callK_ret hb ?_
  cases b
  · simp -implicitDefEqProofs
    refine callK_ret (k15 _) ?_
    simp -implicitDefEqProofs
  have hok := hsane rfl
  simp -implicitDefEqProofs
  obtain ⟨p', c', D, h1, h2⟩ := k16 ra sa ga ia H hra hsa r hl
  refine callK_ret h1 ?_
  simp -implicitDefEqProofs [-z35_S, z35', hra, hsa]
  refine callK_ret (k17 ra ra sa sa ga ga ia ia _ hra hra hsa hsa r.append r.append (by omega)) ?_
  have hin : inF ra ra sa sa l l ga ga = true := inF_of (fun i x y hx hy => by rw [hx] at hy; cases hy; exact Cov.refl _) hok (Int.le_refl _)
  simp -implicitDefEqProofs [hin]
  refine callK_ret (k19 ra ra sa sa ga ga ia ia _ hra hra hsa hsa h2.refs r.append (by omega)) ?_
  simp -implicitDefEqProofs
  obtain ⟨rfl, hnc, hp⟩ := id h2
  -- the loop
  refine loop_inv [1, 2, 3, 4] [1, 3] (fun x : Nat × Heap => ⟨[(1, .loc 1 [0] 35), (2, .bool false), (3, .loc 3 [0] 35), (4, .int .i64 x.1)], [(1, 35, [eSt ra sa ga (.sl p l.length c) ia]), (3, 35, [eSt ra sa ga (.sl p' l.length c') ia])], H ++ x.2⟩)
    (fun x => x.1 ≤ l.length ∧ Owns (H ++ x.2) H.length p' l.length c' ((l.take x.1).map incI ++ l.drop x.1)) (fun x => l.length - x.1) (0, D) (by simp -implicitDefEqProofs [St.keep]) (by simp -implicitDefEqProofs [tidy]) ⟨by simp, by simpa using h2⟩ ?_
  rintro ⟨i, E⟩ ⟨hi, how⟩
  simp only at hi how
  by_cases hlt : i < l.length
  · have hi' : ((i : Nat) : Int) < l.length := by omega
    have hw := wrap_succ (show i < 2 ^ 60 by omega)
    obtain ⟨x, hx⟩ := getElem?_of_lt hlt
    obtain ⟨q1, q2, q3⟩ := id how
    cases p' with
    | none => simp only at q3; omega
    | some q =>
      obtain ⟨k, qq, s, e⟩ := q
      obtain ⟨rfl, rfl, rfl, q4, q5, row, sl, q6, q7, q8⟩ := q3
      obtain ⟨j, rfl⟩ := Nat.exists_eq_add_of_le q4
      rw [getElem?_last] at q6
      have hrow : row[i]? = some (.int .i64 x) := by
        have := congrArg (fun l => l[i]?) q7
        simp only [List.getElem?_take, List.getElem?_map] at this
        rw [if_pos hlt] at this
        rw [this, List.getElem?_append_right (by simp; omega)]
        simp [Nat.min_eq_left hi, hx]
      simp -implicitDefEqProofs [hi', q6, hrow, hw]
      refine headK_of (i + 1, E.set j (.cells 3 (row.set i (.int .i64 (incI x))) sl)) (by simp -implicitDefEqProofs [St.keep, incI]) ⟨by omega, ?_⟩ (by simp; omega)
      have hjl : j < E.length := by simp at q5; omega
      refine ⟨?_, q2, rfl, rfl, rfl, q4, by simp; omega, row.set i (.int .i64 (incI x)), sl, ?_, ?_, by simpa using q8⟩
      · simp; omega
      · rw [getElem?_last, List.getElem?_set]; simp [hjl]
      · rw [List.take_set, q7]
        have e1 : (l.take (i + 1)).map incI ++ l.drop (i + 1) = ((l.take i).map incI ++ l.drop i).set i (incI x) := by
          rw [List.set_append_right _ _ (by simp; omega)]
          have e2 : l.drop i = x :: l.drop (i + 1) := by
            rw [List.drop_eq_getElem_cons hlt]
            congr 1
            exact (List.getElem?_eq_some_iff.1 hx).2
          rw [e2]
          simp only [List.length_map, List.length_take, Nat.min_eq_left hi, Nat.sub_self, List.set_cons_zero]
          rw [List.take_add_one, hx]
          simp
        rw [e1, List.map_set]
  · have hi' : ¬ (((i : Nat) : Int) < l.length) := by omega
    have hi0 : i = l.length := by omega
    subst hi0
    rw [List.take_length, List.drop_length, List.append_nil] at how
    by_cases h0 : l = []
    · subst h0
      simp -implicitDefEqProofs
      refine callK_ret (k15 _) ?_
      simp -implicitDefEqProofs
    · have hpos : ¬ ((l.length : Int) = 0) := by
        have : l.length ≠ 0 := fun e => h0 (List.eq_nil_of_length_eq_zero e)
        omega
      simp -implicitDefEqProofs [hi', hpos, h0]
      refine callK_ret (k19 ra ra sa sa ga ga ia ia _ hra hra hsa hsa how.refs r.append (by simp; omega)) ?_
      have hne := map_inc_ne h0
      simp -implicitDefEqProofs [hne]
      refine callK_ret (k15 _) ?_
      simp -implicitDefEqProofs

/-! ### Arguments by kind -/

theorem wt22' {v : AV} (h : wt Try.prog v 22 = true) (hk : okI v = true) : ∃ x, v = u64 x := by
  cases v with
  | ag l => simp [wt] at h
  | _ => exact u64_of_leaf (P := Try.prog) (t := 22) (by simpa only [wt] using h) Try.underlying22 hk

theorem wt3' {v : AV} (h : wt Try.prog v 3 = true) (hk : okI v = true) : ∃ n : Int, v = .int .i64 n ∧ -9223372036854775808 ≤ n ∧ n ≤ 9223372036854775807 := by
  cases v with
  | ag l => simp [wt] at h
  | _ => exact i64_of_leaf (P := Try.prog) (t := 3) (by simpa only [wt] using h) Try.underlying3 hk

theorem wt4' {v : AV} (h : wt Try.prog v 4 = true) : ∃ b, v = .bool b := by
  cases v with
  | ag l => simp [wt] at h
  | _ => exact bool_of_leaf (P := Try.prog) (t := 4) (by simpa only [wt] using h) Try.underlying4

theorem tn_of' {v : AV} (h : wt Try.prog v 24 = true) (hk : okI v = true) : ∃ t : Tn, v = eT t := by
  cases v with
  | ag l =>
    simp only [wt, Try.underlying24] at h
    match l, h, hk with
    | [a, b], h, hk =>
      simp only [wtF, Bool.and_eq_true, beq_iff_eq] at h
      simp only [okI, okIL, Bool.and_eq_true] at hk
      obtain ⟨x, rfl⟩ := wt22' h.1.2 hk.1
      obtain ⟨y, rfl⟩ := wt22' h.2.1.2 hk.2.1
      exact ⟨⟨x, y⟩, rfl⟩
    | [], h, hk => simp [wtF] at h
    | [_], h, hk => simp [wtF] at h
    | _ :: _ :: _ :: _, h, hk => simp [wtF] at h
  | _ => simp [wt, leafT] at h

theorem sc_of' {v : AV} (h : wt Try.prog v 26 = true) (hk : okI v = true) : ∃ s : Sc, v = eS s := by
  cases v with
  | ag l =>
    simp only [wt, Try.underlying26] at h
    match l, h, hk with
    | [a, b, c], h, hk =>
      simp only [wtF, Bool.and_eq_true, beq_iff_eq] at h
      simp only [okI, okIL, Bool.and_eq_true] at hk
      obtain ⟨t, rfl⟩ := tn_of' h.1.2 hk.1
      obtain ⟨x, rfl⟩ := wt22' h.2.1.2 hk.2.1
      obtain ⟨y, rfl⟩ := wt22' h.2.2.1.2 hk.2.2.1
      exact ⟨⟨t, x, y⟩, rfl⟩
    | [], h, hk => simp [wtF] at h
    | [_], h, hk => simp [wtF] at h
    | [_, _], h, hk => simp [wtF] at h
    | _ :: _ :: _ :: _ :: _, h, hk => simp [wtF] at h
  | _ => simp [wt, leafT] at h

theorem reg_of {v : AV} (h : wt Try.prog v 28 = true) (hk : okI v = true) : ∃ r : Rg, v = eR r := by
  cases v with
  | ag l =>
    simp only [wt, Try.underlying28] at h
    match l, h, hk with
    | [a, b, c, d, e], h, hk =>
      simp only [wtF, Bool.and_eq_true, beq_iff_eq] at h
      simp only [okI, okIL, Bool.and_eq_true] at hk
      obtain ⟨x, rfl, _⟩ := wt3' h.1.2 hk.1
      obtain ⟨s, rfl⟩ := sc_of' h.2.1.2 hk.2.1
      obtain ⟨y, rfl, _⟩ := wt3' h.2.2.1.2 hk.2.2.1
      obtain ⟨z, rfl, _⟩ := wt3' h.2.2.2.1.2 hk.2.2.2.1
      obtain ⟨u, rfl, _⟩ := wt3' h.2.2.2.2.1.2 hk.2.2.2.2.1
      exact ⟨⟨x, s, y, z, u⟩, rfl⟩
    | [], h, hk => simp [wtF] at h
    | [_], h, hk => simp [wtF] at h
    | [_, _], h, hk => simp [wtF] at h
    | [_, _, _], h, hk => simp [wtF] at h
    | [_, _, _, _], h, hk => simp [wtF] at h
    | _ :: _ :: _ :: _ :: _ :: _ :: _, h, hk => simp [wtF] at h
  | _ => simp [wt, leafT] at h

theorem slot_of {v : AV} (h : wt Try.prog v 31 = true) (hk : okI v = true) : ∃ r : Sl, v = eL r := by
  cases v with
  | ag l =>
    simp only [wt, Try.underlying31] at h
    match l, h, hk with
    | [a, b, c], h, hk =>
      simp only [wtF, Bool.and_eq_true, beq_iff_eq] at h
      simp only [okI, okIL, Bool.and_eq_true] at hk
      obtain ⟨x, rfl, _⟩ := wt3' h.1.2 hk.1
      obtain ⟨y, rfl, _⟩ := wt3' h.2.1.2 hk.2.1
      obtain ⟨z, rfl⟩ := reg_of h.2.2.1.2 hk.2.2.1
      exact ⟨⟨x, y, z⟩, rfl⟩
    | [], h, hk => simp [wtF] at h
    | [_], h, hk => simp [wtF] at h
    | [_, _], h, hk => simp [wtF] at h
    | _ :: _ :: _ :: _ :: _, h, hk => simp [wtF] at h
  | _ => simp [wt, leafT] at h

theorem row_of {α : Type} {f : α → AV} {e : TypeId} (hf : ∀ v, wt Try.prog v e = true → okI v = true → ∃ r, v = f r) : ∀ (l : List AV), wtA Try.prog l e = true → okIL l = true → ∃ rs : List α, l = rs.map f
  | [], _, _ => ⟨[], rfl⟩
  | v :: l, h, hk => by
      simp only [wtA, Bool.and_eq_true] at h
      simp only [okIL, Bool.and_eq_true] at hk
      obtain ⟨r, rfl⟩ := hf v h.1 hk.1
      obtain ⟨rs, rfl⟩ := row_of hf l h.2 hk.2
      exact ⟨r :: rs, rfl⟩

/-- A slice of numbers among the arguments. -/
theorem ints_of {v : AV} {H : Heap} (h : wt Try.prog v 33 = true) (hv : valid Try.prog H v) (ht : tyS Try.prog v 33 = true) : ∃ p n c l, v = .sl p n c ∧ RefsAt H p n c l ∧ l.length ≤ 17592186043904 := by
  cases v with
  | sl p n c =>
    cases p with
    | none =>
      simp only [tyS, Bool.and_eq_true, beq_iff_eq] at ht
      obtain ⟨rfl, rfl⟩ := ht
      exact ⟨none, 0, 0, [], rfl, ⟨rfl, Nat.le_refl _, rfl⟩, by simp⟩
    | some q =>
      obtain ⟨k, q, s, e⟩ := q
      simp only [tyS, Try.underlying33, beq_iff_eq] at ht
      subst ht
      simp only [valid] at hv
      obtain ⟨rfl, rfl, hle, hb, hv⟩ := hv
      rw [bytes3] at hb
      have hn : n ≤ 17592186043904 := by simp only [reachBytes] at hb; omega
      rcases hv with ⟨rfl, hd⟩ | ⟨row, hd, hlen, hw, hk⟩
      · have hn0 : n = 0 := by omega
        subst hn0
        refine ⟨_, _, _, [], rfl, ⟨rfl, Nat.le_refl _, rfl, rfl, rfl, (List.getElem?_eq_some_iff.1 hd).1, .inl rfl⟩, by simp⟩
      · obtain ⟨xs, hxs⟩ := row_of (f := fun x : Int => AV.int .i64 x) (e := 3) (fun v h1 h2 => by obtain ⟨x, rfl, _⟩ := wt3' h1 h2; exact ⟨x, rfl⟩) row hw hk
        refine ⟨_, _, _, xs.take n, rfl, ⟨?_, hle, rfl, rfl, rfl, (List.getElem?_eq_some_iff.1 hd).1, .inr ⟨_, row, hd, rfl, ?_⟩⟩, ?_⟩
        · have : row.length = xs.length := by rw [hxs]; simp
          simp; omega
        · rw [hxs, List.map_take]
        · simp; omega
  | ag l => simp [wt] at h
  | _ => simp [wt, leafT, leafOK] at h

/-- A state among the arguments. -/
theorem state_of {v : AV} {H : Heap} (h : wt Try.prog v 35 = true) (hk : okI v = true) (hv : valid Try.prog H v) (ht : tyS Try.prog v 35 = true) :
    ∃ ra sa ga p n c ia l, v = eSt ra sa ga (.sl p n c) ia ∧ ra.length = 11 ∧ sa.length = 64 ∧ RefsAt H p n c l ∧ l.length ≤ 17592186043904 := by
  cases v with
  | ag l =>
    simp only [wt, Try.underlying35] at h
    simp only [tyS, Try.underlying35] at ht
    match l, h, hk, hv, ht with
    | [a, b, c, d, e], h, hk, hv, ht =>
      simp only [wtF, Bool.and_eq_true, beq_iff_eq] at h
      simp only [okI, okIL, Bool.and_eq_true] at hk
      simp only [valid, validL] at hv
      simp only [tySF, Bool.and_eq_true] at ht
      have hA : ∃ ra : List Rg, ra.length = 11 ∧ a = .ag (ra.map eR) := by
        have h1 := h.1.2
        cases a with
        | ag l =>
          simp only [wt, Try.underlying29, Bool.and_eq_true, beq_iff_eq] at h1
          obtain ⟨rs, hrs⟩ := row_of (fun v h1 h2 => reg_of h1 h2) l h1.2 (by simpa [okI] using hk.1)
          exact ⟨rs, by rw [← h1.1.1, hrs]; simp, by rw [hrs]⟩
        | _ => simp [wt, leafT] at h1
      have hB : ∃ sa : List Sl, sa.length = 64 ∧ b = .ag (sa.map eL) := by
        have h1 := h.2.1.2
        cases b with
        | ag l =>
          simp only [wt, Try.underlying32, Bool.and_eq_true, beq_iff_eq] at h1
          obtain ⟨rs, hrs⟩ := row_of (fun v h1 h2 => slot_of h1 h2) l h1.2 (by simpa [okI] using hk.2.1)
          exact ⟨rs, by rw [← h1.1.1, hrs]; simp, by rw [hrs]⟩
        | _ => simp [wt, leafT] at h1
      obtain ⟨ra, hra, rfl⟩ := hA
      obtain ⟨sa, hsa, rfl⟩ := hB
      obtain ⟨ga, rfl, _⟩ := wt3' h.2.2.1.2 hk.2.2.1
      obtain ⟨ia, rfl, _⟩ := wt3' h.2.2.2.2.1.2 hk.2.2.2.2.1
      obtain ⟨p, n, c, l, rfl, hr, hl⟩ := ints_of (H := H) h.2.2.2.1.2 hv.2.2.2.1 ht.2.2.2.1
      exact ⟨ra, sa, ga, p, n, c, ia, l, rfl, hra, hsa, hr, hl⟩
    | [], h, hk, hv, ht => simp [wtF] at h
    | [_], h, hk, hv, ht => simp [wtF] at h
    | [_, _], h, hk, hv, ht => simp [wtF] at h
    | [_, _, _], h, hk, hv, ht => simp [wtF] at h
    | [_, _, _, _], h, hk, hv, ht => simp [wtF] at h
    | _ :: _ :: _ :: _ :: _ :: _ :: _, h, hk, hv, ht => simp [wtF] at h
  | _ => simp [wt, leafT] at h

theorem law3 : LawA Try.prog 3 [35] := by
  intro H vs h
  match vs, h.len, h.wt, h.ok, h.valid, h.ty with
  | [x], _, hw, hk, hv, ht =>
    simp only [okIL, Bool.and_eq_true] at hk
    simp only [validL] at hv
    obtain ⟨ra, sa, ga, p, n, c, ia, l, rfl, hra, hsa, hr, hl⟩ := state_of (H := H) (hw 0 x 35 rfl rfl) hk.1 hv.1 (ht 0 x 35 rfl rfl)
    exact ⟨H, k3 ra sa ga ia H hra hsa hr (by omega)⟩

end Go.Proofs.Ytlonpljlojgclaa
