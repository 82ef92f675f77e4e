import Derived.Test.YtlonpljlojgclaaSt8
set_option linter.unusedSimpArgs false
set_option linter.unusedVariables false
set_option maxRecDepth 1000000
namespace Go.Proofs.Ytlonpljlojgclaa
open Go Go.Av

/-- The first i changed. -/
def part {α : Type} (f : α → α) (l : List α) (i : Nat) : List α := (l.take i).map f ++ l.drop i
theorem part_len {α : Type} {f : α → α} {l : List α} {i : Nat} : (part f l i).length = l.length := by simp [part]; omega
theorem part_zero {α : Type} {f : α → α} {l : List α} : part f l 0 = l := by simp [part]
theorem part_end {α : Type} {f : α → α} {l : List α} {i : Nat} (h : l.length ≤ i) : part f l i = l.map f := by
  unfold part; rw [List.take_of_length_le h, List.drop_eq_nil_of_le h, List.append_nil]
theorem part_get {α : Type} {f : α → α} {l : List α} {i k : Nat} {x : α} (h : l[k]? = some x) : (part f l i)[k]? = some (if k < i then f x else x) := by
  have hk : k < l.length := (List.getElem?_eq_some_iff.1 h).1
  unfold part
  by_cases h1 : k < i
  · rw [List.getElem?_append_left (by simp; omega)]
    simp [List.getElem?_take, h, h1]
  · rw [List.getElem?_append_right (by simp; omega)]
    simp only [List.getElem?_drop, List.length_map, List.length_take]
    rw [show i + (k - min i l.length) = k by omega, h]
    simp [h1]
theorem part_now {α : Type} {f : α → α} {l : List α} {i : Nat} {x : α} (h : l[i]? = some x) : (part f l i)[i]? = some x := by
  rw [part_get h]; simp
theorem part_ext {α : Type} {f : α → α} {l m : List α} {i : Nat} (h1 : m.length = l.length) (h2 : ∀ (k : Nat) (x : α), l[k]? = some x → m[k]? = some (if k < i then f x else x)) : m = part f l i := by
  apply List.ext_getElem?
  intro k
  rcases Nat.lt_or_ge k l.length with h | h
  · rw [h2 k l[k] (by simp), part_get (x := l[k]) (by simp)]
  · rw [List.getElem?_eq_none (by omega), List.getElem?_eq_none (by rw [part_len]; omega)]
theorem part_set {α : Type} {f : α → α} {l : List α} {i : Nat} {x : α} (h : l[i]? = some x) : (part f l i).set i (f x) = part f l (i + 1) := by
  have hi : i < l.length := (List.getElem?_eq_some_iff.1 h).1
  refine part_ext (by simp [part_len]) fun k y hy => ?_
  rw [List.getElem?_set]
  by_cases hk : i = k
  · subst hk
    rw [h] at hy; cases hy
    simp [part_len, hi]
  · rw [if_neg hk, part_get hy]
    congr 1
    by_cases h3 : k < i
    · simp [h3, show k < i + 1 by omega]
    · simp [h3, show ¬ k < i + 1 by omega]
theorem part_skip {α : Type} {f : α → α} {l : List α} {i : Nat} {x : α} (h : l[i]? = some x) (hx : f x = x) : part f l i = part f l (i + 1) := by
  refine part_ext part_len fun k y hy => ?_
  rw [part_get hy]
  congr 1
  by_cases hk : i = k
  · subst hk
    rw [h] at hy; cases hy
    simp [hx]
  · by_cases h3 : k < i
    · simp [h3, show k < i + 1 by omega]
    · simp [h3, show ¬ k < i + 1 by omega]

set_option maxHeartbeats 4000000 in
theorem k38 {p : Option (Nat × List Nat × Nat × TypeId)} {n c : Nat} {l : List Int} (ra : List Rg) (sa : List Sl) (ga ia : Int) (H : Heap) (hra : ra.length = 11) (hsa : sa.length = 64) (r : RefsAt H p n c l) (hl : l.length < 2 ^ 44) :
    ∃ p' c' D, CallRuns Try.prog 38 [eSt ra sa ga (.sl p n c) ia] H (.ret (eSt ra sa ga (.sl p' n c') ia)) (H ++ D) ∧ Owns (H ++ D) H.length p' n c' l := by
  rcases r.sl with ⟨rfl, rfl, rfl, rfl⟩ | ⟨k, rfl, hk, rfl, hc, hr⟩
  · refine ⟨none, 0, [], callRuns_eq (run38 (by simp) ?_), rfl, Nat.le_refl _, rfl⟩
    simp -implicitDefEqProofs [hra, hsa, appendA, elemsA]
  · by_cases h0 : l = []
    · subst h0
      refine ⟨none, 0, [], callRuns_eq (run38 (by simp) ?_), rfl, Nat.le_refl _, rfl⟩
      simp -implicitDefEqProofs [hra, hsa, appendA, elemsA]
    · rcases hr with rfl | ⟨b, row, b1, b2, b3⟩
      · exact (h0 rfl).elim
      have hpos : l.length ≠ 0 := fun e => h0 (List.eq_nil_of_length_eq_zero e)
      have hrl : l.length ≤ row.length := by
        have := congrArg List.length b3
        simp at this; omega
      refine ⟨some (H.length, [], 0, 3), l.length, [.cells 3 (l.map fun x => AV.int .i64 x) true], callRuns_eq (run38 (by simp) ?_), rfl, Nat.le_refl _, rfl, rfl, rfl, by simp, by simp, l.map (fun x => AV.int .i64 x), true, by simp, by rw [List.take_of_length_le (by simp)], by simp⟩
      have z1 : l.length * 8 ≤ 140737488355328 := by omega
      have z2 : l.length ≤ 140737488355328 := by omega
      simp -implicitDefEqProofs [-Blk.row?, hra, hsa, appendA, elemsA, growA, sizeOK, b1, b2, b3, hpos, hrl, h0, z1, z2]

set_option maxHeartbeats 8000000 in
theorem k39 {p1 p2 : Option (Nat × List Nat × Nat × TypeId)} {n1 c1 n2 c2 : Nat} {l m : List Int} (ra rb : List Rg) (sa sb : List Sl) (ga gb ia ib : Int) (H : Heap)
    (hra : ra.length = 11) (hrb : rb.length = 11) (hsa : sa.length = 64) (hsb : sb.length = 64) (r1 : RefsAt H p1 n1 c1 l) (r2 : RefsAt H p2 n2 c2 m) (hl : l.length < 2 ^ 60) :
    CallRuns Try.prog 39 [eSt ra sa ga (.sl p1 n1 c1) ia, eSt rb sb gb (.sl p2 n2 c2) ib] H (.ret (.bool (decide (ra = rb ∧ sa = sb ∧ ga = gb ∧ ia = ib ∧ l = m)))) H := by
  obtain ⟨res, hres⟩ : ∃ r, decide (ra = rb ∧ sa = sb ∧ ga = gb ∧ ia = ib ∧ l = m) = r := ⟨_, rfl⟩
  rw [hres]
  obtain ⟨rfl, _⟩ := id r1
  obtain ⟨rfl, _⟩ := id r2
  refine callRuns_eq (run39 (by simp) ?_)
  by_cases h0 : l.length = m.length
  rotate_left
  · have h0' : ¬ ((l.length : Int) = m.length) := by omega
    have : ¬ l = m := fun e => h0 (by rw [e])
    simp [this] at hres
    subst hres
    simp -implicitDefEqProofs [eqL_regs, eqL_slots, hra, hrb, hsa, hsb, h0']
  by_cases h1 : ra = rb
  rotate_left
  · simp [h1] at hres
    subst hres
    simp -implicitDefEqProofs [eqL_regs, eqL_slots, hra, hrb, hsa, hsb, h0, h1]
  by_cases h2 : sa = sb
  rotate_left
  · simp [h2] at hres
    subst hres
    simp -implicitDefEqProofs [eqL_regs, eqL_slots, hra, hrb, hsa, hsb, h0, h1, h2]
  by_cases h3 : ga = gb
  rotate_left
  · simp [h3] at hres
    subst hres
    simp -implicitDefEqProofs [eqL_regs, eqL_slots, hra, hrb, hsa, hsb, h0, h1, h2, h3]
  by_cases h4 : ia = ib
  rotate_left
  · simp [h4] at hres
    subst hres
    simp -implicitDefEqProofs [eqL_regs, eqL_slots, hra, hrb, hsa, hsb, h0, h1, h2, h3, h4]
  subst h1 h2 h3 h4
  simp -implicitDefEqProofs [eqL_regs, eqL_slots, hra, hrb, hsa, hsb, h0]
  simp only [true_and] at hres
  refine loop_inv [2, 3, 4, 5] [2, 3] (fun i : Nat => ⟨[(2, .loc 2 [0] 35), (3, .loc 3 [0] 35), (4, .bool false), (5, .int .i64 i)],
      [(2, 35, [eSt ra sa ga (.sl p1 m.length c1) ia]), (3, 35, [eSt ra sa ga (.sl p2 m.length c2) ia])], H⟩)
    (fun i => i ≤ m.length ∧ decide (l.drop i = m.drop i) = res) (fun i => m.length - i) 0 (by simp -implicitDefEqProofs [St.keep, h0]) (by simp -implicitDefEqProofs [tidy]) ⟨by simp, by simpa using hres⟩ ?_
  clear hres
  rintro i ⟨hi, hs⟩
  by_cases hlt : i < m.length
  · obtain ⟨x, hx⟩ := getElem?_of_lt (show i < l.length by omega)
    obtain ⟨y, hy⟩ := getElem?_of_lt hlt
    obtain ⟨a1, b1, w1, x', rfl, q1, q2, q3, q4, q5⟩ := r1.get (show i < l.length by omega)
    obtain ⟨a2, b2, w2, y', rfl, t1, t2, t3, t4, t5⟩ := r2.get hlt
    rw [hx] at q5; cases q5
    rw [hy] at t5; cases t5
    have hi' : ((i : Nat) : Int) < m.length := by omega
    have e := drop_eq_step hx hy
    have hw := wrap_succ (show i < 2 ^ 60 by omega)
    by_cases hxy : x = y
    · simp only [e, hxy, true_and] at hs
      simp -implicitDefEqProofs [-Blk.row?, hi', q2, q3, q4, t2, t3, t4, hxy, hw]
      exact headK_of (i + 1) (by simp -implicitDefEqProofs [St.keep]) ⟨by omega, hs⟩ (by omega)
    · simp only [e, hxy, false_and, decide_false] at hs
      subst hs
      simp -implicitDefEqProofs [-Blk.row?, hi', q2, q3, q4, t2, t3, t4, hxy, hw]
  · have hi' : ¬ (((i : Nat) : Int) < m.length) := by omega
    rw [List.drop_eq_nil_of_le (by omega), List.drop_eq_nil_of_le (by omega)] at hs
    simp at hs
    subst hs
    simp -implicitDefEqProofs [hi']

set_option maxHeartbeats 4000000 in
theorem k90 (r : Rg) (id : Int) (null : Bool) (H : Heap) : ∃ b, CallRuns Try.prog 90 [eR r, .int .i64 id, .bool null] H (.ret (.tup [eR (nullF id null r), .bool b])) H := by
  by_cases h1 : r.kind = 8
  · by_cases h2 : r.id = id
    · cases null
      · refine ⟨true, callRuns_eq (run90 (by simp) ?_)⟩
        simp -implicitDefEqProofs [h1, h2, nullF, eR_def]
      · refine ⟨true, callRuns_eq (run90 (by simp) ?_)⟩
        simp -implicitDefEqProofs [h1, h2, nullF, eR_def]
        refine callK_ret (k54 _ _) ?_
        simp -implicitDefEqProofs [h1, h2, nullF, eR_def, scConst]
    · refine ⟨false, callRuns_eq (run90 (by simp) ?_)⟩
      simp -implicitDefEqProofs [h1, h2, nullF]
  by_cases h3 : r.kind = 10
  · by_cases h2 : r.id = id
    · cases null
      · refine ⟨true, callRuns_eq (run90 (by simp) ?_)⟩
        simp -implicitDefEqProofs [h1, h2, h3, nullF, eR_def]
      · refine ⟨true, callRuns_eq (run90 (by simp) ?_)⟩
        simp -implicitDefEqProofs [h1, h2, h3, nullF, eR_def]
        refine callK_ret (k54 _ _) ?_
        simp -implicitDefEqProofs [h1, h2, h3, nullF, eR_def, scConst]
    · refine ⟨false, callRuns_eq (run90 (by simp) ?_)⟩
      simp -implicitDefEqProofs [h1, h2, h3, nullF]
  refine ⟨false, callRuns_eq (run90 (by simp) ?_)⟩
  simp -implicitDefEqProofs [h1, h3, nullF]

def goneB (id : Int) (r : Rg) : Bool := if id < 0 then decide (r.kind = 4) || decide (r.kind = 5) else decide (r.kind = 9) && decide (r.id = id)
def loseF (id : Int) (r : Rg) : Rg := if goneB id r then rz else r
def loseS (id : Int) (x : Sl) : Sl := if x.kind = 2 ∧ goneB id x.reg = true then lz else x

set_option maxHeartbeats 4000000 in
theorem k121 (r : Rg) (id : Int) (H : Heap) : CallRuns Try.prog 121 [eR r, .int .i64 id] H (.ret (.bool (goneB id r))) H := by
  refine callRuns_eq (run121 (by simp) ?_)
  by_cases h0 : id < 0
  · by_cases h1 : r.kind = 4
    · simp -implicitDefEqProofs [h0, h1, goneB]
    · by_cases h2 : r.kind = 5 <;> simp -implicitDefEqProofs [h0, h1, h2, goneB]
  · by_cases h1 : r.kind = 9
    · by_cases h2 : r.id = id <;> simp -implicitDefEqProofs [h0, h1, h2, goneB]
    · simp -implicitDefEqProofs [h0, h1, goneB]

end Go.Proofs.Ytlonpljlojgclaa
