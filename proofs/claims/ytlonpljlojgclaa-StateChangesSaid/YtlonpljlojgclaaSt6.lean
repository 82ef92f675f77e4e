import Derived.Test.YtlonpljlojgclaaSt5
import Derived.Test.YtlonpljlojgclaaSt0
import Derived.Test.YtlonpljlojgclaaAvStateLaw
set_option linter.unusedSimpArgs false
set_option linter.unusedVariables false
set_option maxRecDepth 1000000
namespace Go.Proofs.Ytlonpljlojgclaa
open Go Go.Av

def rz11 : List Rg := List.replicate 11 rz
def lz64 : List Sl := List.replicate 64 lz
theorem rz11_len : rz11.length = 11 := by simp [rz11]
theorem lz64_len : lz64.length = 64 := by simp [lz64]
theorem rz11_get (k : Nat) (h : k < 11) : rz11[k]? = some rz := by unfold rz11; rw [List.getElem?_replicate, if_pos h]
theorem z35' : zget ztabS 35 = some (eSt rz11 lz64 0 (.sl none 0 0) 0) := rfl

theorem wtA_set {P : Program} {e : TypeId} : ∀ {l : List AV} {i : Nat} {v : AV}, wtA P l e = true → wt P v e = true → wtA P (l.set i v) e = true
  | [], i, v, _, _ => rfl
  | x :: l, 0, v, h, hv => by simp only [wtA, Bool.and_eq_true] at h; simp [wtA, hv, h.2]
  | x :: l, i + 1, v, h, hv => by simp only [wtA, Bool.and_eq_true] at h; simp [wtA, h.1, wtA_set h.2 hv]

def beginR : List Rg := (rz11.set 1 ⟨2, scConst 0#64, 0, 0, 0⟩).set 10 ⟨3, scConst 512#64, 0, 0, 0⟩
theorem beginR_len : beginR.length = 11 := by simp [beginR, rz11_len]

set_option maxHeartbeats 4000000 in
theorem k52 (H : Heap) : CallRuns Try.prog 52 [] H (.ret (eSt beginR lz64 0 (.sl none 0 0) 0)) H := by
  refine callRuns_eq (run52 (by simp) ?_)
  simp -implicitDefEqProofs [-z35_S, z35', rz11_len, lz64_len]
  refine callK_ret (k88 _ _) ?_
  simp -implicitDefEqProofs [-z35_S, z35', rz11_len, lz64_len, rz11_get, wtA_set]
  refine callK_ret (k88 _ _) ?_
  simp -implicitDefEqProofs [-z35_S, z35', rz11_len, lz64_len, rz11_get, wtA_set]
  simp [beginR, List.map_set, eR_def]

/-- A change of all registers, as it goes through a slot. -/
def eachS (f : Rg → Rg) (x : Sl) : Sl := if x.kind = 2 then (if f x.reg = rz ∧ x.reg ≠ f x.reg then lz else ⟨x.kind, x.known, f x.reg⟩) else x

theorem map_of_get {α β : Type} {f : α → β} {l : List α} {m : List β} (h1 : m.length = l.length) (h2 : ∀ (k : Nat) (x : α), l[k]? = some x → m[k]? = some (f x)) : m = l.map f := by
  apply List.ext_getElem?
  intro k
  rcases Nat.lt_or_ge k l.length with h | h
  · rw [h2 k l[k] (by simp), List.getElem?_map]
    simp [h]
  · rw [List.getElem?_eq_none (by omega), List.getElem?_eq_none (by simpa using h)]

set_option maxHeartbeats 8000000 in
theorem k86 {p : Option (Nat × List Nat × Nat × TypeId)} {n c : Nat} {l : List Int} (ra : List Rg) (sa : List Sl) (ga ia : Int) (H : Heap) (hra : ra.length = 11) (hsa : sa.length = 64) (r : RefsAt H p n c l) (hl : l.length < 2 ^ 44)
    (fn : FuncId) (caps : List AV) (f : Rg → Rg) (hf : ∀ x D, CallRuns Try.prog fn (eR x :: caps) (H ++ D) (.ret (eR (f x))) (H ++ D)) :
    ∃ p' c' D, CallRuns Try.prog 86 [eSt ra sa ga (.sl p n c) ia, .fn (.func fn) [] caps] H (.ret (eSt (ra.map f) (sa.map (eachS f)) ga (.sl p' n c') ia)) (H ++ D) ∧ Owns (H ++ D) H.length p' n c' l := by
  obtain ⟨p', c', D, h1, h2⟩ := k16 ra sa ga ia H hra hsa r hl
  refine ⟨p', c', D, callRuns_eq (run86 (by simp) ?_), h2⟩
  simp -implicitDefEqProofs [-z35_S, z35', hra, hsa]
  refine callK_ret h1 ?_
  simp -implicitDefEqProofs [-z35_S, z35', hra, hsa]
  refine loop_inv [1, 2, 4, 13, 14] [2, 4] (fun x : Nat × List Rg => ⟨[(1, .fn (.func fn) [] caps), (2, .loc 2 [0] 35), (4, .loc 4 [0] 35), (13, .ag (ra.map eR)), (14, .int .i64 x.1)],
      [(2, 35, [eSt x.2 sa ga (.sl p' n c') ia]), (4, 35, [eSt rz11 lz64 0 (.sl none 0 0) 0])], H ++ D⟩)
    (fun x => x.1 ≤ 11 ∧ x.2.length = 11 ∧ ∀ (k : Nat) (y : Rg), ra[k]? = some y → x.2[k]? = some (if k < x.1 then f y else y)) (fun x => 11 - x.1) (0, ra) (by simp -implicitDefEqProofs [St.keep]) (by simp -implicitDefEqProofs [tidy])
    ⟨by simp, hra, fun k y hy => by simpa using hy⟩ ?_
  rintro ⟨i, cur⟩ ⟨hi, hcl, hcur⟩
  simp only at hi hcl hcur
  by_cases hlt : i < 11
  · obtain ⟨x, hx⟩ := getElem?_of_lt (show i < ra.length by omega)
    have hx2 := hcur i x hx
    simp only [Nat.lt_irrefl, if_false] at hx2
    have hi' : ((i : Nat) : Int) < 11 := by omega
    have hw := wrap_succ (show i < 2 ^ 60 by omega)
    simp -implicitDefEqProofs [hi', hx, hx2, hra]
    refine callK_ret (hf x D) ?_
    simp -implicitDefEqProofs [hi', hx, hx2, hra, hw]
    refine headK_of (i + 1, cur.set i (f x)) (by simp -implicitDefEqProofs [St.keep, List.map_set]) ⟨by omega, by simp [hcl], fun k y hy => ?_⟩ (by simp; omega)
    rw [List.getElem?_set]
    by_cases hk : i = k
    · subst hk
      rw [hx] at hy; cases hy
      simp [hcl, hlt]
    · rw [if_neg hk, hcur k y hy]
      congr 1
      by_cases h3 : k < i
      · simp [h3, show k < i + 1 by omega]
      · simp [h3, show ¬ k < i + 1 by omega]
  have hi0 : i = 11 := by omega
  subst hi0
  have hcm : cur = ra.map f := map_of_get (by omega) (fun k x hx => by
    have := hcur k x hx
    have hk : k < 11 := by have := (List.getElem?_eq_some_iff.1 hx).1; omega
    simpa [hk] using this)
  subst hcm
  clear hi hlt hcl hcur
  simp -implicitDefEqProofs
  refine loop_inv [1, 2, 4, 26, 27] [2, 4] (fun x : Nat × List Sl => ⟨[(1, .fn (.func fn) [] caps), (2, .loc 2 [0] 35), (4, .loc 4 [0] 35), (26, .ag (sa.map eL)), (27, .int .i64 x.1)],
      [(2, 35, [eSt (ra.map f) x.2 ga (.sl p' n c') ia]), (4, 35, [eSt rz11 lz64 0 (.sl none 0 0) 0])], H ++ D⟩)
    (fun x => x.1 ≤ 64 ∧ x.2.length = 64 ∧ ∀ (k : Nat) (y : Sl), sa[k]? = some y → x.2[k]? = some (if k < x.1 then eachS f y else y)) (fun x => 64 - x.1) (0, sa) (by simp -implicitDefEqProofs [St.keep]) (by simp -implicitDefEqProofs [tidy])
    ⟨by simp, hsa, fun k y hy => by simpa using hy⟩ ?_
  rintro ⟨i, cur⟩ ⟨hi, hcl, hcur⟩
  simp only at hi hcl hcur
  by_cases hlt : i < 64
  · obtain ⟨x, hx⟩ := getElem?_of_lt (show i < sa.length by omega)
    have hx2 := hcur i x hx
    simp only [Nat.lt_irrefl, if_false] at hx2
    have hi' : ((i : Nat) : Int) < 64 := by omega
    have hw := wrap_succ (show i < 2 ^ 60 by omega)
    have next : ∀ (y' : Sl), y' = eachS f x → (i + 1 ≤ 64 ∧ (cur.set i y').length = 64 ∧ ∀ (k : Nat) (y : Sl), sa[k]? = some y → (cur.set i y')[k]? = some (if k < i + 1 then eachS f y else y)) := by
      rintro y' rfl
      refine ⟨by omega, by simp [hcl], fun k y hy => ?_⟩
      rw [List.getElem?_set]
      by_cases hk : i = k
      · subst hk
        rw [hx] at hy; cases hy
        simp [hcl, hlt]
      · rw [if_neg hk, hcur k y hy]
        congr 1
        by_cases h3 : k < i
        · simp [h3, show k < i + 1 by omega]
        · simp [h3, show ¬ k < i + 1 by omega]
    by_cases c1 : x.kind = 2
    rotate_left
    · simp -implicitDefEqProofs [hi', hx, hx2, hsa, c1, hw]
      have e : eachS f x = x := by simp [eachS, c1]
      have hset : cur.set i x = cur := by
        apply List.ext_getElem?
        intro k
        rw [List.getElem?_set]
        by_cases hk : i = k
        · subst hk; rw [if_pos rfl, if_pos (by omega)]; exact hx2.symm
        · simp [hk]
      have hn := next x e.symm
      rw [hset] at hn
      exact headK_of (i + 1, cur) (by simp -implicitDefEqProofs [St.keep]) hn (by simp; omega)
    simp -implicitDefEqProofs [hi', hx, hx2, hsa, c1]
    refine callK_ret (hf x.reg D) ?_
    simp -implicitDefEqProofs [hi', hx, hx2, hsa, c1]
    by_cases c2 : f x.reg = rz
    · by_cases c3 : x.reg = rz
      · have c4 : f rz = rz := c3 ▸ c2
        simp -implicitDefEqProofs [hi', hx, hx2, hsa, c1, c3, c4, hw]
        exact headK_of (i + 1, cur.set i ⟨x.kind, x.known, f x.reg⟩) (by simp -implicitDefEqProofs [St.keep, List.map_set, eL_def, c1, c3, c4]) (next _ (by simp [eachS, c1, c3, c4])) (by simp; omega)
      · simp -implicitDefEqProofs [hi', hx, hx2, hsa, c1, c2, c3, hw]
        exact headK_of (i + 1, cur.set i lz) (by simp -implicitDefEqProofs [St.keep, List.map_set, eL_def, lz, rz, eR_def]) (next _ (by simp [eachS, c1, c2, c3])) (by simp; omega)
    · simp -implicitDefEqProofs [hi', hx, hx2, hsa, c1, c2, hw]
      exact headK_of (i + 1, cur.set i ⟨x.kind, x.known, f x.reg⟩) (by simp -implicitDefEqProofs [St.keep, List.map_set, eL_def, c1]) (next _ (by simp [eachS, c1, c2])) (by simp; omega)
  have hi0 : i = 64 := by omega
  subst hi0
  have hcm : cur = sa.map (eachS f) := map_of_get (by omega) (fun k x hx => by
    have := hcur k x hx
    have hk : k < 64 := by have := (List.getElem?_eq_some_iff.1 hx).1; omega
    simpa [hk] using this)
  subst hcm
  simp -implicitDefEqProofs [-List.map_map, hra, hsa]

def nullF (id : Int) (null : Bool) (r : Rg) : Rg :=
  if r.id ≠ id ∨ (r.kind ≠ 8 ∧ r.kind ≠ 10) then r else if null then ⟨1, scConst 0#64, 0, 0, 0⟩ else if r.kind = 8 then ⟨7, r.num, r.mp, r.id, r.sz⟩ else ⟨9, r.num, r.mp, r.id, r.sz⟩

set_option maxHeartbeats 4000000 in
theorem k87 (r : Rg) (id : Int) (null : Bool) (a b : Nat) (sa sb : Bool) (H : Heap) (ha : H[a]? = some (.cells 3 [.int .i64 id] sa)) (hb : H[b]? = some (.cells 4 [.bool null] sb)) :
    CallRuns Try.prog 87 [eR r, .ptr (some (a, [0], 3)), .ptr (some (b, [0], 4))] H (.ret (eR (nullF id null r))) H := by
  refine callRuns_eq (run87 (by simp) ?_)
  by_cases h1 : r.id = id
  rotate_left
  · simp -implicitDefEqProofs [ha, hb, h1, nullF]
  by_cases h2 : r.kind = 8
  · cases null
    · simp -implicitDefEqProofs [ha, hb, h1, h2, nullF, eR_def]
    · simp -implicitDefEqProofs [ha, hb, h1, h2, nullF]
      refine callK_ret (k88 _ _) ?_
      simp -implicitDefEqProofs [ha, hb, h1, h2, nullF, eR_def]
  by_cases h3 : r.kind = 10
  · cases null
    · simp -implicitDefEqProofs [ha, hb, h1, h2, h3, nullF, eR_def]
    · simp -implicitDefEqProofs [ha, hb, h1, h2, h3, nullF]
      refine callK_ret (k88 _ _) ?_
      simp -implicitDefEqProofs [ha, hb, h1, h2, h3, nullF, eR_def]
  simp -implicitDefEqProofs [ha, hb, h1, h2, h3, nullF]

set_option maxHeartbeats 4000000 in
theorem k40f {p : Option (Nat × List Nat × Nat × TypeId)} {n c : Nat} {l : List Int} (ra : List Rg) (sa : List Sl) (ga ia id : Int) (H : Heap) (hra : ra.length = 11) (hsa : sa.length = 64) (r : RefsAt H p n c l) (hl : l.length < 2 ^ 44) :
    ∃ p' c' D, CallRuns Try.prog 40 [eSt ra sa ga (.sl p n c) ia, .int .i64 id, .bool false] H (.ret (eSt (ra.map (nullF id false)) (sa.map (eachS (nullF id false))) ga (.sl p' n c') ia)) (H ++ D) ∧ Owns (H ++ D) H.length p' n c' l := by
  obtain ⟨p', c', D, h1, h2⟩ := k86 ra sa ga ia (H ++ [.cells 3 [.int .i64 id] false, .cells 4 [.bool false] false]) hra hsa r.append hl 87 [.ptr (some (H.length, [0], 3)), .ptr (some (H.length + 1, [0], 4))] (nullF id false)
    (fun x D => k87 x id false H.length (H.length + 1) false false _ (by simp) (by simp))
  refine ⟨p', c', [.cells 3 [.int .i64 id] false, .cells 4 [.bool false] false] ++ D, callRuns_eq (run40 (by simp) ?_), ?_⟩
  · simp -implicitDefEqProofs [-z35_S, z35', hra, hsa]
    refine callK_ret (by rw [List.append_assoc]; exact h1) ?_
    simp -implicitDefEqProofs [-z35_S, -List.map_map, z35', hra, hsa]
  · rw [← List.append_assoc]
    obtain ⟨q1, q2, q3⟩ := h2
    refine ⟨q1, q2, ?_⟩
    cases p' with
    | none => exact q3
    | some q =>
      obtain ⟨n', q', s', e'⟩ := q
      obtain ⟨a1, a2, a3, a4, a5⟩ := q3
      exact ⟨a1, a2, a3, by simp at a4; omega, a5⟩

end Go.Proofs.Ytlonpljlojgclaa
