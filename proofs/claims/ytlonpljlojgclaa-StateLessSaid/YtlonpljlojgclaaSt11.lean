import Derived.Test.YtlonpljlojgclaaSt10
set_option linter.unusedSimpArgs false
set_option linter.unusedVariables false
set_option maxRecDepth 1000000
namespace Go.Proofs.Ytlonpljlojgclaa
open Go Go.Av

theorem reg_small (reg : Int) : ∃ k : Nat, k < 11 ∧ (IntKind.i64.wrap (reg.tmod 11 + 11)).tmod 11 = (k : Int) := by
  have h1 : -11 < reg.tmod 11 := Int.lt_tmod_of_pos _ (by omega)
  have h2 : reg.tmod 11 < 11 := Int.tmod_lt_of_pos _ (by omega)
  rw [wrap_i64_of (by omega) (by omega)]
  have h3 : 0 ≤ reg.tmod 11 + 11 := by omega
  have h4 : 0 ≤ (reg.tmod 11 + 11).tmod 11 := Int.tmod_nonneg _ h3
  have h5 : (reg.tmod 11 + 11).tmod 11 < 11 := Int.tmod_lt_of_pos _ (by omega)
  exact ⟨((reg.tmod 11 + 11).tmod 11).toNat, by omega, by omega⟩

theorem cov_set {ra : List Rg} {k : Nat} {x r : Rg} (hx : ra[k]? = some x) (hc : Cov r x) : ∀ (i : Nat) (y z : Rg), (ra.set k r)[i]? = some y → ra[i]? = some z → Cov y z := by
  intro i y z hy hz
  rw [List.getElem?_set] at hy
  by_cases hk : k = i
  · subst hk
    rw [if_pos rfl] at hy
    split at hy
    · cases hy
      rw [hx] at hz; cases hz
      exact hc
    · cases hy
  · rw [if_neg hk, hz] at hy
    cases hy
    exact Cov.refl _

theorem k17s {p1 p2 : Option (Nat × List Nat × Nat × TypeId)} {n1 c1 n2 c2 : Nat} {l m : List Int} (ra : List Rg) (k : Nat) (u : Rg) (rb : List Rg) (sa sb : List Sl) (ga gb ia ib : Int) (H : Heap)
    (hra : (ra.set k u).length = 11) (hrb : rb.length = 11) (hsa : sa.length = 64) (hsb : sb.length = 64) (r1 : RefsAt H p1 n1 c1 l) (r2 : RefsAt H p2 n2 c2 m) (hl : l.length < 2 ^ 60) :
    CallRuns Try.prog 17 [.ag [.ag ((ra.map eR).set k (eR u)), .ag (sa.map eL), .int .i64 ga, .sl p1 n1 c1, .int .i64 ia], eSt rb sb gb (.sl p2 n2 c2) ib] H (.ret (.bool (inF (ra.set k u) rb sa sb l m ga gb))) H := by
  have := k17 (ra.set k u) rb sa sb ga gb ia ib H hra hrb hsa hsb r1 r2 hl
  rwa [eSt, List.map_set] at this

set_option maxHeartbeats 16000000 in
theorem k4 {p : Option (Nat × List Nat × Nat × TypeId)} {n c : Nat} {l : List Int} (ra : List Rg) (sa : List Sl) (ga ia reg less : Int) (H : Heap) (hra : ra.length = 11) (hsa : sa.length = 64) (r : RefsAt H p n c l) (hl : l.length ≤ 17592186043904) :
    CallRuns Try.prog 4 [eSt ra sa ga (.sl p n c) ia, .int .i64 reg, .int .i64 less] H (.ret (.bool true)) H := by
  refine callRuns_trim (run4 (by simp) ?_) (by simp [clo, Out.val])
  simp -implicitDefEqProofs [-z35_S, z35', hra, hsa]
  obtain ⟨b, hb, hsane⟩ := k14 ra sa ga ia H hra hsa r (by omega)
  refine callK_ret hb ?_
  cases b
  · simp -implicitDefEqProofs
    refine callK_ret (k15 _) ?_
    simp -implicitDefEqProofs
  have hok := hsane rfl
  simp -implicitDefEqProofs
  refine callK_ret (k18 ra ra sa sa ga ga ia ia H hra hra hsa hsa r r hl) ?_
  cases hri : rinF ra ra sa sa l l ga ga
  · simp -implicitDefEqProofs [hri]
    refine callK_ret (k15 _) ?_
    simp -implicitDefEqProofs
  simp -implicitDefEqProofs [hri]
  obtain ⟨p', c', D, h1, h2⟩ := k16 ra sa ga ia H hra hsa r (by omega)
  refine callK_ret h1 ?_
  obtain ⟨k, hk, ek⟩ := reg_small reg
  obtain ⟨x, hx⟩ := getElem?_of_lt (show k < ra.length by omega)
  have hk' : ((k : Nat) : Int) < 11 := by omega
  obtain ⟨rfl, _⟩ := id r
  obtain ⟨p2, c2, D2, h3, h4⟩ := k16 ra sa ga ia (H ++ D) hra hsa r.append (by omega)
  have e1 : (ra.map eR).set k (.ag [.int .i64 0, .ag [.ag [u64 0#64, u64 0#64], u64 0#64, u64 0#64], .int .i64 0, .int .i64 0, .int .i64 0]) = (ra.set k rz).map eR := by rw [List.map_set]; rfl
  have hrl : (ra.set k rz).length = 11 := by simpa using hra
  -- the rest, for whatever registers
  have rest : ∀ ta : List Rg, ta.length = 11 → (∀ (i : Nat) (y z : Rg), ta[i]? = some y → ra[i]? = some z → Cov y z) →
      inF ta ra sa sa l l (if less < ga then less else ga) ga = true := fun ta _ hc => inF_of hc hok (by split <;> omega)
  have in0 := rest ra hra (fun i y z hy hz => by rw [hy] at hz; cases hz; exact Cov.refl _)
  have in1 := rest (ra.set k rz) hrl (cov_set hx (.inl rfl))
  have inU : inF ra ra sa sa l l ga ga = true := inF_of (fun i y z hy hz => by rw [hy] at hz; cases hz; exact Cov.refl _) hok (Int.le_refl _)
  have tail : ∀ (ta : List Rg), ta.length = 11 → inF ta ra sa sa l l (if less < ga then less else ga) ga = true → True := fun _ _ _ => trivial
  by_cases c1 : x.kind = 1
  · have e2 : (ra.map eR).set k (.ag [.int .i64 1, .ag [.ag [u64 0#64, u64 18446744073709551615#64], u64 0#64, u64 18446744073709551615#64], .int .i64 x.mp, .int .i64 x.id, .int .i64 x.sz]) = (ra.set k ⟨1, scUnknown, x.mp, x.id, x.sz⟩).map eR := by rw [List.map_set]; rfl
    have hul : (ra.set k ⟨1, scUnknown, x.mp, x.id, x.sz⟩).length = 11 := by simpa using hra
    have in2 : inF (ra.set k ⟨1, scUnknown, x.mp, x.id, x.sz⟩) ra sa sa l l ga ga = true := inF_of (cov_set hx (.inr ⟨c1.symm, rfl, rfl, scIn_unknown _, rfl⟩)) hok (Int.le_refl _)
    by_cases h0 : l = []
    · subst h0
      simp -implicitDefEqProofs [-z35_S, z35', hra, hsa, ek, hk', hx, e1, hrl]
      refine callK_ret h3 ?_
      simp -implicitDefEqProofs [-z35_S, z35', hra, hsa, ek, hk', hx, e1, hrl, c1]
      refine callK_ret (k20 _) ?_
      simp -implicitDefEqProofs [scUnknown, hra, hsa, ek, hk', hx, e1, e2, hrl, c1]
      refine callK_ret (k17s ra k rz ra sa sa _ ga ia ia _ hrl hra hsa hsa h2.refs.append r.append.append (by simp)) ?_
      simp -implicitDefEqProofs [in1, hra, hsa, e2]
      refine callK_ret (k17s ra k ⟨1, scUnknown, x.mp, x.id, x.sz⟩ ra sa sa _ ga ia ia _ hul hra hsa hsa h4.refs r.append.append (by simp)) ?_
      simp -implicitDefEqProofs [in2]
      refine callK_ret (k15 _) ?_
      simp -implicitDefEqProofs
    · have h0' : ¬ ((l.length : Int) = 0) := by
        have : l.length ≠ 0 := fun e => h0 (List.eq_nil_of_length_eq_zero e)
        omega
      simp -implicitDefEqProofs [-z35_S, z35', hra, hsa, ek, hk', hx, h0', h0]
      refine callK_ret h3 ?_
      simp -implicitDefEqProofs [-z35_S, z35', hra, hsa, ek, hk', hx, c1]
      refine callK_ret (k20 _) ?_
      simp -implicitDefEqProofs [scUnknown, hra, hsa, ek, hk', hx, e2, c1]
      refine callK_ret (k17 ra ra sa sa _ ga ia ia _ hra hra hsa hsa h2.refs.append r.append.append (by omega)) ?_
      simp -implicitDefEqProofs [in0, hra, hsa, e2]
      refine callK_ret (k17s ra k ⟨1, scUnknown, x.mp, x.id, x.sz⟩ ra sa sa _ ga ia ia _ hul hra hsa hsa h4.refs r.append.append (by omega)) ?_
      simp -implicitDefEqProofs [in2]
      refine callK_ret (k15 _) ?_
      simp -implicitDefEqProofs
  · by_cases h0 : l = []
    · subst h0
      simp -implicitDefEqProofs [-z35_S, z35', hra, hsa, ek, hk', hx, e1, hrl]
      refine callK_ret h3 ?_
      simp -implicitDefEqProofs [-z35_S, z35', hra, hsa, ek, hk', hx, e1, hrl, c1]
      refine callK_ret (k17s ra k rz ra sa sa _ ga ia ia _ hrl hra hsa hsa h2.refs.append r.append.append (by simp)) ?_
      simp -implicitDefEqProofs [in1, hra, hsa]
      refine callK_ret (k17 ra ra sa sa _ ga ia ia _ hra hra hsa hsa h4.refs r.append.append (by simp)) ?_
      simp -implicitDefEqProofs [inU]
      refine callK_ret (k15 _) ?_
      simp -implicitDefEqProofs
    · have h0' : ¬ ((l.length : Int) = 0) := by
        have : l.length ≠ 0 := fun e => h0 (List.eq_nil_of_length_eq_zero e)
        omega
      simp -implicitDefEqProofs [-z35_S, z35', hra, hsa, ek, hk', hx, h0', h0]
      refine callK_ret h3 ?_
      simp -implicitDefEqProofs [-z35_S, z35', hra, hsa, ek, hk', hx, c1]
      refine callK_ret (k17 ra ra sa sa _ ga ia ia _ hra hra hsa hsa h2.refs.append r.append.append (by omega)) ?_
      simp -implicitDefEqProofs [in0, hra, hsa]
      refine callK_ret (k17 ra ra sa sa _ ga ia ia _ hra hra hsa hsa h4.refs r.append.append (by omega)) ?_
      simp -implicitDefEqProofs [inU]
      refine callK_ret (k15 _) ?_
      simp -implicitDefEqProofs

theorem law4 : LawA Try.prog 4 [35, 3, 3] := by
  intro H vs h
  match vs, h.len, h.wt, h.ok, h.valid, h.ty with
  | [x, y, z], _, hw, hk, hv, ht =>
    simp only [okIL, Bool.and_eq_true] at hk
    simp only [validL] at hv
    obtain ⟨ra, sa, ga, p, n, c, ia, l, rfl, hra, hsa, hr, hl⟩ := state_of (H := H) (hw 0 x 35 rfl rfl) hk.1 hv.1 (ht 0 x 35 rfl rfl)
    obtain ⟨reg, rfl, _⟩ := wt3' (hw 1 y 3 rfl rfl) hk.2.1
    obtain ⟨less, rfl, _⟩ := wt3' (hw 2 z 3 rfl rfl) hk.2.2.1
    exact ⟨H, k4 ra sa ga ia reg less H hra hsa hr hl⟩

end Go.Proofs.Ytlonpljlojgclaa
