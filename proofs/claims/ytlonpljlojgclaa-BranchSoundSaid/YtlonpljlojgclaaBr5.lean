import Derived.Test.YtlonpljlojgclaaBr4
set_option linter.unusedSimpArgs false
set_option linter.unusedVariables false
set_option maxRecDepth 1000000
namespace Go.Proofs.Ytlonpljlojgclaa
open Go Go.Av

set_option maxHeartbeats 2000000 in
theorem k69 (v m lo hi v' m' lo' hi' : BitVec 64) (ok : Bool) (H : Heap) : CallRuns Try.prog 69 [.ag [.ag [u64 v, u64 m], u64 lo, u64 hi], .ag [.ag [u64 v', u64 m'], u64 lo', u64 hi'], .bool ok] H (.ret (e3 (scKnown ⟨⟨v, m⟩, lo, hi⟩ ⟨⟨v', m'⟩, lo', hi'⟩ ok))) H := by
  generalize hres : scKnown ⟨⟨v, m⟩, lo, hi⟩ ⟨⟨v', m'⟩, lo', hi'⟩ ok = res
  refine callRuns_eq (run69 (by simp) ?_)
  simp -implicitDefEqProofs
  refine callK_ret (k110 _ _ _ _ _) ?_
  simp -implicitDefEqProofs
  refine callK_ret (k110 _ _ _ _ _) ?_
  simp -implicitDefEqProofs
  unfold scKnown at hres
  generalize scTight ⟨⟨v, m⟩, lo, hi⟩ = x at hres ⊢
  generalize scTight ⟨⟨v', m'⟩, lo', hi'⟩ = y at hres ⊢
  subst hres
  cases ok
  · simp -implicitDefEqProofs
  cases x with
  | none => simp -implicitDefEqProofs
  | some x =>
    cases y with
    | none => simp -implicitDefEqProofs
    | some y => simp -implicitDefEqProofs

set_option maxHeartbeats 2000000 in
theorem k111 (v m lo hi n : BitVec 64) (H : Heap) : CallRuns Try.prog 111 [.ag [.ag [u64 v, u64 m], u64 lo, u64 hi], u64 n] H (.ret (.tup [eS (scWithout ⟨⟨v, m⟩, lo, hi⟩ n).1, .bool (scWithout ⟨⟨v, m⟩, lo, hi⟩ n).2])) H := by
  generalize hres : scWithout ⟨⟨v, m⟩, lo, hi⟩ n = res
  refine callRuns_eq (run111 (by simp) ?_)
  simp -implicitDefEqProofs
  by_cases h4 : n = 0#64
  · subst h4
    by_cases h1 : lo = 0#64 <;> by_cases h3 : hi = 0#64 <;> simp -implicitDefEqProofs [h1, h3, scWithout] at hres ⊢ <;> subst hres <;> (try simp -implicitDefEqProofs [h1, h3])
  · by_cases h2 : n = 18446744073709551615#64
    · subst h2
      by_cases h1 : lo = 18446744073709551615#64 <;> by_cases h3 : hi = 18446744073709551615#64 <;> simp -implicitDefEqProofs [h1, h3, scWithout] at hres ⊢ <;> subst hres <;> (try simp -implicitDefEqProofs [h1, h3])
    · by_cases h1 : lo = n <;> by_cases h3 : hi = n <;> simp -implicitDefEqProofs [h1, h2, h3, h4, scWithout] at hres ⊢ <;> subst hres <;> (try simp -implicitDefEqProofs [h1, h2, h3, h4])

set_option maxHeartbeats 4000000 in
theorem k70 (v m lo hi v' m' lo' hi' : BitVec 64) (H : Heap) : CallRuns Try.prog 70 [.ag [.ag [u64 v, u64 m], u64 lo, u64 hi], .ag [.ag [u64 v', u64 m'], u64 lo', u64 hi']] H (.ret (e3 (scDiffer ⟨⟨v, m⟩, lo, hi⟩ ⟨⟨v', m'⟩, lo', hi'⟩))) H := by
  generalize hres : scDiffer ⟨⟨v, m⟩, lo, hi⟩ ⟨⟨v', m'⟩, lo', hi'⟩ = res
  refine callRuns_eq (run70 (by simp) ?_)
  simp -implicitDefEqProofs
  refine callK_ret (k67 _ _ _ _ _) ?_
  simp -implicitDefEqProofs
  refine callK_ret (k67 _ _ _ _ _) ?_
  simp -implicitDefEqProofs
  simp only [scDiffer, scDiffer1] at hres
  obtain ⟨x, hx⟩ : ∃ x, scOnly ⟨⟨v, m⟩, lo, hi⟩ = x := ⟨_, rfl⟩
  obtain ⟨y, hy⟩ : ∃ y, scOnly ⟨⟨v', m'⟩, lo', hi'⟩ = y := ⟨_, rfl⟩
  cases x with
  | none =>
    cases y with
    | none =>
      simp -implicitDefEqProofs [hx, hy] at hres ⊢
      refine callK_ret (k69 _ _ _ _ _ _ _ _ _ _) ?_
      simp -implicitDefEqProofs [hres]
    | some y =>
      simp -implicitDefEqProofs [hx, hy] at hres ⊢
      refine callK_ret (k111 _ _ _ _ _ _) ?_
      simp -implicitDefEqProofs [hx, hy]
      obtain ⟨z, hz⟩ : ∃ z, scWithout ⟨⟨v, m⟩, lo, hi⟩ y = z := ⟨_, rfl⟩
      obtain ⟨⟨⟨a, b⟩, c, d⟩, e⟩ := z
      cases e <;> simp -implicitDefEqProofs [hz, hx, hy] at hres ⊢
      all_goals refine callK_ret (k69 _ _ _ _ _ _ _ _ _ _) ?_
      all_goals simp -implicitDefEqProofs [hres]
  | some x =>
    cases y with
    | none =>
      simp -implicitDefEqProofs [hx, hy] at hres ⊢
      refine callK_ret (k111 _ _ _ _ _ _) ?_
      simp -implicitDefEqProofs [hx, hy]
      obtain ⟨z, hz⟩ : ∃ z, scWithout ⟨⟨v', m'⟩, lo', hi'⟩ x = z := ⟨_, rfl⟩
      obtain ⟨⟨⟨a, b⟩, c, d⟩, e⟩ := z
      cases e <;> simp -implicitDefEqProofs [hz, hx, hy] at hres ⊢
      all_goals refine callK_ret (k69 _ _ _ _ _ _ _ _ _ _) ?_
      all_goals simp -implicitDefEqProofs [hres]
    | some y =>
      by_cases hxy : x = y
      · simp -implicitDefEqProofs [hx, hy, hxy] at hres ⊢
        refine callK_ret (k69 _ _ _ _ _ _ _ _ _ _) ?_
        simp -implicitDefEqProofs [hres]
      · simp -implicitDefEqProofs [hx, hy, hxy] at hres ⊢
        refine callK_ret (k111 _ _ _ _ _ _) ?_
        simp -implicitDefEqProofs [hx, hy]
        obtain ⟨z, hz⟩ : ∃ z, scWithout ⟨⟨v, m⟩, lo, hi⟩ y = z := ⟨_, rfl⟩
        obtain ⟨⟨⟨a, b⟩, c, d⟩, e⟩ := z
        cases e <;> simp -implicitDefEqProofs [hz, hx, hy] at hres ⊢
        · refine callK_ret (k69 _ _ _ _ _ _ _ _ _ _) ?_
          simp -implicitDefEqProofs [hres]
        · refine callK_ret (k111 _ _ _ _ _ _) ?_
          simp -implicitDefEqProofs [hz, hx, hy]
          obtain ⟨z', hz'⟩ : ∃ z, scWithout ⟨⟨v', m'⟩, lo', hi'⟩ x = z := ⟨_, rfl⟩
          obtain ⟨⟨⟨a', b'⟩, c', d'⟩, e'⟩ := z'
          cases e' <;> simp -implicitDefEqProofs [hz, hz', hx, hy] at hres ⊢
          all_goals refine callK_ret (k69 _ _ _ _ _ _ _ _ _ _) ?_
          all_goals simp -implicitDefEqProofs [hres]

end Go.Proofs.Ytlonpljlojgclaa
