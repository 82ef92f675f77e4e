import Derived.Test.YtlonpljlojgclaaBr5
import Derived.Test.YtlonpljlojgclaaAvTrim
set_option linter.unusedSimpArgs false
set_option linter.unusedVariables false
set_option maxRecDepth 1000000
namespace Go.Proofs.Ytlonpljlojgclaa
open Go Go.Av

set_option maxHeartbeats 8000000 in
theorem above22 (p : Int) (hp : p = 32 ∨ p = 48) (turned : Bool) (v m lo hi v' m' lo' hi' : BitVec 64) (tmp : List (Nat × AV)) (box : List (Nat × BoxC)) (H : Heap) (n : Nat) (W : Nat → (XE → St → Prop) → St → Prop) (R : Out → Heap → Prop)
    (h0 : tget tmp 0 = .int .i64 p) (h6 : tget tmp 6 = .loc 6 [0] 26) (h7 : tget tmp 7 = .loc 7 [0] 26) (h8 : tget tmp 8 = .loc 8 [0] 26) (h9 : tget tmp 9 = .loc 9 [0] 26) (h12 : tget tmp 12 = .bool turned)
    (b6 : bget box 6 = some (26, [.ag [.ag [u64 v, u64 m], u64 lo, u64 hi]])) (b7 : bget box 7 = some (26, [.ag [.ag [u64 v', u64 m'], u64 lo', u64 hi']])) (b8 : bget box 8 = some (26, [eS sz])) (b9 : bget box 9 = some (26, [eS sz]))
    (b15 : bget box 15 = none) (b16 : bget box 16 = none) (b18 : bget box 18 = none)
    (hR : R (.ret (e3 (scAbove p turned ⟨⟨v, m⟩, lo, hi⟩ ⟨⟨v', m'⟩, lo', hi'⟩))) H) :
    SWp Try.prog C22 s22_94 (jumpK W n (finK [.cell 8 26, .cell 9 26, .tmp 10] R)) ⟨tmp, box, H⟩ := by
  simp -implicitDefEqProofs [h0, h6, h7, h8, h9, h12, b6, b7, b8, b9, b15, b16, b18]
  refine callK_ret (k67 _ _ _ _ _) ?_
  rcases hp with rfl | rfl <;> cases turned
  case inl.false =>
    by_cases q1 : lo' = 18446744073709551615#64 <;> by_cases q2 : hi = 0#64 <;> simp -implicitDefEqProofs [h0, h6, h7, h8, h9, h12, b6, b7, b8, b9, b15, b16, b18, q1, q2, scAbove] at hR ⊢
    all_goals refine callK_ret (k69 _ _ _ _ _ _ _ _ _ _) ?_
    all_goals simpa -implicitDefEqProofs [h0, h6, h7, h8, h9, h12, b6, b7, b8, b9, b15, b16, b18, q1, q2] using hR
  case inl.true =>
    by_cases q1 : lo' = 18446744073709551615#64 <;> by_cases q2 : hi = 0#64 <;> simp -implicitDefEqProofs [h0, h6, h7, h8, h9, h12, b6, b7, b8, b9, b15, b16, b18, q1, q2, scAbove] at hR ⊢
    all_goals refine callK_ret (k69 _ _ _ _ _ _ _ _ _ _) ?_
    all_goals simpa -implicitDefEqProofs [h0, h6, h7, h8, h9, h12, b6, b7, b8, b9, b15, b16, b18, q1, q2] using hR
  case inr.false =>
    simp -implicitDefEqProofs [h0, h6, h7, h8, h9, h12, b6, b7, b8, b9, b15, b16, b18, scAbove] at hR ⊢
    refine callK_ret (k69 _ _ _ _ _ _ _ _ _ _) ?_
    simpa -implicitDefEqProofs [h0, h6, h7, h8, h9, h12, b6, b7, b8, b9, b15, b16, b18] using hR
  case inr.true =>
    simp -implicitDefEqProofs [h0, h6, h7, h8, h9, h12, b6, b7, b8, b9, b15, b16, b18, scAbove] at hR ⊢
    refine callK_ret (k69 _ _ _ _ _ _ _ _ _ _) ?_
    simpa -implicitDefEqProofs [h0, h6, h7, h8, h9, h12, b6, b7, b8, b9, b15, b16, b18] using hR

end Go.Proofs.Ytlonpljlojgclaa
