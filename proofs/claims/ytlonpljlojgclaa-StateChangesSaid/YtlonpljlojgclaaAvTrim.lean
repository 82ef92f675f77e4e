import Derived.Test.YtlonpljlojgclaaAvUnroll
set_option linter.unusedSimpArgs false
set_option linter.unusedVariables false
namespace Go.Av
open Go

/-! ## Memory that nothing leads to any more is forgotten -/

mutual
/-- Are all its names below n? -/
def clo (n : Nat) : AV → Bool
  | .ptr (some (k, _, _)) => k < n
  | .sl (some (k, _, _, _)) _ _ => k < n
  | .map (some k) => k < n
  | .fn _ a b => cloL n a && cloL n b
  | .ifc _ v => clo n v
  | .ag l => cloL n l
  | .tup l => cloL n l
  | _ => true
def cloL (n : Nat) : List AV → Bool
  | [] => true
  | v :: l => clo n v && cloL n l
end

section
variable {P : Program} {g g' : List G}

theorem glt {n : Nat} {x : G} (h : g[n]? = some x) : n < g.length := (List.getElem?_eq_some_iff.1 h).1

mutual
theorem FRel_clo : (v : AV) → (cs : List Value) → FRel P g v cs → clo g.length v = true
  | .ptr (some (k, _, _)), cs, h => by simp only [FRel] at h; obtain ⟨x, _, h1, _⟩ := h; simpa [clo] using glt h1
  | .sl (some (k, _, _, _)) _ _, cs, h => by simp only [FRel] at h; obtain ⟨x, _, h1, _⟩ := h; simpa [clo] using glt h1
  | .map (some k), cs, h => by simp only [FRel] at h; obtain ⟨x, h1, _⟩ := h; simpa [clo] using glt h1
  | .fn f a b, cs, h => by
      simp only [FRel] at h
      obtain ⟨a', b', _, h1, h2⟩ := h
      simp [clo, TRelL_clo a _ h1, TRelL_clo b _ h2]
  | .ifc t v, cs, h => by simp only [FRel] at h; obtain ⟨v', _, h1, _⟩ := h; simp [clo, FRel_clo v _ h1]
  | .ag l, cs, h => by simp only [FRel] at h; simp [clo, FRelL_clo l _ h]
  | .tup l, cs, h => by simp only [FRel] at h; obtain ⟨vs, _, h1⟩ := h; simp [clo, TRelL_clo l _ h1]
  | .bool _, cs, h => rfl
  | .int _ _, cs, h => rfl
  | .str _, cs, h => rfl
  | .ptr none, cs, h => rfl
  | .loc _ _ _, cs, h => rfl
  | .sl none _ _, cs, h => rfl
  | .lsl _ _ _ _ _ _, cs, h => rfl
  | .map none, cs, h => rfl
  | .nilFn, cs, h => rfl
  | .nilIfc, cs, h => rfl
  | .junk, cs, h => rfl
theorem FRelL_clo : (l : List AV) → (cs : List Value) → FRelL P g l cs → cloL g.length l = true
  | [], cs, h => rfl
  | v :: l, cs, h => by simp only [FRelL] at h; obtain ⟨c1, c2, _, h1, h2⟩ := h; simp [cloL, FRel_clo v _ h1, FRelL_clo l _ h2]
theorem TRelL_clo : (l : List AV) → (vs : List Value) → TRelL P g l vs → cloL g.length l = true
  | [], vs, h => rfl
  | v :: l, vs, h => by simp only [TRelL] at h; obtain ⟨v', r', _, h1, _, h2⟩ := h; simp [cloL, FRel_clo v _ h1, TRelL_clo l _ h2]
end

theorem GLe.back (hg : GLe g g') {n : Nat} {x : G} (hn : n < g.length) (h : g'[n]? = some x) : g[n]? = some x := by
  have h1 : g[n]? = some g[n] := List.getElem?_eq_getElem hn
  have h2 := hg n _ h1
  rw [h] at h2
  rw [h1, h2]

mutual
theorem FRel_back (hg : GLe g g') : (v : AV) → (cs : List Value) → clo g.length v = true → FRel P g' v cs → FRel P g v cs
  | .ptr (some (k, _, _)), cs, hc, h => by simp only [FRel] at h ⊢; simp only [clo, decide_eq_true_eq] at hc; obtain ⟨x, v, h1, h2⟩ := h; exact ⟨x, v, hg.back hc h1, h2⟩
  | .sl (some (k, _, _, _)) _ _, cs, hc, h => by simp only [FRel] at h ⊢; simp only [clo, decide_eq_true_eq] at hc; obtain ⟨x, v, h1, h2⟩ := h; exact ⟨x, v, hg.back hc h1, h2⟩
  | .map (some k), cs, hc, h => by simp only [FRel] at h ⊢; simp only [clo, decide_eq_true_eq] at hc; obtain ⟨x, h1, h2⟩ := h; exact ⟨x, hg.back hc h1, h2⟩
  | .fn f a b, cs, hc, h => by
      simp only [FRel] at h ⊢
      simp only [clo, Bool.and_eq_true] at hc
      obtain ⟨a', b', e, h1, h2⟩ := h
      exact ⟨a', b', e, TRelL_back hg a _ hc.1 h1, TRelL_back hg b _ hc.2 h2⟩
  | .ifc t v, cs, hc, h => by simp only [FRel] at h ⊢; simp only [clo] at hc; obtain ⟨v', e, h1, h2⟩ := h; exact ⟨v', e, FRel_back hg v _ hc h1, h2⟩
  | .ag l, cs, hc, h => by simp only [FRel] at h ⊢; simp only [clo] at hc; exact FRelL_back hg l _ hc h
  | .tup l, cs, hc, h => by simp only [FRel] at h ⊢; simp only [clo] at hc; obtain ⟨vs, e, h1⟩ := h; exact ⟨vs, e, TRelL_back hg l _ hc h1⟩
  | .bool _, cs, hc, h => by simpa only [FRel] using h
  | .int _ _, cs, hc, h => by simpa only [FRel] using h
  | .str _, cs, hc, h => by simpa only [FRel] using h
  | .ptr none, cs, hc, h => by simpa only [FRel] using h
  | .loc _ _ _, cs, hc, h => by simp only [FRel] at h
  | .sl none _ _, cs, hc, h => by simpa only [FRel] using h
  | .lsl _ _ _ _ _ _, cs, hc, h => by simp only [FRel] at h
  | .map none, cs, hc, h => by simpa only [FRel] using h
  | .nilFn, cs, hc, h => by simpa only [FRel] using h
  | .nilIfc, cs, hc, h => by simpa only [FRel] using h
  | .junk, cs, hc, h => by simp only [FRel] at h
theorem FRelL_back (hg : GLe g g') : (l : List AV) → (cs : List Value) → cloL g.length l = true → FRelL P g' l cs → FRelL P g l cs
  | [], cs, hc, h => by simpa only [FRelL] using h
  | v :: l, cs, hc, h => by
      simp only [FRelL] at h ⊢
      simp only [cloL, Bool.and_eq_true] at hc
      obtain ⟨c1, c2, e, h1, h2⟩ := h
      exact ⟨c1, c2, e, FRel_back hg v _ hc.1 h1, FRelL_back hg l _ hc.2 h2⟩
theorem TRelL_back (hg : GLe g g') : (l : List AV) → (vs : List Value) → cloL g.length l = true → TRelL P g' l vs → TRelL P g l vs
  | [], cs, hc, h => by simpa only [TRelL] using h
  | v :: l, vs, hc, h => by
      simp only [TRelL] at h ⊢
      simp only [cloL, Bool.and_eq_true] at hc
      obtain ⟨v', r', e, h1, h2, h3⟩ := h
      exact ⟨v', r', e, FRel_back hg v _ hc.1 h1, h2, TRelL_back hg l _ hc.2 h3⟩
end

theorem MEntRel_back (hg : GLe g g') : (es : List (AV × AV × Nat)) → (l0 l : List MapEntry) → MEntRel P g es l0 → MEntRel P g' es l → MEntRel P g es l
  | [], l0, l, h0, h => h
  | (k, v, b) :: r, l0, l, h0, h => by
      obtain ⟨e0, es0, _, a2, a3, _, a5⟩ := h0
      obtain ⟨e, es', h1, h2, h3, h4, h5⟩ := h
      exact ⟨e, es', h1, ⟨FRel_back hg _ _ (FRel_clo _ _ a2.1) h2.1, h2.2⟩, ⟨FRel_back hg _ _ (FRel_clo _ _ a3.1) h3.1, h3.2⟩, h4, MEntRel_back hg r es0 es' a5 h5⟩

theorem BlkRel_back (hg : GLe g g') {x x0 : G} {b : Blk} {o o0 : Option Obj} (h0 : BlkRel P g x0 b o0) (h : BlkRel P g' x b o) : BlkRel P g x b o := by
  cases b with
  | cells t l s =>
    obtain ⟨_, _, _, _, _, _, _, _, _, _, _, _, _, a9⟩ := h0
    obtain ⟨h1, h2, h3, h4, c, el, h5, h6, c0, c1, c2, h7, h8, h9⟩ := h
    exact ⟨h1, h2, h3, h4, c, el, h5, h6, c0, c1, c2, h7, h8, FRelL_back hg _ _ (FRelL_clo _ _ a9) h9⟩
  | ro t l =>
    obtain ⟨_, _, _, _, _, _, _, _, _, _, _, _, _, _, a9⟩ := h0
    obtain ⟨h1, h2, h3, h4, c, el, fr, h5, h6, c0, c1, c2, h7, h8, h9⟩ := h
    exact ⟨h1, h2, h3, h4, c, el, fr, h5, h6, c0, c1, c2, h7, h8, FRelL_back hg _ _ (FRelL_clo _ _ a9) h9⟩
  | map es clock =>
    obtain ⟨e0, _, a2⟩ := h0
    obtain ⟨ents, h1, h2⟩ := h
    exact ⟨ents, h1, MEntRel_back hg _ _ _ a2 h2⟩
  | dead => trivial

def Out.val : Out → AV
  | .ret v => v
  | .panic v => v

/-- What a call has made, and what nothing of its result leads to, is forgotten. -/
theorem CallRuns.trim {f : FuncId} {args : List AV} {H D : Heap} {out : Out} (h : CallRuns P f args H out (H ++ D)) (hv : clo H.length out.val = true) : CallRuns P f args H out H := by
  refine ⟨h.ok, fun g w args' hs ha => (h.run g w args' hs ha).mono ?_⟩
  rintro e w' ⟨g', ho, hs', he⟩
  rw [← hs.len] at hv
  refine ⟨g, ?_, ⟨hs.len, fun n x b h1 h2 => ?_, fun n m x y b c h1 h2 h3 h4 h5 h6 h7 => hs.inj n m x y b c h1 h2 h3 h4 h5 h6 h7⟩, ⟨GLe.refl g, he.size, fun q r h' _ => h', he.keep, he.os, he.output, he.tape⟩⟩
  · cases out with
    | ret v => obtain ⟨v', e1, h1⟩ := ho; exact ⟨v', e1, FRel_back he.le _ _ hv h1.1, h1.2⟩
    | panic v => obtain ⟨v', e1, h1⟩ := ho; exact ⟨v', e1, FRel_back he.le _ _ hv h1.1, h1.2⟩
  · have hn : n < H.length := (List.getElem?_eq_some_iff.1 h2).1
    exact BlkRel_back he.le (hs.blk n x b h1 h2) (hs'.blk n x b (he.le n x h1) (by rw [List.getElem?_append_left hn]; exact h2))

theorem callRuns_trim {f : FuncId} {args : List AV} {H : Heap} {o : Out} (h : ∃ out H', CallRuns P f args H out H' ∧ (out = o ∧ ∃ D, H' = H ++ D)) (hv : clo H.length o.val = true) : CallRuns P f args H o H := by
  obtain ⟨out, H', hc, rfl, D, rfl⟩ := h
  exact hc.trim hv

end
end Go.Av
