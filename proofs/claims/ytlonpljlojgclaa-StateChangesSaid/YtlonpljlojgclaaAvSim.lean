import Derived.Test.YtlonpljlojgclaaAvRel
import Derived.Deep.LoopGhost
set_option linter.unusedSimpArgs false
set_option linter.unusedVariables false
namespace Go.Av
open Go

/-! ## Heaps, frames, and what relates them to the real ones -/

inductive Blk where
  | cells (t : TypeId) (l : List AV) (slop : Bool)
  | ro (t : TypeId) (l : List AV)
  | map (es : List (AV × AV × Nat)) (clock : Nat)
  | dead
  deriving Inhabited

def Blk.live : Blk → Bool
  | .dead => false
  | _ => true

/-- May it be written? -/
def Blk.own : Blk → Bool
  | .cells _ _ _ | .map _ _ => true
  | _ => false

/-- Of those that may be written (true), of all that are read (false). -/
def Blk.is (b : Blk) (q : Bool) : Bool := if q then b.own else b.live

theorem Blk.live_of_own {b : Blk} (h : b.own = true) : b.live = true := by cases b <;> first | rfl | cases h
theorem Blk.live_of_is {b : Blk} {q : Bool} (h : b.is q = true) : b.live = true := by
  cases q
  · exact h
  · exact Blk.live_of_own h

abbrev Heap := List Blk
abbrev BoxC := TypeId × List AV

structure St where
  tmp : List (Nat × AV)
  box : List (Nat × BoxC)
  heap : Heap

def tget : List (Nat × AV) → Nat → AV
  | [], _ => .junk
  | (k, v) :: r, t => if t = k then v else tget r t

def bget : List (Nat × BoxC) → Nat → Option BoxC
  | [], _ => none
  | (k, v) :: r, t => if t = k then some v else bget r t

section
variable (P : Program)

def MEntRel (g : List G) : List (AV × AV × Nat) → List MapEntry → Prop
  | [], es => es = []
  | (k, v, b) :: r, es => ∃ e es', es = e :: es' ∧ VRel P g k e.key ∧ VRel P g v e.val ∧ e.born = b ∧ MEntRel g r es'

def BlkRel (g : List G) (x : G) (b : Blk) (o : Option Obj) : Prop :=
  match b with
  | .cells t l s => x.ty = t ∧ x.len = l.length ∧ x.slop = s ∧ wtA P l t = true ∧ ∃ c el, o = some (.cells c el (0, 0)) ∧ c.size = x.rsize ∧
      ∃ c0 c1 c2, c.toList = c0 ++ c1 ++ c2 ∧ c0.length = x.base ∧ FRelL P g l c1
  | .ro t l => x.ty = t ∧ x.len = l.length ∧ x.slop = false ∧ wtA P l t = true ∧ ∃ c el fr, o = some (.cells c el fr) ∧ c.size = x.rsize ∧
      ∃ c0 c1 c2, c.toList = c0 ++ c1 ++ c2 ∧ c0.length = x.base ∧ FRelL P g l c1
  | .map es clock => ∃ ents, o = some (.map ents clock) ∧ MEntRel P g es ents.toList
  | .dead => True

structure Sim (g : List G) (H : Heap) (w : World) : Prop where
  len : g.length = H.length
  blk : ∀ (n : Nat) (x : G) (b : Blk), g[n]? = some x → H[n]? = some b → BlkRel P g x b w.heap[x.blk]?
  inj : ∀ (n m : Nat) (x y : G) (b c : Blk), g[n]? = some x → g[m]? = some y → H[n]? = some b → H[m]? = some c → b.own = true → c.live = true → x.blk = y.blk → n = m

/-- A frame's value: also a pointer into a local box. -/
def VRelE (g : List G) (bx : Nat → Option G) (v : AV) (v' : Value) : Prop :=
  match v with
  | .junk => True
  | .loc k p t => ∃ x, bx k = some x ∧ PtrOk P x p t v'
  | .lsl k p start e len cap => ∃ x, bx k = some x ∧ SlOk P x p start e len cap v'
  | v => VRel P g v v'

structure SRel (N : Nat) (g : List G) (bx : Nat → Option G) (S : St) (a : Act) (w : World) : Prop where
  size : a.tmps.size = N
  env : ∀ t, VRelE P g bx (tget S.tmp t) (a.tmps.getD t undef)
  box1 : ∀ k, bget S.box k = none → bx k = none
  box2 : ∀ k c, bget S.box k = some c → ∃ x, bx k = some x ∧ BlkRel P g x (.cells c.1 c.2 false) w.heap[x.blk]?
  sim : Sim P g S.heap w
  dis : ∀ (k l : Nat) (x y : G), bx k = some x → bx l = some y → x.blk = y.blk → k = l
  apart : ∀ (k : Nat) (x : G) (n : Nat) (y : G) (b : Blk), bx k = some x → g[n]? = some y → S.heap[n]? = some b → b.live = true → x.blk ≠ y.blk

end

def OwnH (g : List G) (H : Heap) (q : Bool) (r : Nat) : Prop := ∃ (n : Nat) (x : G) (b : Blk), g[n]? = some x ∧ H[n]? = some b ∧ b.is q = true ∧ x.blk = r
def OwnB (bx : Nat → Option G) (r : Nat) : Prop := ∃ k x, bx k = some x ∧ x.blk = r
def Own (g : List G) (H : Heap) (bx : Nat → Option G) (q : Bool) (r : Nat) : Prop := OwnH g H q r ∨ OwnB bx r

structure Ext (g : List G) (O : Bool → Nat → Prop) (w : World) (g' : List G) (O' : Bool → Nat → Prop) (w' : World) : Prop where
  le : GLe g g'
  size : w.heap.size ≤ w'.heap.size
  own : ∀ q r, O' q r → r < w.heap.size → O q r
  keep : ∀ r, r < w.heap.size → ¬ O true r → w'.heap[r]? = w.heap[r]?
  os : w'.os = w.os
  output : w'.output = w.output
  tape : w'.tape = w.tape

theorem Ext.refl (g : List G) (O : Bool → Nat → Prop) (w : World) : Ext g O w g O w :=
  ⟨GLe.refl g, Nat.le_refl _, fun _ _ h _ => h, fun _ _ _ => rfl, rfl, rfl, rfl⟩

theorem Ext.trans {g1 g2 g3 : List G} {O1 O2 O3 : Bool → Nat → Prop} {w1 w2 w3 : World} (h : Ext g1 O1 w1 g2 O2 w2) (h' : Ext g2 O2 w2 g3 O3 w3) : Ext g1 O1 w1 g3 O3 w3 :=
  ⟨h.le.trans h'.le, Nat.le_trans h.size h'.size, fun q r h3 hlt => h.own q r (h'.own q r h3 (Nat.lt_of_lt_of_le hlt h.size)) hlt,
   fun r hlt hn => (h'.keep r (Nat.lt_of_lt_of_le hlt h.size) (fun h2 => hn (h.own true r h2 hlt))).trans (h.keep r hlt hn),
   h'.os.trans h.os, h'.output.trans h.output, h'.tape.trans h.tape⟩

theorem Ext.drew (g : List G) (O : Bool → Nat → Prop) (w : World) : Ext g O w g O { w with drawn := w.drawn + 1 } :=
  ⟨GLe.refl g, Nat.le_refl _, fun _ _ h _ => h, fun _ _ _ => rfl, rfl, rfl, rfl⟩

section
variable {P : Program} {N : Nat} {g g' : List G} {bx : Nat → Option G} {S : St} {a : Act} {w w' : World}

theorem MEntRel.mono (hg : GLe g g') : (es : List (AV × AV × Nat)) → (l : List MapEntry) → MEntRel P g es l → MEntRel P g' es l
  | [], l, h => h
  | (k, v, b) :: r, l, h => by
      obtain ⟨e, es', h1, h2, h3, h4, h5⟩ := h
      exact ⟨e, es', h1, h2.mono hg, h3.mono hg, h4, MEntRel.mono hg r es' h5⟩

theorem BlkRel.mono (hg : GLe g g') {x : G} {b : Blk} {o : Option Obj} (h : BlkRel P g x b o) : BlkRel P g' x b o := by
  cases b with
  | cells t l s =>
    obtain ⟨h1, h2, h3, h4, c, el, h5, h6, c0, c1, c2, h7, h8, h9⟩ := h
    exact ⟨h1, h2, h3, h4, c, el, h5, h6, c0, c1, c2, h7, h8, FRelL.mono hg _ _ h9⟩
  | ro t l =>
    obtain ⟨h1, h2, h3, h4, c, el, fr, h5, h6, c0, c1, c2, h7, h8, h9⟩ := h
    exact ⟨h1, h2, h3, h4, c, el, fr, h5, h6, c0, c1, c2, h7, h8, FRelL.mono hg _ _ h9⟩
  | map es clock =>
    obtain ⟨ents, h1, h2⟩ := h
    exact ⟨ents, h1, MEntRel.mono hg _ _ h2⟩
  | dead => trivial

theorem VRelE.mono (hg : GLe g g') {v : AV} {v' : Value} (h : VRelE P g bx v v') : VRelE P g' bx v v' := by
  cases v <;> first | exact h | exact VRel.mono hg h

theorem VRelE.of_VRel {v : AV} {v' : Value} (h : VRel P g v v') : VRelE P g bx v v' := by
  cases v with
  | loc k p t => exact absurd h.1 (by simp [FRel])
  | lsl k p s e l c => exact absurd h.1 (by simp [FRel])
  | junk => trivial
  | _ => exact h

/-- Is a value none of a frame's own? -/
def AV.free : AV → Bool
  | .junk | .loc _ _ _ | .lsl _ _ _ _ _ _ => false
  | _ => true

theorem VRelE.VRel {v : AV} {v' : Value} (hv : v.free = true) (h : VRelE P g bx v v') : VRel P g v v' := by
  cases v <;> first | exact h | (simp [AV.free] at hv)

theorem BlkRel.lt {x : G} {b : Blk} (hb : b.live = true) (h : BlkRel P g x b w.heap[x.blk]?) : x.blk < w.heap.size := by
  rcases Nat.lt_or_ge x.blk w.heap.size with h' | h'
  · exact h'
  · have hn : w.heap[x.blk]? = none := by simp [h']
    rw [hn] at h
    cases b with
    | cells t l s => obtain ⟨_, _, _, _, c, el, h5, _⟩ := h; cases h5
    | ro t l => obtain ⟨_, _, _, _, c, el, fr, h5, _⟩ := h; cases h5
    | map es clock => obtain ⟨ents, h1, _⟩ := h; cases h1
    | dead => simp [Blk.live] at hb

theorem SRel.box_lt (h : SRel P N g bx S a w) {k : Nat} {x : G} (hk : bx k = some x) : x.blk < w.heap.size := by
  cases hb : bget S.box k with
  | none => rw [h.box1 k hb] at hk; cases hk
  | some c =>
    obtain ⟨y, hy, hr⟩ := h.box2 k c hb
    rw [hk] at hy; cases hy
    exact BlkRel.lt (b := .cells c.1 c.2 false) rfl hr

/-- A frame's own boxes are not the heap's. -/
theorem SRel.box_not_own (h : SRel P N g bx S a w) {k : Nat} {x : G} (hk : bx k = some x) (q : Bool) : ¬ OwnH g S.heap q x.blk := by
  rintro ⟨n, y, b, h1, h2, h3, h4⟩
  exact h.apart k x n y b hk h1 h2 (Blk.live_of_is h3) h4.symm

end
end Go.Av
