/-
  No cell of these rows narrows 'for every input' (looked for: loops, veiled, ifaces, maps, wideKeys, modest, calm, conditions, laid).
  DERIVED. THE GIVEN ROWS OF THIS SEAT. 11 by the template 'for every input the law returns true; each argument reads behind the call as it read before'; 0 by the template 'total and deterministic' (their statements: YtlonpljlojgclaaTotals.lean).
  GIVEN WITH THE SEED: the statements are not yours to turn. If you find one false, say at which input.
  Laid BY PROGRAM, IN A SANDBOX (cutbox-rows.mjs): the forced cells as the released guide's own fill.sh prints them over the translation dfb7571fa2e92fed… (all of the seat's roots in one cut). By AI agents, Wed Nov 11 2026. No macro, syntax, notation, axiom, sorry.
-/
import Derived.Test.YtlonpljlojgclaaChecked
import GoSem.Claim
import GoSem.ClaimJoined
import GoSem.ClaimMapViews
import Derived.JoinedTies
import Derived.KernelRfl
namespace Go.Proofs.Ytlonpljlojgclaa
/- THE CELL 'sum', in the pinned program and in every row, IS THE sha256 OF THE DUMP (.gsa) THAT YtlonpljlojgclaaProg.lean LOADS. Nothing in Lean hashes anything: it is a label: what it is worth is what the hold of that sum in a sandbox is worth. -/
noncomputable def Try.pinned : Pinned := { name := "ytlonpljlojgclaa", sum := "dfb7571fa2e92fed27731d255a04da36611db71c87f5166b80d31db8254af2d3", checked := Try.checked }
namespace Rows
def none {H : Type} : Left H := { results := [], args := [] }

/-- 'portcullislaw18.StateSelf': WHATEVER THE INPUT: true; the input reads as it did. -/
def stateSelfSpec : ChangeSpec := { name := "stateSelf", fn := fun _ => fun
  | [d] => { results := [.lit (.bool true)], args := [d] }
  | _ => none }
def stateSelfRow : OpenClaim := { program := "ytlonpljlojgclaa", sum := "dfb7571fa2e92fed27731d255a04da36611db71c87f5166b80d31db8254af2d3", func := "portcullis/portcullislaw18.StateSelf", spec := "stateSelf", unfollowed := true, recurses := true, apart := false }
def StateSelfSaid : Prop := stateSelfRow.holds Try.pinned (OpenSpec.ofChange stateSelfSpec)

/-- ITS FALSE NEIGHBOUR: 'it returns false'. Refute it at one input. -/
def stateSelfWrong : ChangeSpec := { name := "stateSelf", fn := fun _ => fun
  | [d] => { results := [.lit (.bool false)], args := [d] }
  | _ => none }
def StateSelfWrongFalsely : Prop := stateSelfRow.holds Try.pinned (OpenSpec.ofChange stateSelfWrong)

/-- 'portcullislaw18.StateLess': WHATEVER THE INPUT: true; the input reads as it did. -/
def stateLessSpec : ChangeSpec := { name := "stateLess", fn := fun _ => fun
  | [d1, d2, d3] => { results := [.lit (.bool true)], args := [d1, d2, d3] }
  | _ => none }
def stateLessRow : OpenClaim := { program := "ytlonpljlojgclaa", sum := "dfb7571fa2e92fed27731d255a04da36611db71c87f5166b80d31db8254af2d3", func := "portcullis/portcullislaw18.StateLess", spec := "stateLess", unfollowed := true, recurses := true, apart := false }
def StateLessSaid : Prop := stateLessRow.holds Try.pinned (OpenSpec.ofChange stateLessSpec)

/-- ITS FALSE NEIGHBOUR: 'it returns false'. Refute it at one input. -/
def stateLessWrong : ChangeSpec := { name := "stateLess", fn := fun _ => fun
  | [d1, d2, d3] => { results := [.lit (.bool false)], args := [d1, d2, d3] }
  | _ => none }
def StateLessWrongFalsely : Prop := stateLessRow.holds Try.pinned (OpenSpec.ofChange stateLessWrong)

/-- 'portcullislaw17.BranchRefines': WHATEVER THE INPUT: true; the input reads as it did. -/
def branchRefinesSpec : ChangeSpec := { name := "branchRefines", fn := fun _ => fun
  | [d1, d2, d3] => { results := [.lit (.bool true)], args := [d1, d2, d3] }
  | _ => none }
def branchRefinesRow : OpenClaim := { program := "ytlonpljlojgclaa", sum := "dfb7571fa2e92fed27731d255a04da36611db71c87f5166b80d31db8254af2d3", func := "portcullis/portcullislaw17.BranchRefines", spec := "branchRefines", apart := false }
def BranchRefinesSaid : Prop := branchRefinesRow.holds Try.pinned (OpenSpec.ofChange branchRefinesSpec)

/-- ITS FALSE NEIGHBOUR: 'it returns false'. Refute it at one input. -/
def branchRefinesWrong : ChangeSpec := { name := "branchRefines", fn := fun _ => fun
  | [d1, d2, d3] => { results := [.lit (.bool false)], args := [d1, d2, d3] }
  | _ => none }
def BranchRefinesWrongFalsely : Prop := branchRefinesRow.holds Try.pinned (OpenSpec.ofChange branchRefinesWrong)

/-- 'portcullislaw17.BranchSound': WHATEVER THE INPUT: true; the input reads as it did. -/
def branchSoundSpec : ChangeSpec := { name := "branchSound", fn := fun _ => fun
  | [d1, d2, d3] => { results := [.lit (.bool true)], args := [d1, d2, d3] }
  | _ => none }
def branchSoundRow : OpenClaim := { program := "ytlonpljlojgclaa", sum := "dfb7571fa2e92fed27731d255a04da36611db71c87f5166b80d31db8254af2d3", func := "portcullis/portcullislaw17.BranchSound", spec := "branchSound", apart := false }
def BranchSoundSaid : Prop := branchSoundRow.holds Try.pinned (OpenSpec.ofChange branchSoundSpec)

/-- ITS FALSE NEIGHBOUR: 'it returns false'. Refute it at one input. -/
def branchSoundWrong : ChangeSpec := { name := "branchSound", fn := fun _ => fun
  | [d1, d2, d3] => { results := [.lit (.bool false)], args := [d1, d2, d3] }
  | _ => none }
def BranchSoundWrongFalsely : Prop := branchSoundRow.holds Try.pinned (OpenSpec.ofChange branchSoundWrong)

/-- 'portcullislaw17.BranchAlways': WHATEVER THE INPUT: true; the input reads as it did. -/
def branchAlwaysSpec : ChangeSpec := { name := "branchAlways", fn := fun _ => fun
  | [d1, d2, d3] => { results := [.lit (.bool true)], args := [d1, d2, d3] }
  | _ => none }
def branchAlwaysRow : OpenClaim := { program := "ytlonpljlojgclaa", sum := "dfb7571fa2e92fed27731d255a04da36611db71c87f5166b80d31db8254af2d3", func := "portcullis/portcullislaw17.BranchAlways", spec := "branchAlways", apart := false }
def BranchAlwaysSaid : Prop := branchAlwaysRow.holds Try.pinned (OpenSpec.ofChange branchAlwaysSpec)

/-- ITS FALSE NEIGHBOUR: 'it returns false'. Refute it at one input. -/
def branchAlwaysWrong : ChangeSpec := { name := "branchAlways", fn := fun _ => fun
  | [d1, d2, d3] => { results := [.lit (.bool false)], args := [d1, d2, d3] }
  | _ => none }
def BranchAlwaysWrongFalsely : Prop := branchAlwaysRow.holds Try.pinned (OpenSpec.ofChange branchAlwaysWrong)

/-- 'portcullislaw17.BranchNarrows': WHATEVER THE INPUT: true; the input reads as it did. -/
def branchNarrowsSpec : ChangeSpec := { name := "branchNarrows", fn := fun _ => fun
  | [d1, d2, d3] => { results := [.lit (.bool true)], args := [d1, d2, d3] }
  | _ => none }
def branchNarrowsRow : OpenClaim := { program := "ytlonpljlojgclaa", sum := "dfb7571fa2e92fed27731d255a04da36611db71c87f5166b80d31db8254af2d3", func := "portcullis/portcullislaw17.BranchNarrows", spec := "branchNarrows", apart := false }
def BranchNarrowsSaid : Prop := branchNarrowsRow.holds Try.pinned (OpenSpec.ofChange branchNarrowsSpec)

/-- ITS FALSE NEIGHBOUR: 'it returns false'. Refute it at one input. -/
def branchNarrowsWrong : ChangeSpec := { name := "branchNarrows", fn := fun _ => fun
  | [d1, d2, d3] => { results := [.lit (.bool false)], args := [d1, d2, d3] }
  | _ => none }
def BranchNarrowsWrongFalsely : Prop := branchNarrowsRow.holds Try.pinned (OpenSpec.ofChange branchNarrowsWrong)

/-- 'portcullislaw05.ShapeChecks': WHATEVER THE INPUT: true; the input reads as it did. -/
def shapeChecksSpec : ChangeSpec := { name := "shapeChecks", fn := fun _ => fun
  | [d] => { results := [.lit (.bool true)], args := [d] }
  | _ => none }
def shapeChecksRow : OpenClaim := { program := "ytlonpljlojgclaa", sum := "dfb7571fa2e92fed27731d255a04da36611db71c87f5166b80d31db8254af2d3", func := "portcullis/portcullislaw05.ShapeChecks", spec := "shapeChecks", apart := false }
def ShapeChecksSaid : Prop := shapeChecksRow.holds Try.pinned (OpenSpec.ofChange shapeChecksSpec)

/-- ITS FALSE NEIGHBOUR: 'it returns false'. Refute it at one input. -/
def shapeChecksWrong : ChangeSpec := { name := "shapeChecks", fn := fun _ => fun
  | [d] => { results := [.lit (.bool false)], args := [d] }
  | _ => none }
def ShapeChecksWrongFalsely : Prop := shapeChecksRow.holds Try.pinned (OpenSpec.ofChange shapeChecksWrong)

/-- 'portcullislaw18.StateChanges': WHATEVER THE INPUT: true; the input reads as it did. -/
def stateChangesSpec : ChangeSpec := { name := "stateChanges", fn := fun _ => fun
  | [d1, d2, d3] => { results := [.lit (.bool true)], args := [d1, d2, d3] }
  | _ => none }
def stateChangesRow : OpenClaim := { program := "ytlonpljlojgclaa", sum := "dfb7571fa2e92fed27731d255a04da36611db71c87f5166b80d31db8254af2d3", func := "portcullis/portcullislaw18.StateChanges", spec := "stateChanges", unfollowed := true, recurses := true, apart := false }
def StateChangesSaid : Prop := stateChangesRow.holds Try.pinned (OpenSpec.ofChange stateChangesSpec)

/-- ITS FALSE NEIGHBOUR: 'it returns false'. Refute it at one input. -/
def stateChangesWrong : ChangeSpec := { name := "stateChanges", fn := fun _ => fun
  | [d1, d2, d3] => { results := [.lit (.bool false)], args := [d1, d2, d3] }
  | _ => none }
def StateChangesWrongFalsely : Prop := stateChangesRow.holds Try.pinned (OpenSpec.ofChange stateChangesWrong)

/-- 'portcullislaw05.ShapeNexts': WHATEVER THE INPUT: true; the input reads as it did. -/
def shapeNextsSpec : ChangeSpec := { name := "shapeNexts", fn := fun _ => fun
  | [d1, d2] => { results := [.lit (.bool true)], args := [d1, d2] }
  | _ => none }
def shapeNextsRow : OpenClaim := { program := "ytlonpljlojgclaa", sum := "dfb7571fa2e92fed27731d255a04da36611db71c87f5166b80d31db8254af2d3", func := "portcullis/portcullislaw05.ShapeNexts", spec := "shapeNexts", apart := false }
def ShapeNextsSaid : Prop := shapeNextsRow.holds Try.pinned (OpenSpec.ofChange shapeNextsSpec)

/-- ITS FALSE NEIGHBOUR: 'it returns false'. Refute it at one input. -/
def shapeNextsWrong : ChangeSpec := { name := "shapeNexts", fn := fun _ => fun
  | [d1, d2] => { results := [.lit (.bool false)], args := [d1, d2] }
  | _ => none }
def ShapeNextsWrongFalsely : Prop := shapeNextsRow.holds Try.pinned (OpenSpec.ofChange shapeNextsWrong)

/-- 'portcullislaw05.ShapeStays': WHATEVER THE INPUT: true; the input reads as it did. -/
def shapeStaysSpec : ChangeSpec := { name := "shapeStays", fn := fun _ => fun
  | [d] => { results := [.lit (.bool true)], args := [d] }
  | _ => none }
def shapeStaysRow : OpenClaim := { program := "ytlonpljlojgclaa", sum := "dfb7571fa2e92fed27731d255a04da36611db71c87f5166b80d31db8254af2d3", func := "portcullis/portcullislaw05.ShapeStays", spec := "shapeStays", apart := false }
def ShapeStaysSaid : Prop := shapeStaysRow.holds Try.pinned (OpenSpec.ofChange shapeStaysSpec)

/-- ITS FALSE NEIGHBOUR: 'it returns false'. Refute it at one input. -/
def shapeStaysWrong : ChangeSpec := { name := "shapeStays", fn := fun _ => fun
  | [d] => { results := [.lit (.bool false)], args := [d] }
  | _ => none }
def ShapeStaysWrongFalsely : Prop := shapeStaysRow.holds Try.pinned (OpenSpec.ofChange shapeStaysWrong)

/-- 'portcullislaw05.ShapeTails': WHATEVER THE INPUT: true; the input reads as it did. -/
def shapeTailsSpec : ChangeSpec := { name := "shapeTails", fn := fun _ => fun
  | [d] => { results := [.lit (.bool true)], args := [d] }
  | _ => none }
def shapeTailsRow : OpenClaim := { program := "ytlonpljlojgclaa", sum := "dfb7571fa2e92fed27731d255a04da36611db71c87f5166b80d31db8254af2d3", func := "portcullis/portcullislaw05.ShapeTails", spec := "shapeTails", apart := false }
def ShapeTailsSaid : Prop := shapeTailsRow.holds Try.pinned (OpenSpec.ofChange shapeTailsSpec)

/-- ITS FALSE NEIGHBOUR: 'it returns false'. Refute it at one input. -/
def shapeTailsWrong : ChangeSpec := { name := "shapeTails", fn := fun _ => fun
  | [d] => { results := [.lit (.bool false)], args := [d] }
  | _ => none }
def ShapeTailsWrongFalsely : Prop := shapeTailsRow.holds Try.pinned (OpenSpec.ofChange shapeTailsWrong)

/- THE SECOND FORM. 'bulk': how many values and letters a reading holds, each counted each time it is reached (what is shared counts as often as it is met; a slice's spare places count too). A statement '..UptoSaid' is the law's where the arguments, and the package variables that the reading takes, are together of bulk at most 1048576: NARROWER than '..Said'. Prove '..Said' where nothing that the law and all that it calls make is longer than what came in: it says more and counts as full. Else prove '..UptoSaid'. A law counts once. -/
mutual
def uptoBulk {H : Type} : DataW H → Nat
  | .lit (.string bytes) => bytes.length + 1
  | .lit _ => 1
  | .nil => 1
  | .ptr d => uptoBulk d + 1
  | .slice elems spare => uptoBulkAll elems + uptoBulkAll spare + 1
  | .agg parts => uptoBulkAll parts + 1
  | .iface _ d => uptoBulk d + 1
  | .map entries => uptoBulkEntries entries + 1
  | .held _ => 1
def uptoBulkAll {H : Type} : List (DataW H) → Nat
  | [] => 0
  | d :: r => uptoBulk d + uptoBulkAll r
def uptoBulkEntries {H : Type} : List (Lit × DataW H) → Nat
  | [] => 0
  | x :: r => uptoBulkEntry x + uptoBulkEntries r
def uptoBulkEntry {H : Type} : Lit × DataW H → Nat
  | (.string bytes, d) => bytes.length + uptoBulk d + 1
  | (_, d) => uptoBulk d + 1
 end
def uptoSmall : (H : Type) → List (DataW H) → Bool := fun _ ds => decide (uptoBulkAll ds ≤ 1048576)
def OpenSpec.upto (s : _root_.Go.ChangeSpec) : _root_.Go.OpenSpec := { _root_.Go.OpenSpec.ofChange s with cond := some uptoSmall }

/-- 'portcullislaw18.StateSelf', WHERE WHAT IT READS IS OF BULK AT MOST 1048576: true; the input reads as it did. -/
def stateSelfUptoRow : OpenClaim := { program := "ytlonpljlojgclaa", sum := "dfb7571fa2e92fed27731d255a04da36611db71c87f5166b80d31db8254af2d3", func := "portcullis/portcullislaw18.StateSelf", spec := "stateSelf", unfollowed := true, recurses := true, apart := false, narrowed := true }
def StateSelfUptoSaid : Prop := stateSelfUptoRow.holds Try.pinned (OpenSpec.upto stateSelfSpec)

/-- 'portcullislaw18.StateLess', WHERE WHAT IT READS IS OF BULK AT MOST 1048576: true; the input reads as it did. -/
def stateLessUptoRow : OpenClaim := { program := "ytlonpljlojgclaa", sum := "dfb7571fa2e92fed27731d255a04da36611db71c87f5166b80d31db8254af2d3", func := "portcullis/portcullislaw18.StateLess", spec := "stateLess", unfollowed := true, recurses := true, apart := false, narrowed := true }
def StateLessUptoSaid : Prop := stateLessUptoRow.holds Try.pinned (OpenSpec.upto stateLessSpec)

/-- 'portcullislaw17.BranchRefines', WHERE WHAT IT READS IS OF BULK AT MOST 1048576: true; the input reads as it did. -/
def branchRefinesUptoRow : OpenClaim := { program := "ytlonpljlojgclaa", sum := "dfb7571fa2e92fed27731d255a04da36611db71c87f5166b80d31db8254af2d3", func := "portcullis/portcullislaw17.BranchRefines", spec := "branchRefines", apart := false, narrowed := true }
def BranchRefinesUptoSaid : Prop := branchRefinesUptoRow.holds Try.pinned (OpenSpec.upto branchRefinesSpec)

/-- 'portcullislaw17.BranchSound', WHERE WHAT IT READS IS OF BULK AT MOST 1048576: true; the input reads as it did. -/
def branchSoundUptoRow : OpenClaim := { program := "ytlonpljlojgclaa", sum := "dfb7571fa2e92fed27731d255a04da36611db71c87f5166b80d31db8254af2d3", func := "portcullis/portcullislaw17.BranchSound", spec := "branchSound", apart := false, narrowed := true }
def BranchSoundUptoSaid : Prop := branchSoundUptoRow.holds Try.pinned (OpenSpec.upto branchSoundSpec)

/-- 'portcullislaw17.BranchAlways', WHERE WHAT IT READS IS OF BULK AT MOST 1048576: true; the input reads as it did. -/
def branchAlwaysUptoRow : OpenClaim := { program := "ytlonpljlojgclaa", sum := "dfb7571fa2e92fed27731d255a04da36611db71c87f5166b80d31db8254af2d3", func := "portcullis/portcullislaw17.BranchAlways", spec := "branchAlways", apart := false, narrowed := true }
def BranchAlwaysUptoSaid : Prop := branchAlwaysUptoRow.holds Try.pinned (OpenSpec.upto branchAlwaysSpec)

/-- 'portcullislaw17.BranchNarrows', WHERE WHAT IT READS IS OF BULK AT MOST 1048576: true; the input reads as it did. -/
def branchNarrowsUptoRow : OpenClaim := { program := "ytlonpljlojgclaa", sum := "dfb7571fa2e92fed27731d255a04da36611db71c87f5166b80d31db8254af2d3", func := "portcullis/portcullislaw17.BranchNarrows", spec := "branchNarrows", apart := false, narrowed := true }
def BranchNarrowsUptoSaid : Prop := branchNarrowsUptoRow.holds Try.pinned (OpenSpec.upto branchNarrowsSpec)

/-- 'portcullislaw05.ShapeChecks', WHERE WHAT IT READS IS OF BULK AT MOST 1048576: true; the input reads as it did. -/
def shapeChecksUptoRow : OpenClaim := { program := "ytlonpljlojgclaa", sum := "dfb7571fa2e92fed27731d255a04da36611db71c87f5166b80d31db8254af2d3", func := "portcullis/portcullislaw05.ShapeChecks", spec := "shapeChecks", apart := false, narrowed := true }
def ShapeChecksUptoSaid : Prop := shapeChecksUptoRow.holds Try.pinned (OpenSpec.upto shapeChecksSpec)

/-- 'portcullislaw18.StateChanges', WHERE WHAT IT READS IS OF BULK AT MOST 1048576: true; the input reads as it did. -/
def stateChangesUptoRow : OpenClaim := { program := "ytlonpljlojgclaa", sum := "dfb7571fa2e92fed27731d255a04da36611db71c87f5166b80d31db8254af2d3", func := "portcullis/portcullislaw18.StateChanges", spec := "stateChanges", unfollowed := true, recurses := true, apart := false, narrowed := true }
def StateChangesUptoSaid : Prop := stateChangesUptoRow.holds Try.pinned (OpenSpec.upto stateChangesSpec)

/-- 'portcullislaw05.ShapeNexts', WHERE WHAT IT READS IS OF BULK AT MOST 1048576: true; the input reads as it did. -/
def shapeNextsUptoRow : OpenClaim := { program := "ytlonpljlojgclaa", sum := "dfb7571fa2e92fed27731d255a04da36611db71c87f5166b80d31db8254af2d3", func := "portcullis/portcullislaw05.ShapeNexts", spec := "shapeNexts", apart := false, narrowed := true }
def ShapeNextsUptoSaid : Prop := shapeNextsUptoRow.holds Try.pinned (OpenSpec.upto shapeNextsSpec)

/-- 'portcullislaw05.ShapeStays', WHERE WHAT IT READS IS OF BULK AT MOST 1048576: true; the input reads as it did. -/
def shapeStaysUptoRow : OpenClaim := { program := "ytlonpljlojgclaa", sum := "dfb7571fa2e92fed27731d255a04da36611db71c87f5166b80d31db8254af2d3", func := "portcullis/portcullislaw05.ShapeStays", spec := "shapeStays", apart := false, narrowed := true }
def ShapeStaysUptoSaid : Prop := shapeStaysUptoRow.holds Try.pinned (OpenSpec.upto shapeStaysSpec)

/-- 'portcullislaw05.ShapeTails', WHERE WHAT IT READS IS OF BULK AT MOST 1048576: true; the input reads as it did. -/
def shapeTailsUptoRow : OpenClaim := { program := "ytlonpljlojgclaa", sum := "dfb7571fa2e92fed27731d255a04da36611db71c87f5166b80d31db8254af2d3", func := "portcullis/portcullislaw05.ShapeTails", spec := "shapeTails", apart := false, narrowed := true }
def ShapeTailsUptoSaid : Prop := shapeTailsUptoRow.holds Try.pinned (OpenSpec.upto shapeTailsSpec)

end Rows
end Go.Proofs.Ytlonpljlojgclaa
