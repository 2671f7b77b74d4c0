/-
  No cell of these rows narrows 'for every input' (looked for: loops, veiled, ifaces, maps, wideKeys, modest, calm, conditions, laid).
  DERIVED. THE GIVEN ROWS OF THIS SEAT. 5 by the template 'for every input the law returns true; each argument reads behind the call as it read before'; 0 by the template 'total and deterministic' (their statements: YtgjbajjggmpmmaaTotals.lean).
  GIVEN WITH THE SEED: the statements are not yours to turn. If you find one false, say at which input.
  Laid BY PROGRAM, IN A SANDBOX (cutbox-rows.mjs): the forced cells as the released guide's own fill.sh prints them over the translation 5826b4b6eed4dde6… (all of the seat's roots in one cut). By AI agents, Wed Nov 11 2026. No macro, syntax, notation, axiom, sorry.
-/
import Derived.Test.YtgjbajjggmpmmaaChecked
import GoSem.Claim
import GoSem.ClaimJoined
import GoSem.ClaimMapViews
import Derived.JoinedTies
import Derived.KernelRfl
namespace Go.Proofs.Ytgjbajjggmpmmaa
/- THE CELL 'sum', in the pinned program and in every row, IS THE sha256 OF THE DUMP (.gsa) THAT YtgjbajjggmpmmaaProg.lean LOADS. Nothing in Lean hashes anything: it is a label: what it is worth is what the hold of that sum in a sandbox is worth. -/
noncomputable def Try.pinned : Pinned := { name := "ytgjbajjggmpmmaa", sum := "5826b4b6eed4dde675543d36bdecdea16b3f804c3d58ed345dad4ffdd7dc2961", checked := Try.checked }
namespace Rows
def none {H : Type} : Left H := { results := [], args := [] }

/-- 'sallyportlaw12.DescrEncodes': WHATEVER THE INPUT: true; the input reads as it did. -/
def descrEncodesSpec : ChangeSpec := { name := "descrEncodes", fn := fun _ => fun
  | [d] => { results := [.lit (.bool true)], args := [d] }
  | _ => none }
def descrEncodesRow : OpenClaim := { program := "ytgjbajjggmpmmaa", sum := "5826b4b6eed4dde675543d36bdecdea16b3f804c3d58ed345dad4ffdd7dc2961", func := "sallyport/sallyportlaw12.DescrEncodes", spec := "descrEncodes", unfollowed := true, recurses := true, apart := false }
def DescrEncodesSaid : Prop := descrEncodesRow.holds Try.pinned (OpenSpec.ofChange descrEncodesSpec)

/-- ITS FALSE NEIGHBOUR: 'it returns false'. Refute it at one input. -/
def descrEncodesWrong : ChangeSpec := { name := "descrEncodes", fn := fun _ => fun
  | [d] => { results := [.lit (.bool false)], args := [d] }
  | _ => none }
def DescrEncodesWrongFalsely : Prop := descrEncodesRow.holds Try.pinned (OpenSpec.ofChange descrEncodesWrong)

/-- 'sallyportlaw12.DescrParses': WHATEVER THE INPUT: true; the input reads as it did. -/
def descrParsesSpec : ChangeSpec := { name := "descrParses", fn := fun _ => fun
  | [d] => { results := [.lit (.bool true)], args := [d] }
  | _ => none }
def descrParsesRow : OpenClaim := { program := "ytgjbajjggmpmmaa", sum := "5826b4b6eed4dde675543d36bdecdea16b3f804c3d58ed345dad4ffdd7dc2961", func := "sallyport/sallyportlaw12.DescrParses", spec := "descrParses", unfollowed := true, recurses := true, apart := false }
def DescrParsesSaid : Prop := descrParsesRow.holds Try.pinned (OpenSpec.ofChange descrParsesSpec)

/-- ITS FALSE NEIGHBOUR: 'it returns false'. Refute it at one input. -/
def descrParsesWrong : ChangeSpec := { name := "descrParses", fn := fun _ => fun
  | [d] => { results := [.lit (.bool false)], args := [d] }
  | _ => none }
def DescrParsesWrongFalsely : Prop := descrParsesRow.holds Try.pinned (OpenSpec.ofChange descrParsesWrong)

/-- 'sallyportlaw12.DescrCuts': WHATEVER THE INPUT: true; the input reads as it did. -/
def descrCutsSpec : ChangeSpec := { name := "descrCuts", fn := fun _ => fun
  | [d1, d2] => { results := [.lit (.bool true)], args := [d1, d2] }
  | _ => none }
def descrCutsRow : OpenClaim := { program := "ytgjbajjggmpmmaa", sum := "5826b4b6eed4dde675543d36bdecdea16b3f804c3d58ed345dad4ffdd7dc2961", func := "sallyport/sallyportlaw12.DescrCuts", spec := "descrCuts", unfollowed := true, recurses := true, apart := false }
def DescrCutsSaid : Prop := descrCutsRow.holds Try.pinned (OpenSpec.ofChange descrCutsSpec)

/-- ITS FALSE NEIGHBOUR: 'it returns false'. Refute it at one input. -/
def descrCutsWrong : ChangeSpec := { name := "descrCuts", fn := fun _ => fun
  | [d1, d2] => { results := [.lit (.bool false)], args := [d1, d2] }
  | _ => none }
def DescrCutsWrongFalsely : Prop := descrCutsRow.holds Try.pinned (OpenSpec.ofChange descrCutsWrong)

/-- 'sallyportlaw12.DescrSizes': WHATEVER THE INPUT: true; the input reads as it did. -/
def descrSizesSpec : ChangeSpec := { name := "descrSizes", fn := fun _ => fun
  | [d] => { results := [.lit (.bool true)], args := [d] }
  | _ => none }
def descrSizesRow : OpenClaim := { program := "ytgjbajjggmpmmaa", sum := "5826b4b6eed4dde675543d36bdecdea16b3f804c3d58ed345dad4ffdd7dc2961", func := "sallyport/sallyportlaw12.DescrSizes", spec := "descrSizes", unfollowed := true, recurses := true, apart := false }
def DescrSizesSaid : Prop := descrSizesRow.holds Try.pinned (OpenSpec.ofChange descrSizesSpec)

/-- ITS FALSE NEIGHBOUR: 'it returns false'. Refute it at one input. -/
def descrSizesWrong : ChangeSpec := { name := "descrSizes", fn := fun _ => fun
  | [d] => { results := [.lit (.bool false)], args := [d] }
  | _ => none }
def DescrSizesWrongFalsely : Prop := descrSizesRow.holds Try.pinned (OpenSpec.ofChange descrSizesWrong)

/-- 'sallyportlaw12.DescrOwn': WHATEVER THE INPUT: true; the input reads as it did. -/
def descrOwnSpec : ChangeSpec := { name := "descrOwn", fn := fun _ => fun
  | [d] => { results := [.lit (.bool true)], args := [d] }
  | _ => none }
def descrOwnRow : OpenClaim := { program := "ytgjbajjggmpmmaa", sum := "5826b4b6eed4dde675543d36bdecdea16b3f804c3d58ed345dad4ffdd7dc2961", func := "sallyport/sallyportlaw12.DescrOwn", spec := "descrOwn", unfollowed := true, recurses := true, apart := false }
def DescrOwnSaid : Prop := descrOwnRow.holds Try.pinned (OpenSpec.ofChange descrOwnSpec)

/-- ITS FALSE NEIGHBOUR: 'it returns false'. Refute it at one input. -/
def descrOwnWrong : ChangeSpec := { name := "descrOwn", fn := fun _ => fun
  | [d] => { results := [.lit (.bool false)], args := [d] }
  | _ => none }
def DescrOwnWrongFalsely : Prop := descrOwnRow.holds Try.pinned (OpenSpec.ofChange descrOwnWrong)

/- THE SECOND FORM. 'bulk': how many values and letters a reading holds, each counted each time it is reached (what is shared counts as often as it is met; a slice's spare places count too). A statement '..UptoSaid' is the law's where the arguments, and the package variables that the reading takes, are together of bulk at most 1048576: NARROWER than '..Said'. Prove '..Said' where nothing that the law and all that it calls make is longer than what came in: it says more and counts as full. Else prove '..UptoSaid'. A law counts once. -/
mutual
def uptoBulk {H : Type} : DataW H → Nat
  | .lit (.string bytes) => bytes.length + 1
  | .lit _ => 1
  | .nil => 1
  | .ptr d => uptoBulk d + 1
  | .slice elems spare => uptoBulkAll elems + uptoBulkAll spare + 1
  | .agg parts => uptoBulkAll parts + 1
  | .iface _ d => uptoBulk d + 1
  | .map entries => uptoBulkEntries entries + 1
  | .held _ => 1
def uptoBulkAll {H : Type} : List (DataW H) → Nat
  | [] => 0
  | d :: r => uptoBulk d + uptoBulkAll r
def uptoBulkEntries {H : Type} : List (Lit × DataW H) → Nat
  | [] => 0
  | x :: r => uptoBulkEntry x + uptoBulkEntries r
def uptoBulkEntry {H : Type} : Lit × DataW H → Nat
  | (.string bytes, d) => bytes.length + uptoBulk d + 1
  | (_, d) => uptoBulk d + 1
 end
def uptoSmall : (H : Type) → List (DataW H) → Bool := fun _ ds => decide (uptoBulkAll ds ≤ 1048576)
def OpenSpec.upto (s : _root_.Go.ChangeSpec) : _root_.Go.OpenSpec := { _root_.Go.OpenSpec.ofChange s with cond := some uptoSmall }

/-- 'sallyportlaw12.DescrEncodes', WHERE WHAT IT READS IS OF BULK AT MOST 1048576: true; the input reads as it did. -/
def descrEncodesUptoRow : OpenClaim := { program := "ytgjbajjggmpmmaa", sum := "5826b4b6eed4dde675543d36bdecdea16b3f804c3d58ed345dad4ffdd7dc2961", func := "sallyport/sallyportlaw12.DescrEncodes", spec := "descrEncodes", unfollowed := true, recurses := true, apart := false, narrowed := true }
def DescrEncodesUptoSaid : Prop := descrEncodesUptoRow.holds Try.pinned (OpenSpec.upto descrEncodesSpec)

/-- 'sallyportlaw12.DescrParses', WHERE WHAT IT READS IS OF BULK AT MOST 1048576: true; the input reads as it did. -/
def descrParsesUptoRow : OpenClaim := { program := "ytgjbajjggmpmmaa", sum := "5826b4b6eed4dde675543d36bdecdea16b3f804c3d58ed345dad4ffdd7dc2961", func := "sallyport/sallyportlaw12.DescrParses", spec := "descrParses", unfollowed := true, recurses := true, apart := false, narrowed := true }
def DescrParsesUptoSaid : Prop := descrParsesUptoRow.holds Try.pinned (OpenSpec.upto descrParsesSpec)

/-- 'sallyportlaw12.DescrCuts', WHERE WHAT IT READS IS OF BULK AT MOST 1048576: true; the input reads as it did. -/
def descrCutsUptoRow : OpenClaim := { program := "ytgjbajjggmpmmaa", sum := "5826b4b6eed4dde675543d36bdecdea16b3f804c3d58ed345dad4ffdd7dc2961", func := "sallyport/sallyportlaw12.DescrCuts", spec := "descrCuts", unfollowed := true, recurses := true, apart := false, narrowed := true }
def DescrCutsUptoSaid : Prop := descrCutsUptoRow.holds Try.pinned (OpenSpec.upto descrCutsSpec)

/-- 'sallyportlaw12.DescrSizes', WHERE WHAT IT READS IS OF BULK AT MOST 1048576: true; the input reads as it did. -/
def descrSizesUptoRow : OpenClaim := { program := "ytgjbajjggmpmmaa", sum := "5826b4b6eed4dde675543d36bdecdea16b3f804c3d58ed345dad4ffdd7dc2961", func := "sallyport/sallyportlaw12.DescrSizes", spec := "descrSizes", unfollowed := true, recurses := true, apart := false, narrowed := true }
def DescrSizesUptoSaid : Prop := descrSizesUptoRow.holds Try.pinned (OpenSpec.upto descrSizesSpec)

/-- 'sallyportlaw12.DescrOwn', WHERE WHAT IT READS IS OF BULK AT MOST 1048576: true; the input reads as it did. -/
def descrOwnUptoRow : OpenClaim := { program := "ytgjbajjggmpmmaa", sum := "5826b4b6eed4dde675543d36bdecdea16b3f804c3d58ed345dad4ffdd7dc2961", func := "sallyport/sallyportlaw12.DescrOwn", spec := "descrOwn", unfollowed := true, recurses := true, apart := false, narrowed := true }
def DescrOwnUptoSaid : Prop := descrOwnUptoRow.holds Try.pinned (OpenSpec.upto descrOwnSpec)

end Rows
end Go.Proofs.Ytgjbajjggmpmmaa
