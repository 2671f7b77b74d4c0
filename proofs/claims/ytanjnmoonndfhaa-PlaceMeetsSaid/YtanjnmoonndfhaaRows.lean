/-
  No cell of these rows narrows 'for every input' (looked for: loops, veiled, ifaces, maps, wideKeys, modest, calm, conditions, laid).
  DERIVED. THE GIVEN ROWS OF THIS SEAT. 5 by the template 'for every input the law returns true; each argument reads behind the call as it read before'; 0 by the template 'total and deterministic' (their statements: YtanjnmoonndfhaaTotals.lean).
  GIVEN WITH THE SEED: the statements are not yours to turn. If you find one false, say at which input.
  Laid BY PROGRAM, IN A SANDBOX (cutbox-rows.mjs): the forced cells as the released guide's own fill.sh prints them over the translation 0617bf9de8f54e29… (all of the seat's roots in one cut). By AI agents, Wed Nov 11 2026. No macro, syntax, notation, axiom, sorry.
-/
import Derived.Test.YtanjnmoonndfhaaChecked
import GoSem.Claim
import GoSem.ClaimJoined
import GoSem.ClaimMapViews
import Derived.JoinedTies
import Derived.KernelRfl
namespace Go.Proofs.Ytanjnmoonndfhaa
/- THE CELL 'sum', in the pinned program and in every row, IS THE sha256 OF THE DUMP (.gsa) THAT YtanjnmoonndfhaaProg.lean LOADS. Nothing in Lean hashes anything: it is a label: what it is worth is what the hold of that sum in a sandbox is worth. -/
noncomputable def Try.pinned : Pinned := { name := "ytanjnmoonndfhaa", sum := "0617bf9de8f54e291482ed85355cf1ab0d973072a010b51a2f77a46394f03637", checked := Try.checked }
namespace Rows
def none {H : Type} : Left H := { results := [], args := [] }

/-- 'sallyportlaw08.PlaceCounts': WHATEVER THE INPUT: true; the input reads as it did. -/
def placeCountsSpec : ChangeSpec := { name := "placeCounts", fn := fun _ => fun
  | [d] => { results := [.lit (.bool true)], args := [d] }
  | _ => none }
def placeCountsRow : OpenClaim := { program := "ytanjnmoonndfhaa", sum := "0617bf9de8f54e291482ed85355cf1ab0d973072a010b51a2f77a46394f03637", func := "sallyport/sallyportlaw08.PlaceCounts", spec := "placeCounts", apart := false }
def PlaceCountsSaid : Prop := placeCountsRow.holds Try.pinned (OpenSpec.ofChange placeCountsSpec)

/-- ITS FALSE NEIGHBOUR: 'it returns false'. Refute it at one input. -/
def placeCountsWrong : ChangeSpec := { name := "placeCounts", fn := fun _ => fun
  | [d] => { results := [.lit (.bool false)], args := [d] }
  | _ => none }
def PlaceCountsWrongFalsely : Prop := placeCountsRow.holds Try.pinned (OpenSpec.ofChange placeCountsWrong)

/-- 'sallyportlaw08.PlaceGrows': WHATEVER THE INPUT: true; the input reads as it did. -/
def placeGrowsSpec : ChangeSpec := { name := "placeGrows", fn := fun _ => fun
  | [d1, d2] => { results := [.lit (.bool true)], args := [d1, d2] }
  | _ => none }
def placeGrowsRow : OpenClaim := { program := "ytanjnmoonndfhaa", sum := "0617bf9de8f54e291482ed85355cf1ab0d973072a010b51a2f77a46394f03637", func := "sallyport/sallyportlaw08.PlaceGrows", spec := "placeGrows", apart := false }
def PlaceGrowsSaid : Prop := placeGrowsRow.holds Try.pinned (OpenSpec.ofChange placeGrowsSpec)

/-- ITS FALSE NEIGHBOUR: 'it returns false'. Refute it at one input. -/
def placeGrowsWrong : ChangeSpec := { name := "placeGrows", fn := fun _ => fun
  | [d1, d2] => { results := [.lit (.bool false)], args := [d1, d2] }
  | _ => none }
def PlaceGrowsWrongFalsely : Prop := placeGrowsRow.holds Try.pinned (OpenSpec.ofChange placeGrowsWrong)

/-- 'sallyportlaw08.PlaceFills': WHATEVER THE INPUT: true; the input reads as it did. -/
def placeFillsSpec : ChangeSpec := { name := "placeFills", fn := fun _ => fun
  | [d] => { results := [.lit (.bool true)], args := [d] }
  | _ => none }
def placeFillsRow : OpenClaim := { program := "ytanjnmoonndfhaa", sum := "0617bf9de8f54e291482ed85355cf1ab0d973072a010b51a2f77a46394f03637", func := "sallyport/sallyportlaw08.PlaceFills", spec := "placeFills", apart := false }
def PlaceFillsSaid : Prop := placeFillsRow.holds Try.pinned (OpenSpec.ofChange placeFillsSpec)

/-- ITS FALSE NEIGHBOUR: 'it returns false'. Refute it at one input. -/
def placeFillsWrong : ChangeSpec := { name := "placeFills", fn := fun _ => fun
  | [d] => { results := [.lit (.bool false)], args := [d] }
  | _ => none }
def PlaceFillsWrongFalsely : Prop := placeFillsRow.holds Try.pinned (OpenSpec.ofChange placeFillsWrong)

/-- 'sallyportlaw08.PlacePaths': WHATEVER THE INPUT: true; the input reads as it did. -/
def placePathsSpec : ChangeSpec := { name := "placePaths", fn := fun _ => fun
  | [d1, d2] => { results := [.lit (.bool true)], args := [d1, d2] }
  | _ => none }
def placePathsRow : OpenClaim := { program := "ytanjnmoonndfhaa", sum := "0617bf9de8f54e291482ed85355cf1ab0d973072a010b51a2f77a46394f03637", func := "sallyport/sallyportlaw08.PlacePaths", spec := "placePaths", apart := false }
def PlacePathsSaid : Prop := placePathsRow.holds Try.pinned (OpenSpec.ofChange placePathsSpec)

/-- ITS FALSE NEIGHBOUR: 'it returns false'. Refute it at one input. -/
def placePathsWrong : ChangeSpec := { name := "placePaths", fn := fun _ => fun
  | [d1, d2] => { results := [.lit (.bool false)], args := [d1, d2] }
  | _ => none }
def PlacePathsWrongFalsely : Prop := placePathsRow.holds Try.pinned (OpenSpec.ofChange placePathsWrong)

/-- 'sallyportlaw08.PlaceMeets': WHATEVER THE INPUT: true; the input reads as it did. -/
def placeMeetsSpec : ChangeSpec := { name := "placeMeets", fn := fun _ => fun
  | [d1, d2, d3] => { results := [.lit (.bool true)], args := [d1, d2, d3] }
  | _ => none }
def placeMeetsRow : OpenClaim := { program := "ytanjnmoonndfhaa", sum := "0617bf9de8f54e291482ed85355cf1ab0d973072a010b51a2f77a46394f03637", func := "sallyport/sallyportlaw08.PlaceMeets", spec := "placeMeets", apart := false }
def PlaceMeetsSaid : Prop := placeMeetsRow.holds Try.pinned (OpenSpec.ofChange placeMeetsSpec)

/-- ITS FALSE NEIGHBOUR: 'it returns false'. Refute it at one input. -/
def placeMeetsWrong : ChangeSpec := { name := "placeMeets", fn := fun _ => fun
  | [d1, d2, d3] => { results := [.lit (.bool false)], args := [d1, d2, d3] }
  | _ => none }
def PlaceMeetsWrongFalsely : Prop := placeMeetsRow.holds Try.pinned (OpenSpec.ofChange placeMeetsWrong)

/- THE SECOND FORM. 'bulk': how many values and letters a reading holds, each counted each time it is reached (what is shared counts as often as it is met; a slice's spare places count too). A statement '..UptoSaid' is the law's where the arguments, and the package variables that the reading takes, are together of bulk at most 1048576: NARROWER than '..Said'. Prove '..Said' where nothing that the law and all that it calls make is longer than what came in: it says more and counts as full. Else prove '..UptoSaid'. A law counts once. -/
mutual
def uptoBulk {H : Type} : DataW H → Nat
  | .lit (.string bytes) => bytes.length + 1
  | .lit _ => 1
  | .nil => 1
  | .ptr d => uptoBulk d + 1
  | .slice elems spare => uptoBulkAll elems + uptoBulkAll spare + 1
  | .agg parts => uptoBulkAll parts + 1
  | .iface _ d => uptoBulk d + 1
  | .map entries => uptoBulkEntries entries + 1
  | .held _ => 1
def uptoBulkAll {H : Type} : List (DataW H) → Nat
  | [] => 0
  | d :: r => uptoBulk d + uptoBulkAll r
def uptoBulkEntries {H : Type} : List (Lit × DataW H) → Nat
  | [] => 0
  | x :: r => uptoBulkEntry x + uptoBulkEntries r
def uptoBulkEntry {H : Type} : Lit × DataW H → Nat
  | (.string bytes, d) => bytes.length + uptoBulk d + 1
  | (_, d) => uptoBulk d + 1
 end
def uptoSmall : (H : Type) → List (DataW H) → Bool := fun _ ds => decide (uptoBulkAll ds ≤ 1048576)
def OpenSpec.upto (s : _root_.Go.ChangeSpec) : _root_.Go.OpenSpec := { _root_.Go.OpenSpec.ofChange s with cond := some uptoSmall }

/-- 'sallyportlaw08.PlaceCounts', WHERE WHAT IT READS IS OF BULK AT MOST 1048576: true; the input reads as it did. -/
def placeCountsUptoRow : OpenClaim := { program := "ytanjnmoonndfhaa", sum := "0617bf9de8f54e291482ed85355cf1ab0d973072a010b51a2f77a46394f03637", func := "sallyport/sallyportlaw08.PlaceCounts", spec := "placeCounts", apart := false, narrowed := true }
def PlaceCountsUptoSaid : Prop := placeCountsUptoRow.holds Try.pinned (OpenSpec.upto placeCountsSpec)

/-- 'sallyportlaw08.PlaceGrows', WHERE WHAT IT READS IS OF BULK AT MOST 1048576: true; the input reads as it did. -/
def placeGrowsUptoRow : OpenClaim := { program := "ytanjnmoonndfhaa", sum := "0617bf9de8f54e291482ed85355cf1ab0d973072a010b51a2f77a46394f03637", func := "sallyport/sallyportlaw08.PlaceGrows", spec := "placeGrows", apart := false, narrowed := true }
def PlaceGrowsUptoSaid : Prop := placeGrowsUptoRow.holds Try.pinned (OpenSpec.upto placeGrowsSpec)

/-- 'sallyportlaw08.PlaceFills', WHERE WHAT IT READS IS OF BULK AT MOST 1048576: true; the input reads as it did. -/
def placeFillsUptoRow : OpenClaim := { program := "ytanjnmoonndfhaa", sum := "0617bf9de8f54e291482ed85355cf1ab0d973072a010b51a2f77a46394f03637", func := "sallyport/sallyportlaw08.PlaceFills", spec := "placeFills", apart := false, narrowed := true }
def PlaceFillsUptoSaid : Prop := placeFillsUptoRow.holds Try.pinned (OpenSpec.upto placeFillsSpec)

/-- 'sallyportlaw08.PlacePaths', WHERE WHAT IT READS IS OF BULK AT MOST 1048576: true; the input reads as it did. -/
def placePathsUptoRow : OpenClaim := { program := "ytanjnmoonndfhaa", sum := "0617bf9de8f54e291482ed85355cf1ab0d973072a010b51a2f77a46394f03637", func := "sallyport/sallyportlaw08.PlacePaths", spec := "placePaths", apart := false, narrowed := true }
def PlacePathsUptoSaid : Prop := placePathsUptoRow.holds Try.pinned (OpenSpec.upto placePathsSpec)

/-- 'sallyportlaw08.PlaceMeets', WHERE WHAT IT READS IS OF BULK AT MOST 1048576: true; the input reads as it did. -/
def placeMeetsUptoRow : OpenClaim := { program := "ytanjnmoonndfhaa", sum := "0617bf9de8f54e291482ed85355cf1ab0d973072a010b51a2f77a46394f03637", func := "sallyport/sallyportlaw08.PlaceMeets", spec := "placeMeets", apart := false, narrowed := true }
def PlaceMeetsUptoSaid : Prop := placeMeetsUptoRow.holds Try.pinned (OpenSpec.upto placeMeetsSpec)

end Rows
end Go.Proofs.Ytanjnmoonndfhaa
