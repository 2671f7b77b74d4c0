/-
  No cell of these rows narrows 'for every input' (looked for: loops, veiled, ifaces, maps, wideKeys, modest, calm, conditions, laid).
  DERIVED. THE GIVEN ROWS OF THIS SEAT. 8 by the template 'for every input the law returns true; each argument reads behind the call as it read before'; 0 by the template 'total and deterministic' (their statements: YtmmhnlojldedbaaTotals.lean).
  GIVEN WITH THE SEED: the statements are not yours to turn. If you find one false, say at which input.
  Laid BY PROGRAM, IN A SANDBOX (cutbox-rows.mjs): the forced cells as the released guide's own fill.sh prints them over the translation 523a968484459a2c… (all of the seat's roots in one cut). By AI agents, Wed Nov 11 2026. No macro, syntax, notation, axiom, sorry.
-/
import Derived.Test.YtmmhnlojldedbaaChecked
import GoSem.Claim
import GoSem.ClaimJoined
import GoSem.ClaimMapViews
import Derived.JoinedTies
import Derived.KernelRfl
namespace Go.Proofs.Ytmmhnlojldedbaa
/- THE CELL 'sum', in the pinned program and in every row, IS THE sha256 OF THE DUMP (.gsa) THAT YtmmhnlojldedbaaProg.lean LOADS. Nothing in Lean hashes anything: it is a label: what it is worth is what the hold of that sum in a sandbox is worth. -/
noncomputable def Try.pinned : Pinned := { name := "ytmmhnlojldedbaa", sum := "523a968484459a2c731ac3028fe94879f93603e4df5791854b048bcd51349336", checked := Try.checked }
namespace Rows
def none {H : Type} : Left H := { results := [], args := [] }

/-- 'sallyportlaw01.SpanAligns': WHATEVER THE INPUT: true; the input reads as it did. -/
def spanAlignsSpec : ChangeSpec := { name := "spanAligns", fn := fun _ => fun
  | [d1, d2] => { results := [.lit (.bool true)], args := [d1, d2] }
  | _ => none }
def spanAlignsRow : OpenClaim := { program := "ytmmhnlojldedbaa", sum := "523a968484459a2c731ac3028fe94879f93603e4df5791854b048bcd51349336", func := "sallyport/sallyportlaw01.SpanAligns", spec := "spanAligns", apart := false }
def SpanAlignsSaid : Prop := spanAlignsRow.holds Try.pinned (OpenSpec.ofChange spanAlignsSpec)

/-- ITS FALSE NEIGHBOUR: 'it returns false'. Refute it at one input. -/
def spanAlignsWrong : ChangeSpec := { name := "spanAligns", fn := fun _ => fun
  | [d1, d2] => { results := [.lit (.bool false)], args := [d1, d2] }
  | _ => none }
def SpanAlignsWrongFalsely : Prop := spanAlignsRow.holds Try.pinned (OpenSpec.ofChange spanAlignsWrong)

/-- 'sallyportlaw01.SpanOrder': WHATEVER THE INPUT: true; the input reads as it did. -/
def spanOrderSpec : ChangeSpec := { name := "spanOrder", fn := fun _ => fun
  | [d1, d2, d3] => { results := [.lit (.bool true)], args := [d1, d2, d3] }
  | _ => none }
def spanOrderRow : OpenClaim := { program := "ytmmhnlojldedbaa", sum := "523a968484459a2c731ac3028fe94879f93603e4df5791854b048bcd51349336", func := "sallyport/sallyportlaw01.SpanOrder", spec := "spanOrder", apart := false }
def SpanOrderSaid : Prop := spanOrderRow.holds Try.pinned (OpenSpec.ofChange spanOrderSpec)

/-- ITS FALSE NEIGHBOUR: 'it returns false'. Refute it at one input. -/
def spanOrderWrong : ChangeSpec := { name := "spanOrder", fn := fun _ => fun
  | [d1, d2, d3] => { results := [.lit (.bool false)], args := [d1, d2, d3] }
  | _ => none }
def SpanOrderWrongFalsely : Prop := spanOrderRow.holds Try.pinned (OpenSpec.ofChange spanOrderWrong)

/-- 'sallyportlaw01.SpanCuts': WHATEVER THE INPUT: true; the input reads as it did. -/
def spanCutsSpec : ChangeSpec := { name := "spanCuts", fn := fun _ => fun
  | [d1, d2, d3, d4] => { results := [.lit (.bool true)], args := [d1, d2, d3, d4] }
  | _ => none }
def spanCutsRow : OpenClaim := { program := "ytmmhnlojldedbaa", sum := "523a968484459a2c731ac3028fe94879f93603e4df5791854b048bcd51349336", func := "sallyport/sallyportlaw01.SpanCuts", spec := "spanCuts", apart := false }
def SpanCutsSaid : Prop := spanCutsRow.holds Try.pinned (OpenSpec.ofChange spanCutsSpec)

/-- ITS FALSE NEIGHBOUR: 'it returns false'. Refute it at one input. -/
def spanCutsWrong : ChangeSpec := { name := "spanCuts", fn := fun _ => fun
  | [d1, d2, d3, d4] => { results := [.lit (.bool false)], args := [d1, d2, d3, d4] }
  | _ => none }
def SpanCutsWrongFalsely : Prop := spanCutsRow.holds Try.pinned (OpenSpec.ofChange spanCutsWrong)

/-- 'sallyportlaw01.SpanParts': WHATEVER THE INPUT: true; the input reads as it did. -/
def spanPartsSpec : ChangeSpec := { name := "spanParts", fn := fun _ => fun
  | [d1, d2, d3, d4, d5] => { results := [.lit (.bool true)], args := [d1, d2, d3, d4, d5] }
  | _ => none }
def spanPartsRow : OpenClaim := { program := "ytmmhnlojldedbaa", sum := "523a968484459a2c731ac3028fe94879f93603e4df5791854b048bcd51349336", func := "sallyport/sallyportlaw01.SpanParts", spec := "spanParts", apart := false }
def SpanPartsSaid : Prop := spanPartsRow.holds Try.pinned (OpenSpec.ofChange spanPartsSpec)

/-- ITS FALSE NEIGHBOUR: 'it returns false'. Refute it at one input. -/
def spanPartsWrong : ChangeSpec := { name := "spanParts", fn := fun _ => fun
  | [d1, d2, d3, d4, d5] => { results := [.lit (.bool false)], args := [d1, d2, d3, d4, d5] }
  | _ => none }
def SpanPartsWrongFalsely : Prop := spanPartsRow.holds Try.pinned (OpenSpec.ofChange spanPartsWrong)

/-- 'sallyportlaw01.SpanGets': WHATEVER THE INPUT: true; the input reads as it did. -/
def spanGetsSpec : ChangeSpec := { name := "spanGets", fn := fun _ => fun
  | [d1, d2, d3] => { results := [.lit (.bool true)], args := [d1, d2, d3] }
  | _ => none }
def spanGetsRow : OpenClaim := { program := "ytmmhnlojldedbaa", sum := "523a968484459a2c731ac3028fe94879f93603e4df5791854b048bcd51349336", func := "sallyport/sallyportlaw01.SpanGets", spec := "spanGets", apart := false }
def SpanGetsSaid : Prop := spanGetsRow.holds Try.pinned (OpenSpec.ofChange spanGetsSpec)

/-- ITS FALSE NEIGHBOUR: 'it returns false'. Refute it at one input. -/
def spanGetsWrong : ChangeSpec := { name := "spanGets", fn := fun _ => fun
  | [d1, d2, d3] => { results := [.lit (.bool false)], args := [d1, d2, d3] }
  | _ => none }
def SpanGetsWrongFalsely : Prop := spanGetsRow.holds Try.pinned (OpenSpec.ofChange spanGetsWrong)

/-- 'sallyportlaw01.SpanPuts': WHATEVER THE INPUT: true; the input reads as it did. -/
def spanPutsSpec : ChangeSpec := { name := "spanPuts", fn := fun _ => fun
  | [d1, d2, d3] => { results := [.lit (.bool true)], args := [d1, d2, d3] }
  | _ => none }
def spanPutsRow : OpenClaim := { program := "ytmmhnlojldedbaa", sum := "523a968484459a2c731ac3028fe94879f93603e4df5791854b048bcd51349336", func := "sallyport/sallyportlaw01.SpanPuts", spec := "spanPuts", apart := false }
def SpanPutsSaid : Prop := spanPutsRow.holds Try.pinned (OpenSpec.ofChange spanPutsSpec)

/-- ITS FALSE NEIGHBOUR: 'it returns false'. Refute it at one input. -/
def spanPutsWrong : ChangeSpec := { name := "spanPuts", fn := fun _ => fun
  | [d1, d2, d3] => { results := [.lit (.bool false)], args := [d1, d2, d3] }
  | _ => none }
def SpanPutsWrongFalsely : Prop := spanPutsRow.holds Try.pinned (OpenSpec.ofChange spanPutsWrong)

/-- 'sallyportlaw01.SpanRows': WHATEVER THE INPUT: true; the input reads as it did. -/
def spanRowsSpec : ChangeSpec := { name := "spanRows", fn := fun _ => fun
  | [d] => { results := [.lit (.bool true)], args := [d] }
  | _ => none }
def spanRowsRow : OpenClaim := { program := "ytmmhnlojldedbaa", sum := "523a968484459a2c731ac3028fe94879f93603e4df5791854b048bcd51349336", func := "sallyport/sallyportlaw01.SpanRows", spec := "spanRows", apart := false }
def SpanRowsSaid : Prop := spanRowsRow.holds Try.pinned (OpenSpec.ofChange spanRowsSpec)

/-- ITS FALSE NEIGHBOUR: 'it returns false'. Refute it at one input. -/
def spanRowsWrong : ChangeSpec := { name := "spanRows", fn := fun _ => fun
  | [d] => { results := [.lit (.bool false)], args := [d] }
  | _ => none }
def SpanRowsWrongFalsely : Prop := spanRowsRow.holds Try.pinned (OpenSpec.ofChange spanRowsWrong)

/-- 'sallyportlaw01.SpanPads': WHATEVER THE INPUT: true; the input reads as it did. -/
def spanPadsSpec : ChangeSpec := { name := "spanPads", fn := fun _ => fun
  | [d1, d2] => { results := [.lit (.bool true)], args := [d1, d2] }
  | _ => none }
def spanPadsRow : OpenClaim := { program := "ytmmhnlojldedbaa", sum := "523a968484459a2c731ac3028fe94879f93603e4df5791854b048bcd51349336", func := "sallyport/sallyportlaw01.SpanPads", spec := "spanPads", unfollowed := true, recurses := true, apart := false }
def SpanPadsSaid : Prop := spanPadsRow.holds Try.pinned (OpenSpec.ofChange spanPadsSpec)

/-- ITS FALSE NEIGHBOUR: 'it returns false'. Refute it at one input. -/
def spanPadsWrong : ChangeSpec := { name := "spanPads", fn := fun _ => fun
  | [d1, d2] => { results := [.lit (.bool false)], args := [d1, d2] }
  | _ => none }
def SpanPadsWrongFalsely : Prop := spanPadsRow.holds Try.pinned (OpenSpec.ofChange spanPadsWrong)

/- THE SECOND FORM. 'bulk': how many values and letters a reading holds, each counted each time it is reached (what is shared counts as often as it is met; a slice's spare places count too). A statement '..UptoSaid' is the law's where the arguments, and the package variables that the reading takes, are together of bulk at most 1048576: NARROWER than '..Said'. Prove '..Said' where nothing that the law and all that it calls make is longer than what came in: it says more and counts as full. Else prove '..UptoSaid'. A law counts once. -/
mutual
def uptoBulk {H : Type} : DataW H → Nat
  | .lit (.string bytes) => bytes.length + 1
  | .lit _ => 1
  | .nil => 1
  | .ptr d => uptoBulk d + 1
  | .slice elems spare => uptoBulkAll elems + uptoBulkAll spare + 1
  | .agg parts => uptoBulkAll parts + 1
  | .iface _ d => uptoBulk d + 1
  | .map entries => uptoBulkEntries entries + 1
  | .held _ => 1
def uptoBulkAll {H : Type} : List (DataW H) → Nat
  | [] => 0
  | d :: r => uptoBulk d + uptoBulkAll r
def uptoBulkEntries {H : Type} : List (Lit × DataW H) → Nat
  | [] => 0
  | x :: r => uptoBulkEntry x + uptoBulkEntries r
def uptoBulkEntry {H : Type} : Lit × DataW H → Nat
  | (.string bytes, d) => bytes.length + uptoBulk d + 1
  | (_, d) => uptoBulk d + 1
 end
def uptoSmall : (H : Type) → List (DataW H) → Bool := fun _ ds => decide (uptoBulkAll ds ≤ 1048576)
def OpenSpec.upto (s : _root_.Go.ChangeSpec) : _root_.Go.OpenSpec := { _root_.Go.OpenSpec.ofChange s with cond := some uptoSmall }

/-- 'sallyportlaw01.SpanAligns', WHERE WHAT IT READS IS OF BULK AT MOST 1048576: true; the input reads as it did. -/
def spanAlignsUptoRow : OpenClaim := { program := "ytmmhnlojldedbaa", sum := "523a968484459a2c731ac3028fe94879f93603e4df5791854b048bcd51349336", func := "sallyport/sallyportlaw01.SpanAligns", spec := "spanAligns", apart := false, narrowed := true }
def SpanAlignsUptoSaid : Prop := spanAlignsUptoRow.holds Try.pinned (OpenSpec.upto spanAlignsSpec)

/-- 'sallyportlaw01.SpanOrder', WHERE WHAT IT READS IS OF BULK AT MOST 1048576: true; the input reads as it did. -/
def spanOrderUptoRow : OpenClaim := { program := "ytmmhnlojldedbaa", sum := "523a968484459a2c731ac3028fe94879f93603e4df5791854b048bcd51349336", func := "sallyport/sallyportlaw01.SpanOrder", spec := "spanOrder", apart := false, narrowed := true }
def SpanOrderUptoSaid : Prop := spanOrderUptoRow.holds Try.pinned (OpenSpec.upto spanOrderSpec)

/-- 'sallyportlaw01.SpanCuts', WHERE WHAT IT READS IS OF BULK AT MOST 1048576: true; the input reads as it did. -/
def spanCutsUptoRow : OpenClaim := { program := "ytmmhnlojldedbaa", sum := "523a968484459a2c731ac3028fe94879f93603e4df5791854b048bcd51349336", func := "sallyport/sallyportlaw01.SpanCuts", spec := "spanCuts", apart := false, narrowed := true }
def SpanCutsUptoSaid : Prop := spanCutsUptoRow.holds Try.pinned (OpenSpec.upto spanCutsSpec)

/-- 'sallyportlaw01.SpanParts', WHERE WHAT IT READS IS OF BULK AT MOST 1048576: true; the input reads as it did. -/
def spanPartsUptoRow : OpenClaim := { program := "ytmmhnlojldedbaa", sum := "523a968484459a2c731ac3028fe94879f93603e4df5791854b048bcd51349336", func := "sallyport/sallyportlaw01.SpanParts", spec := "spanParts", apart := false, narrowed := true }
def SpanPartsUptoSaid : Prop := spanPartsUptoRow.holds Try.pinned (OpenSpec.upto spanPartsSpec)

/-- 'sallyportlaw01.SpanGets', WHERE WHAT IT READS IS OF BULK AT MOST 1048576: true; the input reads as it did. -/
def spanGetsUptoRow : OpenClaim := { program := "ytmmhnlojldedbaa", sum := "523a968484459a2c731ac3028fe94879f93603e4df5791854b048bcd51349336", func := "sallyport/sallyportlaw01.SpanGets", spec := "spanGets", apart := false, narrowed := true }
def SpanGetsUptoSaid : Prop := spanGetsUptoRow.holds Try.pinned (OpenSpec.upto spanGetsSpec)

/-- 'sallyportlaw01.SpanPuts', WHERE WHAT IT READS IS OF BULK AT MOST 1048576: true; the input reads as it did. -/
def spanPutsUptoRow : OpenClaim := { program := "ytmmhnlojldedbaa", sum := "523a968484459a2c731ac3028fe94879f93603e4df5791854b048bcd51349336", func := "sallyport/sallyportlaw01.SpanPuts", spec := "spanPuts", apart := false, narrowed := true }
def SpanPutsUptoSaid : Prop := spanPutsUptoRow.holds Try.pinned (OpenSpec.upto spanPutsSpec)

/-- 'sallyportlaw01.SpanRows', WHERE WHAT IT READS IS OF BULK AT MOST 1048576: true; the input reads as it did. -/
def spanRowsUptoRow : OpenClaim := { program := "ytmmhnlojldedbaa", sum := "523a968484459a2c731ac3028fe94879f93603e4df5791854b048bcd51349336", func := "sallyport/sallyportlaw01.SpanRows", spec := "spanRows", apart := false, narrowed := true }
def SpanRowsUptoSaid : Prop := spanRowsUptoRow.holds Try.pinned (OpenSpec.upto spanRowsSpec)

/-- 'sallyportlaw01.SpanPads', WHERE WHAT IT READS IS OF BULK AT MOST 1048576: true; the input reads as it did. -/
def spanPadsUptoRow : OpenClaim := { program := "ytmmhnlojldedbaa", sum := "523a968484459a2c731ac3028fe94879f93603e4df5791854b048bcd51349336", func := "sallyport/sallyportlaw01.SpanPads", spec := "spanPads", unfollowed := true, recurses := true, apart := false, narrowed := true }
def SpanPadsUptoSaid : Prop := spanPadsUptoRow.holds Try.pinned (OpenSpec.upto spanPadsSpec)

end Rows
end Go.Proofs.Ytmmhnlojldedbaa
