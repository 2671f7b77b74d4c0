/-
  No cell of these rows narrows 'for every input' (looked for: loops, veiled, ifaces, maps, wideKeys, modest, calm, conditions, laid).
  DERIVED. THE GIVEN ROWS OF THIS SEAT. 6 by the template 'for every input the law returns true; each argument reads behind the call as it read before'; 0 by the template 'total and deterministic' (their statements: YtepjheacppoelaaTotals.lean).
  GIVEN WITH THE SEED: the statements are not yours to turn. If you find one false, say at which input.
  Laid BY PROGRAM, IN A SANDBOX (cutbox-rows.mjs): the forced cells as the released guide's own fill.sh prints them over the translation 663c438e8b940845… (all of the seat's roots in one cut). By AI agents, Wed Nov 11 2026. No macro, syntax, notation, axiom, sorry.
-/
import Derived.Test.YtepjheacppoelaaChecked
import GoSem.Claim
import GoSem.ClaimJoined
import GoSem.ClaimMapViews
import Derived.JoinedTies
import Derived.KernelRfl
namespace Go.Proofs.Ytepjheacppoelaa
/- THE CELL 'sum', in the pinned program and in every row, IS THE sha256 OF THE DUMP (.gsa) THAT YtepjheacppoelaaProg.lean LOADS. Nothing in Lean hashes anything: it is a label: what it is worth is what the hold of that sum in a sandbox is worth. -/
noncomputable def Try.pinned : Pinned := { name := "ytepjheacppoelaa", sum := "663c438e8b9408457923e03f0656c309902f89e852016d2d3d4fa434246916f7", checked := Try.checked }
namespace Rows
def none {H : Type} : Left H := { results := [], args := [] }

/-- 'sallyportlaw14.TailParses': WHATEVER THE INPUT: true; the input reads as it did. -/
def tailParsesSpec : ChangeSpec := { name := "tailParses", fn := fun _ => fun
  | [d] => { results := [.lit (.bool true)], args := [d] }
  | _ => none }
def tailParsesRow : OpenClaim := { program := "ytepjheacppoelaa", sum := "663c438e8b9408457923e03f0656c309902f89e852016d2d3d4fa434246916f7", func := "sallyport/sallyportlaw14.TailParses", spec := "tailParses", unfollowed := true, recurses := true, apart := false }
def TailParsesSaid : Prop := tailParsesRow.holds Try.pinned (OpenSpec.ofChange tailParsesSpec)

/-- ITS FALSE NEIGHBOUR: 'it returns false'. Refute it at one input. -/
def tailParsesWrong : ChangeSpec := { name := "tailParses", fn := fun _ => fun
  | [d] => { results := [.lit (.bool false)], args := [d] }
  | _ => none }
def TailParsesWrongFalsely : Prop := tailParsesRow.holds Try.pinned (OpenSpec.ofChange tailParsesWrong)

/-- 'sallyportlaw14.TailStores': WHATEVER THE INPUT: true; the input reads as it did. -/
def tailStoresSpec : ChangeSpec := { name := "tailStores", fn := fun _ => fun
  | [d1, d2, d3, d4] => { results := [.lit (.bool true)], args := [d1, d2, d3, d4] }
  | _ => none }
def tailStoresRow : OpenClaim := { program := "ytepjheacppoelaa", sum := "663c438e8b9408457923e03f0656c309902f89e852016d2d3d4fa434246916f7", func := "sallyport/sallyportlaw14.TailStores", spec := "tailStores", unfollowed := true, recurses := true, apart := false }
def TailStoresSaid : Prop := tailStoresRow.holds Try.pinned (OpenSpec.ofChange tailStoresSpec)

/-- ITS FALSE NEIGHBOUR: 'it returns false'. Refute it at one input. -/
def tailStoresWrong : ChangeSpec := { name := "tailStores", fn := fun _ => fun
  | [d1, d2, d3, d4] => { results := [.lit (.bool false)], args := [d1, d2, d3, d4] }
  | _ => none }
def TailStoresWrongFalsely : Prop := tailStoresRow.holds Try.pinned (OpenSpec.ofChange tailStoresWrong)

/-- 'sallyportlaw14.TailMoves': WHATEVER THE INPUT: true; the input reads as it did. -/
def tailMovesSpec : ChangeSpec := { name := "tailMoves", fn := fun _ => fun
  | [d1, d2] => { results := [.lit (.bool true)], args := [d1, d2] }
  | _ => none }
def tailMovesRow : OpenClaim := { program := "ytepjheacppoelaa", sum := "663c438e8b9408457923e03f0656c309902f89e852016d2d3d4fa434246916f7", func := "sallyport/sallyportlaw14.TailMoves", spec := "tailMoves", unfollowed := true, recurses := true, apart := false }
def TailMovesSaid : Prop := tailMovesRow.holds Try.pinned (OpenSpec.ofChange tailMovesSpec)

/-- ITS FALSE NEIGHBOUR: 'it returns false'. Refute it at one input. -/
def tailMovesWrong : ChangeSpec := { name := "tailMoves", fn := fun _ => fun
  | [d1, d2] => { results := [.lit (.bool false)], args := [d1, d2] }
  | _ => none }
def TailMovesWrongFalsely : Prop := tailMovesRow.holds Try.pinned (OpenSpec.ofChange tailMovesWrong)

/-- 'sallyportlaw14.TailTorn': WHATEVER THE INPUT: true; the input reads as it did. -/
def tailTornSpec : ChangeSpec := { name := "tailTorn", fn := fun _ => fun
  | [d1, d2, d3, d4] => { results := [.lit (.bool true)], args := [d1, d2, d3, d4] }
  | _ => none }
def tailTornRow : OpenClaim := { program := "ytepjheacppoelaa", sum := "663c438e8b9408457923e03f0656c309902f89e852016d2d3d4fa434246916f7", func := "sallyport/sallyportlaw14.TailTorn", spec := "tailTorn", unfollowed := true, recurses := true, apart := false }
def TailTornSaid : Prop := tailTornRow.holds Try.pinned (OpenSpec.ofChange tailTornSpec)

/-- ITS FALSE NEIGHBOUR: 'it returns false'. Refute it at one input. -/
def tailTornWrong : ChangeSpec := { name := "tailTorn", fn := fun _ => fun
  | [d1, d2, d3, d4] => { results := [.lit (.bool false)], args := [d1, d2, d3, d4] }
  | _ => none }
def TailTornWrongFalsely : Prop := tailTornRow.holds Try.pinned (OpenSpec.ofChange tailTornWrong)

/-- 'sallyportlaw14.TailEncodes': WHATEVER THE INPUT: true; the input reads as it did. -/
def tailEncodesSpec : ChangeSpec := { name := "tailEncodes", fn := fun _ => fun
  | [d] => { results := [.lit (.bool true)], args := [d] }
  | _ => none }
def tailEncodesRow : OpenClaim := { program := "ytepjheacppoelaa", sum := "663c438e8b9408457923e03f0656c309902f89e852016d2d3d4fa434246916f7", func := "sallyport/sallyportlaw14.TailEncodes", spec := "tailEncodes", unfollowed := true, recurses := true, apart := false }
def TailEncodesSaid : Prop := tailEncodesRow.holds Try.pinned (OpenSpec.ofChange tailEncodesSpec)

/-- ITS FALSE NEIGHBOUR: 'it returns false'. Refute it at one input. -/
def tailEncodesWrong : ChangeSpec := { name := "tailEncodes", fn := fun _ => fun
  | [d] => { results := [.lit (.bool false)], args := [d] }
  | _ => none }
def TailEncodesWrongFalsely : Prop := tailEncodesRow.holds Try.pinned (OpenSpec.ofChange tailEncodesWrong)

/-- 'sallyportlaw14.TailLoads': WHATEVER THE INPUT: true; the input reads as it did. -/
def tailLoadsSpec : ChangeSpec := { name := "tailLoads", fn := fun _ => fun
  | [d1, d2, d3, d4] => { results := [.lit (.bool true)], args := [d1, d2, d3, d4] }
  | _ => none }
def tailLoadsRow : OpenClaim := { program := "ytepjheacppoelaa", sum := "663c438e8b9408457923e03f0656c309902f89e852016d2d3d4fa434246916f7", func := "sallyport/sallyportlaw14.TailLoads", spec := "tailLoads", unfollowed := true, recurses := true, apart := false }
def TailLoadsSaid : Prop := tailLoadsRow.holds Try.pinned (OpenSpec.ofChange tailLoadsSpec)

/-- ITS FALSE NEIGHBOUR: 'it returns false'. Refute it at one input. -/
def tailLoadsWrong : ChangeSpec := { name := "tailLoads", fn := fun _ => fun
  | [d1, d2, d3, d4] => { results := [.lit (.bool false)], args := [d1, d2, d3, d4] }
  | _ => none }
def TailLoadsWrongFalsely : Prop := tailLoadsRow.holds Try.pinned (OpenSpec.ofChange tailLoadsWrong)

/- THE SECOND FORM. 'bulk': how many values and letters a reading holds, each counted each time it is reached (what is shared counts as often as it is met; a slice's spare places count too). A statement '..UptoSaid' is the law's where the arguments, and the package variables that the reading takes, are together of bulk at most 1048576: NARROWER than '..Said'. Prove '..Said' where nothing that the law and all that it calls make is longer than what came in: it says more and counts as full. Else prove '..UptoSaid'. A law counts once. -/
mutual
def uptoBulk {H : Type} : DataW H → Nat
  | .lit (.string bytes) => bytes.length + 1
  | .lit _ => 1
  | .nil => 1
  | .ptr d => uptoBulk d + 1
  | .slice elems spare => uptoBulkAll elems + uptoBulkAll spare + 1
  | .agg parts => uptoBulkAll parts + 1
  | .iface _ d => uptoBulk d + 1
  | .map entries => uptoBulkEntries entries + 1
  | .held _ => 1
def uptoBulkAll {H : Type} : List (DataW H) → Nat
  | [] => 0
  | d :: r => uptoBulk d + uptoBulkAll r
def uptoBulkEntries {H : Type} : List (Lit × DataW H) → Nat
  | [] => 0
  | x :: r => uptoBulkEntry x + uptoBulkEntries r
def uptoBulkEntry {H : Type} : Lit × DataW H → Nat
  | (.string bytes, d) => bytes.length + uptoBulk d + 1
  | (_, d) => uptoBulk d + 1
 end
def uptoSmall : (H : Type) → List (DataW H) → Bool := fun _ ds => decide (uptoBulkAll ds ≤ 1048576)
def OpenSpec.upto (s : _root_.Go.ChangeSpec) : _root_.Go.OpenSpec := { _root_.Go.OpenSpec.ofChange s with cond := some uptoSmall }

/-- 'sallyportlaw14.TailParses', WHERE WHAT IT READS IS OF BULK AT MOST 1048576: true; the input reads as it did. -/
def tailParsesUptoRow : OpenClaim := { program := "ytepjheacppoelaa", sum := "663c438e8b9408457923e03f0656c309902f89e852016d2d3d4fa434246916f7", func := "sallyport/sallyportlaw14.TailParses", spec := "tailParses", unfollowed := true, recurses := true, apart := false, narrowed := true }
def TailParsesUptoSaid : Prop := tailParsesUptoRow.holds Try.pinned (OpenSpec.upto tailParsesSpec)

/-- 'sallyportlaw14.TailStores', WHERE WHAT IT READS IS OF BULK AT MOST 1048576: true; the input reads as it did. -/
def tailStoresUptoRow : OpenClaim := { program := "ytepjheacppoelaa", sum := "663c438e8b9408457923e03f0656c309902f89e852016d2d3d4fa434246916f7", func := "sallyport/sallyportlaw14.TailStores", spec := "tailStores", unfollowed := true, recurses := true, apart := false, narrowed := true }
def TailStoresUptoSaid : Prop := tailStoresUptoRow.holds Try.pinned (OpenSpec.upto tailStoresSpec)

/-- 'sallyportlaw14.TailMoves', WHERE WHAT IT READS IS OF BULK AT MOST 1048576: true; the input reads as it did. -/
def tailMovesUptoRow : OpenClaim := { program := "ytepjheacppoelaa", sum := "663c438e8b9408457923e03f0656c309902f89e852016d2d3d4fa434246916f7", func := "sallyport/sallyportlaw14.TailMoves", spec := "tailMoves", unfollowed := true, recurses := true, apart := false, narrowed := true }
def TailMovesUptoSaid : Prop := tailMovesUptoRow.holds Try.pinned (OpenSpec.upto tailMovesSpec)

/-- 'sallyportlaw14.TailTorn', WHERE WHAT IT READS IS OF BULK AT MOST 1048576: true; the input reads as it did. -/
def tailTornUptoRow : OpenClaim := { program := "ytepjheacppoelaa", sum := "663c438e8b9408457923e03f0656c309902f89e852016d2d3d4fa434246916f7", func := "sallyport/sallyportlaw14.TailTorn", spec := "tailTorn", unfollowed := true, recurses := true, apart := false, narrowed := true }
def TailTornUptoSaid : Prop := tailTornUptoRow.holds Try.pinned (OpenSpec.upto tailTornSpec)

/-- 'sallyportlaw14.TailEncodes', WHERE WHAT IT READS IS OF BULK AT MOST 1048576: true; the input reads as it did. -/
def tailEncodesUptoRow : OpenClaim := { program := "ytepjheacppoelaa", sum := "663c438e8b9408457923e03f0656c309902f89e852016d2d3d4fa434246916f7", func := "sallyport/sallyportlaw14.TailEncodes", spec := "tailEncodes", unfollowed := true, recurses := true, apart := false, narrowed := true }
def TailEncodesUptoSaid : Prop := tailEncodesUptoRow.holds Try.pinned (OpenSpec.upto tailEncodesSpec)

/-- 'sallyportlaw14.TailLoads', WHERE WHAT IT READS IS OF BULK AT MOST 1048576: true; the input reads as it did. -/
def tailLoadsUptoRow : OpenClaim := { program := "ytepjheacppoelaa", sum := "663c438e8b9408457923e03f0656c309902f89e852016d2d3d4fa434246916f7", func := "sallyport/sallyportlaw14.TailLoads", spec := "tailLoads", unfollowed := true, recurses := true, apart := false, narrowed := true }
def TailLoadsUptoSaid : Prop := tailLoadsUptoRow.holds Try.pinned (OpenSpec.upto tailLoadsSpec)

end Rows
end Go.Proofs.Ytepjheacppoelaa
