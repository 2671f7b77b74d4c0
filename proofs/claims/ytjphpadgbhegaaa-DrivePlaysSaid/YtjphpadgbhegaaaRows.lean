/-
  No cell of these rows narrows 'for every input' (looked for: loops, veiled, ifaces, maps, wideKeys, modest, calm, conditions, laid).
  DERIVED. THE GIVEN ROWS OF THIS SEAT. 5 by the template 'for every input the law returns true; each argument reads behind the call as it read before'; 0 by the template 'total and deterministic' (their statements: YtjphpadgbhegaaaTotals.lean).
  GIVEN WITH THE SEED: the statements are not yours to turn. If you find one false, say at which input.
  Laid BY PROGRAM, IN A SANDBOX (cutbox-rows.mjs): the forced cells as the released guide's own fill.sh prints them over the translation 956f8c0b0a034aa2… (all of the seat's roots in one cut). By AI agents, Wed Nov 11 2026. No macro, syntax, notation, axiom, sorry.
-/
import Derived.Test.YtjphpadgbhegaaaChecked
import GoSem.Claim
import GoSem.ClaimJoined
import GoSem.ClaimMapViews
import Derived.JoinedTies
import Derived.KernelRfl
namespace Go.Proofs.Ytjphpadgbhegaaa
/- THE CELL 'sum', in the pinned program and in every row, IS THE sha256 OF THE DUMP (.gsa) THAT YtjphpadgbhegaaaProg.lean LOADS. Nothing in Lean hashes anything: it is a label: what it is worth is what the hold of that sum in a sandbox is worth. -/
noncomputable def Try.pinned : Pinned := { name := "ytjphpadgbhegaaa", sum := "956f8c0b0a034aa22a342ea052d43a1ae3ca169f725ccea4d807036ddab2d83c", checked := Try.checked }
namespace Rows
def none {H : Type} : Left H := { results := [], args := [] }

/-- 'sallyportlaw10.DriveTears': WHATEVER THE INPUT: true; the input reads as it did. -/
def driveTearsSpec : ChangeSpec := { name := "driveTears", fn := fun _ => fun
  | [d1, d2, d3, d4] => { results := [.lit (.bool true)], args := [d1, d2, d3, d4] }
  | _ => none }
def driveTearsRow : OpenClaim := { program := "ytjphpadgbhegaaa", sum := "956f8c0b0a034aa22a342ea052d43a1ae3ca169f725ccea4d807036ddab2d83c", func := "sallyport/sallyportlaw10.DriveTears", spec := "driveTears", unfollowed := true, recurses := true, apart := false }
def DriveTearsSaid : Prop := driveTearsRow.holds Try.pinned (OpenSpec.ofChange driveTearsSpec)

/-- ITS FALSE NEIGHBOUR: 'it returns false'. Refute it at one input. -/
def driveTearsWrong : ChangeSpec := { name := "driveTears", fn := fun _ => fun
  | [d1, d2, d3, d4] => { results := [.lit (.bool false)], args := [d1, d2, d3, d4] }
  | _ => none }
def DriveTearsWrongFalsely : Prop := driveTearsRow.holds Try.pinned (OpenSpec.ofChange driveTearsWrong)

/-- 'sallyportlaw10.DriveCounts': WHATEVER THE INPUT: true; the input reads as it did. -/
def driveCountsSpec : ChangeSpec := { name := "driveCounts", fn := fun _ => fun
  | [d1, d2] => { results := [.lit (.bool true)], args := [d1, d2] }
  | _ => none }
def driveCountsRow : OpenClaim := { program := "ytjphpadgbhegaaa", sum := "956f8c0b0a034aa22a342ea052d43a1ae3ca169f725ccea4d807036ddab2d83c", func := "sallyport/sallyportlaw10.DriveCounts", spec := "driveCounts", unfollowed := true, recurses := true, apart := false }
def DriveCountsSaid : Prop := driveCountsRow.holds Try.pinned (OpenSpec.ofChange driveCountsSpec)

/-- ITS FALSE NEIGHBOUR: 'it returns false'. Refute it at one input. -/
def driveCountsWrong : ChangeSpec := { name := "driveCounts", fn := fun _ => fun
  | [d1, d2] => { results := [.lit (.bool false)], args := [d1, d2] }
  | _ => none }
def DriveCountsWrongFalsely : Prop := driveCountsRow.holds Try.pinned (OpenSpec.ofChange driveCountsWrong)

/-- 'sallyportlaw10.DriveTwice': WHATEVER THE INPUT: true; the input reads as it did. -/
def driveTwiceSpec : ChangeSpec := { name := "driveTwice", fn := fun _ => fun
  | [d1, d2, d3, d4] => { results := [.lit (.bool true)], args := [d1, d2, d3, d4] }
  | _ => none }
def driveTwiceRow : OpenClaim := { program := "ytjphpadgbhegaaa", sum := "956f8c0b0a034aa22a342ea052d43a1ae3ca169f725ccea4d807036ddab2d83c", func := "sallyport/sallyportlaw10.DriveTwice", spec := "driveTwice", unfollowed := true, recurses := true, apart := false }
def DriveTwiceSaid : Prop := driveTwiceRow.holds Try.pinned (OpenSpec.ofChange driveTwiceSpec)

/-- ITS FALSE NEIGHBOUR: 'it returns false'. Refute it at one input. -/
def driveTwiceWrong : ChangeSpec := { name := "driveTwice", fn := fun _ => fun
  | [d1, d2, d3, d4] => { results := [.lit (.bool false)], args := [d1, d2, d3, d4] }
  | _ => none }
def DriveTwiceWrongFalsely : Prop := driveTwiceRow.holds Try.pinned (OpenSpec.ofChange driveTwiceWrong)

/-- 'sallyportlaw10.DriveApart': WHATEVER THE INPUT: true; the input reads as it did. -/
def driveApartSpec : ChangeSpec := { name := "driveApart", fn := fun _ => fun
  | [d1, d2] => { results := [.lit (.bool true)], args := [d1, d2] }
  | _ => none }
def driveApartRow : OpenClaim := { program := "ytjphpadgbhegaaa", sum := "956f8c0b0a034aa22a342ea052d43a1ae3ca169f725ccea4d807036ddab2d83c", func := "sallyport/sallyportlaw10.DriveApart", spec := "driveApart", unfollowed := true, recurses := true, apart := false }
def DriveApartSaid : Prop := driveApartRow.holds Try.pinned (OpenSpec.ofChange driveApartSpec)

/-- ITS FALSE NEIGHBOUR: 'it returns false'. Refute it at one input. -/
def driveApartWrong : ChangeSpec := { name := "driveApart", fn := fun _ => fun
  | [d1, d2] => { results := [.lit (.bool false)], args := [d1, d2] }
  | _ => none }
def DriveApartWrongFalsely : Prop := driveApartRow.holds Try.pinned (OpenSpec.ofChange driveApartWrong)

/-- 'sallyportlaw10.DrivePlays': WHATEVER THE INPUT: true; the input reads as it did. -/
def drivePlaysSpec : ChangeSpec := { name := "drivePlays", fn := fun _ => fun
  | [d1, d2] => { results := [.lit (.bool true)], args := [d1, d2] }
  | _ => none }
def drivePlaysRow : OpenClaim := { program := "ytjphpadgbhegaaa", sum := "956f8c0b0a034aa22a342ea052d43a1ae3ca169f725ccea4d807036ddab2d83c", func := "sallyport/sallyportlaw10.DrivePlays", spec := "drivePlays", unfollowed := true, recurses := true, apart := false }
def DrivePlaysSaid : Prop := drivePlaysRow.holds Try.pinned (OpenSpec.ofChange drivePlaysSpec)

/-- ITS FALSE NEIGHBOUR: 'it returns false'. Refute it at one input. -/
def drivePlaysWrong : ChangeSpec := { name := "drivePlays", fn := fun _ => fun
  | [d1, d2] => { results := [.lit (.bool false)], args := [d1, d2] }
  | _ => none }
def DrivePlaysWrongFalsely : Prop := drivePlaysRow.holds Try.pinned (OpenSpec.ofChange drivePlaysWrong)

/- THE SECOND FORM. 'bulk': how many values and letters a reading holds, each counted each time it is reached (what is shared counts as often as it is met; a slice's spare places count too). A statement '..UptoSaid' is the law's where the arguments, and the package variables that the reading takes, are together of bulk at most 1048576: NARROWER than '..Said'. Prove '..Said' where nothing that the law and all that it calls make is longer than what came in: it says more and counts as full. Else prove '..UptoSaid'. A law counts once. -/
mutual
def uptoBulk {H : Type} : DataW H → Nat
  | .lit (.string bytes) => bytes.length + 1
  | .lit _ => 1
  | .nil => 1
  | .ptr d => uptoBulk d + 1
  | .slice elems spare => uptoBulkAll elems + uptoBulkAll spare + 1
  | .agg parts => uptoBulkAll parts + 1
  | .iface _ d => uptoBulk d + 1
  | .map entries => uptoBulkEntries entries + 1
  | .held _ => 1
def uptoBulkAll {H : Type} : List (DataW H) → Nat
  | [] => 0
  | d :: r => uptoBulk d + uptoBulkAll r
def uptoBulkEntries {H : Type} : List (Lit × DataW H) → Nat
  | [] => 0
  | x :: r => uptoBulkEntry x + uptoBulkEntries r
def uptoBulkEntry {H : Type} : Lit × DataW H → Nat
  | (.string bytes, d) => bytes.length + uptoBulk d + 1
  | (_, d) => uptoBulk d + 1
 end
def uptoSmall : (H : Type) → List (DataW H) → Bool := fun _ ds => decide (uptoBulkAll ds ≤ 1048576)
def OpenSpec.upto (s : _root_.Go.ChangeSpec) : _root_.Go.OpenSpec := { _root_.Go.OpenSpec.ofChange s with cond := some uptoSmall }

/-- 'sallyportlaw10.DriveTears', WHERE WHAT IT READS IS OF BULK AT MOST 1048576: true; the input reads as it did. -/
def driveTearsUptoRow : OpenClaim := { program := "ytjphpadgbhegaaa", sum := "956f8c0b0a034aa22a342ea052d43a1ae3ca169f725ccea4d807036ddab2d83c", func := "sallyport/sallyportlaw10.DriveTears", spec := "driveTears", unfollowed := true, recurses := true, apart := false, narrowed := true }
def DriveTearsUptoSaid : Prop := driveTearsUptoRow.holds Try.pinned (OpenSpec.upto driveTearsSpec)

/-- 'sallyportlaw10.DriveCounts', WHERE WHAT IT READS IS OF BULK AT MOST 1048576: true; the input reads as it did. -/
def driveCountsUptoRow : OpenClaim := { program := "ytjphpadgbhegaaa", sum := "956f8c0b0a034aa22a342ea052d43a1ae3ca169f725ccea4d807036ddab2d83c", func := "sallyport/sallyportlaw10.DriveCounts", spec := "driveCounts", unfollowed := true, recurses := true, apart := false, narrowed := true }
def DriveCountsUptoSaid : Prop := driveCountsUptoRow.holds Try.pinned (OpenSpec.upto driveCountsSpec)

/-- 'sallyportlaw10.DriveTwice', WHERE WHAT IT READS IS OF BULK AT MOST 1048576: true; the input reads as it did. -/
def driveTwiceUptoRow : OpenClaim := { program := "ytjphpadgbhegaaa", sum := "956f8c0b0a034aa22a342ea052d43a1ae3ca169f725ccea4d807036ddab2d83c", func := "sallyport/sallyportlaw10.DriveTwice", spec := "driveTwice", unfollowed := true, recurses := true, apart := false, narrowed := true }
def DriveTwiceUptoSaid : Prop := driveTwiceUptoRow.holds Try.pinned (OpenSpec.upto driveTwiceSpec)

/-- 'sallyportlaw10.DriveApart', WHERE WHAT IT READS IS OF BULK AT MOST 1048576: true; the input reads as it did. -/
def driveApartUptoRow : OpenClaim := { program := "ytjphpadgbhegaaa", sum := "956f8c0b0a034aa22a342ea052d43a1ae3ca169f725ccea4d807036ddab2d83c", func := "sallyport/sallyportlaw10.DriveApart", spec := "driveApart", unfollowed := true, recurses := true, apart := false, narrowed := true }
def DriveApartUptoSaid : Prop := driveApartUptoRow.holds Try.pinned (OpenSpec.upto driveApartSpec)

/-- 'sallyportlaw10.DrivePlays', WHERE WHAT IT READS IS OF BULK AT MOST 1048576: true; the input reads as it did. -/
def drivePlaysUptoRow : OpenClaim := { program := "ytjphpadgbhegaaa", sum := "956f8c0b0a034aa22a342ea052d43a1ae3ca169f725ccea4d807036ddab2d83c", func := "sallyport/sallyportlaw10.DrivePlays", spec := "drivePlays", unfollowed := true, recurses := true, apart := false, narrowed := true }
def DrivePlaysUptoSaid : Prop := drivePlaysUptoRow.holds Try.pinned (OpenSpec.upto drivePlaysSpec)

end Rows
end Go.Proofs.Ytjphpadgbhegaaa
