/-
  No cell of these rows narrows 'for every input' (looked for: loops, veiled, ifaces, maps, wideKeys, modest, calm, conditions, laid).
  DERIVED. THE GIVEN ROWS OF THIS SEAT. 7 by the template 'for every input the law returns true; each argument reads behind the call as it read before'; 0 by the template 'total and deterministic' (their statements: YtmcejfmjclngaaaTotals.lean).
  GIVEN WITH THE SEED: the statements are not yours to turn. If you find one false, say at which input.
  Laid BY PROGRAM, IN A SANDBOX (cutbox-rows.mjs): the forced cells as the released guide's own fill.sh prints them over the translation 8fdf8d1905bb9f03… (all of the seat's roots in one cut). By AI agents, Wed Nov 11 2026. No macro, syntax, notation, axiom, sorry.
-/
import Derived.Test.YtmcejfmjclngaaaChecked
import GoSem.Claim
import GoSem.ClaimJoined
import GoSem.ClaimMapViews
import Derived.JoinedTies
import Derived.KernelRfl
namespace Go.Proofs.Ytmcejfmjclngaaa
/- THE CELL 'sum', in the pinned program and in every row, IS THE sha256 OF THE DUMP (.gsa) THAT YtmcejfmjclngaaaProg.lean LOADS. Nothing in Lean hashes anything: it is a label: what it is worth is what the hold of that sum in a sandbox is worth. -/
noncomputable def Try.pinned : Pinned := { name := "ytmcejfmjclngaaa", sum := "8fdf8d1905bb9f03fb08b53bd7d8564c747cef93af3a5a5e2e05dd3e9b3266ba", checked := Try.checked }
namespace Rows
def none {H : Type} : Left H := { results := [], args := [] }

/-- 'sallyportlaw16.RecordSums': WHATEVER THE INPUT: true; the input reads as it did. -/
def recordSumsSpec : ChangeSpec := { name := "recordSums", fn := fun _ => fun
  | [d1, d2] => { results := [.lit (.bool true)], args := [d1, d2] }
  | _ => none }
def recordSumsRow : OpenClaim := { program := "ytmcejfmjclngaaa", sum := "8fdf8d1905bb9f03fb08b53bd7d8564c747cef93af3a5a5e2e05dd3e9b3266ba", func := "sallyport/sallyportlaw16.RecordSums", spec := "recordSums", apart := false }
def RecordSumsSaid : Prop := recordSumsRow.holds Try.pinned (OpenSpec.ofChange recordSumsSpec)

/-- ITS FALSE NEIGHBOUR: 'it returns false'. Refute it at one input. -/
def recordSumsWrong : ChangeSpec := { name := "recordSums", fn := fun _ => fun
  | [d1, d2] => { results := [.lit (.bool false)], args := [d1, d2] }
  | _ => none }
def RecordSumsWrongFalsely : Prop := recordSumsRow.holds Try.pinned (OpenSpec.ofChange recordSumsWrong)

/-- 'sallyportlaw16.RecordSwaps': WHATEVER THE INPUT: true; the input reads as it did. -/
def recordSwapsSpec : ChangeSpec := { name := "recordSwaps", fn := fun _ => fun
  | [d] => { results := [.lit (.bool true)], args := [d] }
  | _ => none }
def recordSwapsRow : OpenClaim := { program := "ytmcejfmjclngaaa", sum := "8fdf8d1905bb9f03fb08b53bd7d8564c747cef93af3a5a5e2e05dd3e9b3266ba", func := "sallyport/sallyportlaw16.RecordSwaps", spec := "recordSwaps", apart := false }
def RecordSwapsSaid : Prop := recordSwapsRow.holds Try.pinned (OpenSpec.ofChange recordSwapsSpec)

/-- ITS FALSE NEIGHBOUR: 'it returns false'. Refute it at one input. -/
def recordSwapsWrong : ChangeSpec := { name := "recordSwaps", fn := fun _ => fun
  | [d] => { results := [.lit (.bool false)], args := [d] }
  | _ => none }
def RecordSwapsWrongFalsely : Prop := recordSwapsRow.holds Try.pinned (OpenSpec.ofChange recordSwapsWrong)

/-- 'sallyportlaw16.RecordPicks': WHATEVER THE INPUT: true; the input reads as it did. -/
def recordPicksSpec : ChangeSpec := { name := "recordPicks", fn := fun _ => fun
  | [d1, d2, d3] => { results := [.lit (.bool true)], args := [d1, d2, d3] }
  | _ => none }
def recordPicksRow : OpenClaim := { program := "ytmcejfmjclngaaa", sum := "8fdf8d1905bb9f03fb08b53bd7d8564c747cef93af3a5a5e2e05dd3e9b3266ba", func := "sallyport/sallyportlaw16.RecordPicks", spec := "recordPicks", apart := false }
def RecordPicksSaid : Prop := recordPicksRow.holds Try.pinned (OpenSpec.ofChange recordPicksSpec)

/-- ITS FALSE NEIGHBOUR: 'it returns false'. Refute it at one input. -/
def recordPicksWrong : ChangeSpec := { name := "recordPicks", fn := fun _ => fun
  | [d1, d2, d3] => { results := [.lit (.bool false)], args := [d1, d2, d3] }
  | _ => none }
def RecordPicksWrongFalsely : Prop := recordPicksRow.holds Try.pinned (OpenSpec.ofChange recordPicksWrong)

/-- 'sallyportlaw16.RecordParses': WHATEVER THE INPUT: true; the input reads as it did. -/
def recordParsesSpec : ChangeSpec := { name := "recordParses", fn := fun _ => fun
  | [d] => { results := [.lit (.bool true)], args := [d] }
  | _ => none }
def recordParsesRow : OpenClaim := { program := "ytmcejfmjclngaaa", sum := "8fdf8d1905bb9f03fb08b53bd7d8564c747cef93af3a5a5e2e05dd3e9b3266ba", func := "sallyport/sallyportlaw16.RecordParses", spec := "recordParses", unfollowed := true, recurses := true, apart := false }
def RecordParsesSaid : Prop := recordParsesRow.holds Try.pinned (OpenSpec.ofChange recordParsesSpec)

/-- ITS FALSE NEIGHBOUR: 'it returns false'. Refute it at one input. -/
def recordParsesWrong : ChangeSpec := { name := "recordParses", fn := fun _ => fun
  | [d] => { results := [.lit (.bool false)], args := [d] }
  | _ => none }
def RecordParsesWrongFalsely : Prop := recordParsesRow.holds Try.pinned (OpenSpec.ofChange recordParsesWrong)

/-- 'sallyportlaw16.RecordEncodes': WHATEVER THE INPUT: true; the input reads as it did. -/
def recordEncodesSpec : ChangeSpec := { name := "recordEncodes", fn := fun _ => fun
  | [d] => { results := [.lit (.bool true)], args := [d] }
  | _ => none }
def recordEncodesRow : OpenClaim := { program := "ytmcejfmjclngaaa", sum := "8fdf8d1905bb9f03fb08b53bd7d8564c747cef93af3a5a5e2e05dd3e9b3266ba", func := "sallyport/sallyportlaw16.RecordEncodes", spec := "recordEncodes", unfollowed := true, recurses := true, apart := false }
def RecordEncodesSaid : Prop := recordEncodesRow.holds Try.pinned (OpenSpec.ofChange recordEncodesSpec)

/-- ITS FALSE NEIGHBOUR: 'it returns false'. Refute it at one input. -/
def recordEncodesWrong : ChangeSpec := { name := "recordEncodes", fn := fun _ => fun
  | [d] => { results := [.lit (.bool false)], args := [d] }
  | _ => none }
def RecordEncodesWrongFalsely : Prop := recordEncodesRow.holds Try.pinned (OpenSpec.ofChange recordEncodesWrong)

/-- 'sallyportlaw16.RecordUnlike': WHATEVER THE INPUT: true; the input reads as it did. -/
def recordUnlikeSpec : ChangeSpec := { name := "recordUnlike", fn := fun _ => fun
  | [d1, d2, d3] => { results := [.lit (.bool true)], args := [d1, d2, d3] }
  | _ => none }
def recordUnlikeRow : OpenClaim := { program := "ytmcejfmjclngaaa", sum := "8fdf8d1905bb9f03fb08b53bd7d8564c747cef93af3a5a5e2e05dd3e9b3266ba", func := "sallyport/sallyportlaw16.RecordUnlike", spec := "recordUnlike", unfollowed := true, recurses := true, apart := false }
def RecordUnlikeSaid : Prop := recordUnlikeRow.holds Try.pinned (OpenSpec.ofChange recordUnlikeSpec)

/-- ITS FALSE NEIGHBOUR: 'it returns false'. Refute it at one input. -/
def recordUnlikeWrong : ChangeSpec := { name := "recordUnlike", fn := fun _ => fun
  | [d1, d2, d3] => { results := [.lit (.bool false)], args := [d1, d2, d3] }
  | _ => none }
def RecordUnlikeWrongFalsely : Prop := recordUnlikeRow.holds Try.pinned (OpenSpec.ofChange recordUnlikeWrong)

/-- 'sallyportlaw16.RecordLasts': WHATEVER THE INPUT: true; the input reads as it did. -/
def recordLastsSpec : ChangeSpec := { name := "recordLasts", fn := fun _ => fun
  | [d1, d2, d3, d4, d5] => { results := [.lit (.bool true)], args := [d1, d2, d3, d4, d5] }
  | _ => none }
def recordLastsRow : OpenClaim := { program := "ytmcejfmjclngaaa", sum := "8fdf8d1905bb9f03fb08b53bd7d8564c747cef93af3a5a5e2e05dd3e9b3266ba", func := "sallyport/sallyportlaw16.RecordLasts", spec := "recordLasts", unfollowed := true, recurses := true, apart := false }
def RecordLastsSaid : Prop := recordLastsRow.holds Try.pinned (OpenSpec.ofChange recordLastsSpec)

/-- ITS FALSE NEIGHBOUR: 'it returns false'. Refute it at one input. -/
def recordLastsWrong : ChangeSpec := { name := "recordLasts", fn := fun _ => fun
  | [d1, d2, d3, d4, d5] => { results := [.lit (.bool false)], args := [d1, d2, d3, d4, d5] }
  | _ => none }
def RecordLastsWrongFalsely : Prop := recordLastsRow.holds Try.pinned (OpenSpec.ofChange recordLastsWrong)

/- THE SECOND FORM. 'bulk': how many values and letters a reading holds, each counted each time it is reached (what is shared counts as often as it is met; a slice's spare places count too). A statement '..UptoSaid' is the law's where the arguments, and the package variables that the reading takes, are together of bulk at most 1048576: NARROWER than '..Said'. Prove '..Said' where nothing that the law and all that it calls make is longer than what came in: it says more and counts as full. Else prove '..UptoSaid'. A law counts once. -/
mutual
def uptoBulk {H : Type} : DataW H → Nat
  | .lit (.string bytes) => bytes.length + 1
  | .lit _ => 1
  | .nil => 1
  | .ptr d => uptoBulk d + 1
  | .slice elems spare => uptoBulkAll elems + uptoBulkAll spare + 1
  | .agg parts => uptoBulkAll parts + 1
  | .iface _ d => uptoBulk d + 1
  | .map entries => uptoBulkEntries entries + 1
  | .held _ => 1
def uptoBulkAll {H : Type} : List (DataW H) → Nat
  | [] => 0
  | d :: r => uptoBulk d + uptoBulkAll r
def uptoBulkEntries {H : Type} : List (Lit × DataW H) → Nat
  | [] => 0
  | x :: r => uptoBulkEntry x + uptoBulkEntries r
def uptoBulkEntry {H : Type} : Lit × DataW H → Nat
  | (.string bytes, d) => bytes.length + uptoBulk d + 1
  | (_, d) => uptoBulk d + 1
 end
def uptoSmall : (H : Type) → List (DataW H) → Bool := fun _ ds => decide (uptoBulkAll ds ≤ 1048576)
def OpenSpec.upto (s : _root_.Go.ChangeSpec) : _root_.Go.OpenSpec := { _root_.Go.OpenSpec.ofChange s with cond := some uptoSmall }

/-- 'sallyportlaw16.RecordSums', WHERE WHAT IT READS IS OF BULK AT MOST 1048576: true; the input reads as it did. -/
def recordSumsUptoRow : OpenClaim := { program := "ytmcejfmjclngaaa", sum := "8fdf8d1905bb9f03fb08b53bd7d8564c747cef93af3a5a5e2e05dd3e9b3266ba", func := "sallyport/sallyportlaw16.RecordSums", spec := "recordSums", apart := false, narrowed := true }
def RecordSumsUptoSaid : Prop := recordSumsUptoRow.holds Try.pinned (OpenSpec.upto recordSumsSpec)

/-- 'sallyportlaw16.RecordSwaps', WHERE WHAT IT READS IS OF BULK AT MOST 1048576: true; the input reads as it did. -/
def recordSwapsUptoRow : OpenClaim := { program := "ytmcejfmjclngaaa", sum := "8fdf8d1905bb9f03fb08b53bd7d8564c747cef93af3a5a5e2e05dd3e9b3266ba", func := "sallyport/sallyportlaw16.RecordSwaps", spec := "recordSwaps", apart := false, narrowed := true }
def RecordSwapsUptoSaid : Prop := recordSwapsUptoRow.holds Try.pinned (OpenSpec.upto recordSwapsSpec)

/-- 'sallyportlaw16.RecordPicks', WHERE WHAT IT READS IS OF BULK AT MOST 1048576: true; the input reads as it did. -/
def recordPicksUptoRow : OpenClaim := { program := "ytmcejfmjclngaaa", sum := "8fdf8d1905bb9f03fb08b53bd7d8564c747cef93af3a5a5e2e05dd3e9b3266ba", func := "sallyport/sallyportlaw16.RecordPicks", spec := "recordPicks", apart := false, narrowed := true }
def RecordPicksUptoSaid : Prop := recordPicksUptoRow.holds Try.pinned (OpenSpec.upto recordPicksSpec)

/-- 'sallyportlaw16.RecordParses', WHERE WHAT IT READS IS OF BULK AT MOST 1048576: true; the input reads as it did. -/
def recordParsesUptoRow : OpenClaim := { program := "ytmcejfmjclngaaa", sum := "8fdf8d1905bb9f03fb08b53bd7d8564c747cef93af3a5a5e2e05dd3e9b3266ba", func := "sallyport/sallyportlaw16.RecordParses", spec := "recordParses", unfollowed := true, recurses := true, apart := false, narrowed := true }
def RecordParsesUptoSaid : Prop := recordParsesUptoRow.holds Try.pinned (OpenSpec.upto recordParsesSpec)

/-- 'sallyportlaw16.RecordEncodes', WHERE WHAT IT READS IS OF BULK AT MOST 1048576: true; the input reads as it did. -/
def recordEncodesUptoRow : OpenClaim := { program := "ytmcejfmjclngaaa", sum := "8fdf8d1905bb9f03fb08b53bd7d8564c747cef93af3a5a5e2e05dd3e9b3266ba", func := "sallyport/sallyportlaw16.RecordEncodes", spec := "recordEncodes", unfollowed := true, recurses := true, apart := false, narrowed := true }
def RecordEncodesUptoSaid : Prop := recordEncodesUptoRow.holds Try.pinned (OpenSpec.upto recordEncodesSpec)

/-- 'sallyportlaw16.RecordUnlike', WHERE WHAT IT READS IS OF BULK AT MOST 1048576: true; the input reads as it did. -/
def recordUnlikeUptoRow : OpenClaim := { program := "ytmcejfmjclngaaa", sum := "8fdf8d1905bb9f03fb08b53bd7d8564c747cef93af3a5a5e2e05dd3e9b3266ba", func := "sallyport/sallyportlaw16.RecordUnlike", spec := "recordUnlike", unfollowed := true, recurses := true, apart := false, narrowed := true }
def RecordUnlikeUptoSaid : Prop := recordUnlikeUptoRow.holds Try.pinned (OpenSpec.upto recordUnlikeSpec)

/-- 'sallyportlaw16.RecordLasts', WHERE WHAT IT READS IS OF BULK AT MOST 1048576: true; the input reads as it did. -/
def recordLastsUptoRow : OpenClaim := { program := "ytmcejfmjclngaaa", sum := "8fdf8d1905bb9f03fb08b53bd7d8564c747cef93af3a5a5e2e05dd3e9b3266ba", func := "sallyport/sallyportlaw16.RecordLasts", spec := "recordLasts", unfollowed := true, recurses := true, apart := false, narrowed := true }
def RecordLastsUptoSaid : Prop := recordLastsUptoRow.holds Try.pinned (OpenSpec.upto recordLastsSpec)

end Rows
end Go.Proofs.Ytmcejfmjclngaaa
