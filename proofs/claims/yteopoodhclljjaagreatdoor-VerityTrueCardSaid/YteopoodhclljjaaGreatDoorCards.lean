/-
  DERIVED. GIVEN WITH THE SEED: THE CARDS: each row of YteopoodhclljjaaGreatDoorRows.lean that lists a variable, with what it lists TIED to the program's text (the seventh form; the later family's looks); each row that meets fmt, with fmt's text TOLD by the authors' own Lean function (tested against real Go, not proved from fmt's source: count such statements apart). THE CARD IS WHAT COUNTS. Prove the row's statement (the work); the ties are given (YteopoodhclljjaaGreatDoorTie.lean); close each card by the builder's one call (the guide's Derived/Test/ToyasCard.lean, 'card_holds'). Laid BY PROGRAM, IN A SANDBOX (cutbox-door.mjs). By AI agents, Wed Nov 11 2026. No macro, syntax, notation, axiom, sorry.
-/
import Derived.Test.YteopoodhclljjaaGreatDoorRows
import GoSem.ClaimSeven
namespace Go.Proofs.YteopoodhclljjaaGreatDoor
namespace Rows

/-- THE TIED CARD OF 'sallyportlaw17.VerityPlays'. -/
def verityPlaysCard : Claim7 := { stood := { row := verityPlaysRow, standIns := [], harness := (true, "57eb5efd085676ea3427c580824c2e8ff65dfafce83e7ea8f2abefe4b6652581"), looks := false }, kinds := [], alts := [], laidByText := true, laidKinds := [.data, .data, .data, .data], laidTests := true, laidLooks := .later }
def VerityPlaysCardSaid : Prop := Claim7.holds Tryz.pinned (.plain (OpenSpec.ofChange verityPlaysSpec)) verityPlaysCard

/-- THE TIED CARD OF 'sallyportlaw17.VerityTrue'. -/
def verityTrueCard : Claim7 := { stood := { row := verityTrueRow, standIns := [], harness := (true, "57eb5efd085676ea3427c580824c2e8ff65dfafce83e7ea8f2abefe4b6652581"), looks := false }, kinds := [], alts := [], laidByText := true, laidKinds := [.data, .data, .data, .data], laidTests := true, laidLooks := .later }
def VerityTrueCardSaid : Prop := Claim7.holds Tryz.pinned (.plain (OpenSpec.ofChange verityTrueSpec)) verityTrueCard

/-- THE SECOND FORM's CARD OF 'sallyportlaw17.VerityPlays'. -/
def verityPlaysUptoCard : Claim7 := { stood := { row := verityPlaysUptoRow, standIns := [], harness := (true, "57eb5efd085676ea3427c580824c2e8ff65dfafce83e7ea8f2abefe4b6652581"), looks := false }, kinds := [], alts := [], laidByText := true, laidKinds := [.data, .data, .data, .data], laidTests := true, laidLooks := .later }
def VerityPlaysUptoCardSaid : Prop := Claim7.holds Tryz.pinned (.plain (OpenSpec.upto verityPlaysSpec)) verityPlaysUptoCard

/-- THE SECOND FORM's CARD OF 'sallyportlaw17.VerityTrue'. -/
def verityTrueUptoCard : Claim7 := { stood := { row := verityTrueUptoRow, standIns := [], harness := (true, "57eb5efd085676ea3427c580824c2e8ff65dfafce83e7ea8f2abefe4b6652581"), looks := false }, kinds := [], alts := [], laidByText := true, laidKinds := [.data, .data, .data, .data], laidTests := true, laidLooks := .later }
def VerityTrueUptoCardSaid : Prop := Claim7.holds Tryz.pinned (.plain (OpenSpec.upto verityTrueSpec)) verityTrueUptoCard
end Rows
end Go.Proofs.YteopoodhclljjaaGreatDoor
