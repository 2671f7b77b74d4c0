/-
  DERIVED. GIVEN WITH THE SEED: THE CARDS: each row of YteopoodhclljjaaDoorRows.lean that lists a variable, with what it lists TIED to the program's text (the seventh form; the later family's looks); each row that meets fmt, with fmt's text TOLD by the authors' own Lean function (tested against real Go, not proved from fmt's source: count such statements apart). THE CARD IS WHAT COUNTS. Prove the row's statement (the work); the ties are given (YteopoodhclljjaaDoorTie.lean); close each card by the builder's one call (the guide's Derived/Test/ToyasCard.lean, 'card_holds'). Laid BY PROGRAM, IN A SANDBOX (cutbox-door.mjs). By AI agents, Wed Nov 11 2026. No macro, syntax, notation, axiom, sorry.
-/
import Derived.Test.YteopoodhclljjaaDoorRows
import GoSem.ClaimSeven
namespace Go.Proofs.YteopoodhclljjaaDoor
namespace Rows

/-- THE TIED CARD OF 'sallyportlaw17.VerityOrder'. -/
def verityOrderCard : Claim7 := { stood := { row := verityOrderRow, standIns := [], harness := (true, "cdedb7171894496628b04480786da85ef9310eda2bb404ef29b55fcba6ba498f"), looks := false }, kinds := [], alts := [], laidByText := true, laidKinds := [.data, .data, .data, .data], laidTests := true, laidLooks := .later }
def VerityOrderCardSaid : Prop := Claim7.holds Tryd.pinned (.plain (OpenSpec.ofChange verityOrderSpec)) verityOrderCard

/-- THE TIED CARD OF 'sallyportlaw17.VerityMost'. -/
def verityMostCard : Claim7 := { stood := { row := verityMostRow, standIns := [], harness := (true, "cdedb7171894496628b04480786da85ef9310eda2bb404ef29b55fcba6ba498f"), looks := false }, kinds := [], alts := [], laidByText := true, laidKinds := [.data, .data, .data, .data], laidTests := true, laidLooks := .later }
def VerityMostCardSaid : Prop := Claim7.holds Tryd.pinned (.plain (OpenSpec.ofChange verityMostSpec)) verityMostCard

/-- THE TIED CARD OF 'sallyportlaw17.VerityFair'. -/
def verityFairCard : Claim7 := { stood := { row := verityFairRow, standIns := [], harness := (true, "cdedb7171894496628b04480786da85ef9310eda2bb404ef29b55fcba6ba498f"), looks := false }, kinds := [], alts := [], laidByText := true, laidKinds := [.data, .data, .data, .data], laidTests := true, laidLooks := .later }
def VerityFairCardSaid : Prop := Claim7.holds Tryd.pinned (.plain (OpenSpec.ofChange verityFairSpec)) verityFairCard

/-- THE TIED CARD OF 'sallyportlaw17.VerityModes'. -/
def verityModesCard : Claim7 := { stood := { row := verityModesRow, standIns := [], harness := (true, "cdedb7171894496628b04480786da85ef9310eda2bb404ef29b55fcba6ba498f"), looks := false }, kinds := [], alts := [], laidByText := true, laidKinds := [.data, .data, .data, .data], laidTests := true, laidLooks := .later }
def VerityModesCardSaid : Prop := Claim7.holds Tryd.pinned (.plain (OpenSpec.ofChange verityModesSpec)) verityModesCard

/-- THE SECOND FORM's CARD OF 'sallyportlaw17.VerityOrder'. -/
def verityOrderUptoCard : Claim7 := { stood := { row := verityOrderUptoRow, standIns := [], harness := (true, "cdedb7171894496628b04480786da85ef9310eda2bb404ef29b55fcba6ba498f"), looks := false }, kinds := [], alts := [], laidByText := true, laidKinds := [.data, .data, .data, .data], laidTests := true, laidLooks := .later }
def VerityOrderUptoCardSaid : Prop := Claim7.holds Tryd.pinned (.plain (OpenSpec.upto verityOrderSpec)) verityOrderUptoCard

/-- THE SECOND FORM's CARD OF 'sallyportlaw17.VerityMost'. -/
def verityMostUptoCard : Claim7 := { stood := { row := verityMostUptoRow, standIns := [], harness := (true, "cdedb7171894496628b04480786da85ef9310eda2bb404ef29b55fcba6ba498f"), looks := false }, kinds := [], alts := [], laidByText := true, laidKinds := [.data, .data, .data, .data], laidTests := true, laidLooks := .later }
def VerityMostUptoCardSaid : Prop := Claim7.holds Tryd.pinned (.plain (OpenSpec.upto verityMostSpec)) verityMostUptoCard

/-- THE SECOND FORM's CARD OF 'sallyportlaw17.VerityFair'. -/
def verityFairUptoCard : Claim7 := { stood := { row := verityFairUptoRow, standIns := [], harness := (true, "cdedb7171894496628b04480786da85ef9310eda2bb404ef29b55fcba6ba498f"), looks := false }, kinds := [], alts := [], laidByText := true, laidKinds := [.data, .data, .data, .data], laidTests := true, laidLooks := .later }
def VerityFairUptoCardSaid : Prop := Claim7.holds Tryd.pinned (.plain (OpenSpec.upto verityFairSpec)) verityFairUptoCard

/-- THE SECOND FORM's CARD OF 'sallyportlaw17.VerityModes'. -/
def verityModesUptoCard : Claim7 := { stood := { row := verityModesUptoRow, standIns := [], harness := (true, "cdedb7171894496628b04480786da85ef9310eda2bb404ef29b55fcba6ba498f"), looks := false }, kinds := [], alts := [], laidByText := true, laidKinds := [.data, .data, .data, .data], laidTests := true, laidLooks := .later }
def VerityModesUptoCardSaid : Prop := Claim7.holds Tryd.pinned (.plain (OpenSpec.upto verityModesSpec)) verityModesUptoCard
end Rows
end Go.Proofs.YteopoodhclljjaaDoor
