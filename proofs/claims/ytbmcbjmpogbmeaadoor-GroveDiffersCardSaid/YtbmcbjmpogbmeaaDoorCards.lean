/-
  DERIVED. GIVEN WITH THE SEED: THE CARDS: each row of YtbmcbjmpogbmeaaDoorRows.lean that lists a variable, with what it lists TIED to the program's text (the seventh form; the later family's looks); each row that meets fmt, with fmt's text TOLD by the authors' own Lean function (tested against real Go, not proved from fmt's source: count such statements apart). THE CARD IS WHAT COUNTS. Prove the row's statement (the work); the ties are given (YtbmcbjmpogbmeaaDoorTie.lean); close each card by the builder's one call (the guide's Derived/Test/ToyasCard.lean, 'card_holds'). Laid BY PROGRAM, IN A SANDBOX (cutbox-door.mjs). By AI agents, Wed Nov 11 2026. No macro, syntax, notation, axiom, sorry.
-/
import Derived.Test.YtbmcbjmpogbmeaaDoorRows
import GoSem.ClaimSeven
namespace Go.Proofs.YtbmcbjmpogbmeaaDoor
namespace Rows

/-- THE TIED CARD OF 'sallyportlaw09.GrovePads'. -/
def grovePadsCard : Claim7 := { stood := { row := grovePadsRow, standIns := [], harness := (true, "3961032d2ef1df3c96f178fcebb325451e813cd44ce4ff6ce82dea800e8a5848"), looks := false }, kinds := [], alts := [], laidByText := true, laidKinds := [.data, .data, .data, .data], laidTests := true, laidLooks := .later }
def GrovePadsCardSaid : Prop := Claim7.holds Tryd.pinned (.plain (OpenSpec.ofChange grovePadsSpec)) grovePadsCard

/-- THE TIED CARD OF 'sallyportlaw09.GroveMakes'. -/
def groveMakesCard : Claim7 := { stood := { row := groveMakesRow, standIns := [], harness := (true, "3961032d2ef1df3c96f178fcebb325451e813cd44ce4ff6ce82dea800e8a5848"), looks := false }, kinds := [], alts := [], laidByText := true, laidKinds := [.data, .data, .data, .data], laidTests := true, laidLooks := .later }
def GroveMakesCardSaid : Prop := Claim7.holds Tryd.pinned (.plain (OpenSpec.ofChange groveMakesSpec)) groveMakesCard

/-- THE TIED CARD OF 'sallyportlaw09.GroveDiffers'. -/
def groveDiffersCard : Claim7 := { stood := { row := groveDiffersRow, standIns := [], harness := (true, "3961032d2ef1df3c96f178fcebb325451e813cd44ce4ff6ce82dea800e8a5848"), looks := false }, kinds := [], alts := [], laidByText := true, laidKinds := [.data, .data, .data, .data], laidTests := true, laidLooks := .later }
def GroveDiffersCardSaid : Prop := Claim7.holds Tryd.pinned (.plain (OpenSpec.ofChange groveDiffersSpec)) groveDiffersCard

/-- THE TIED CARD OF 'sallyportlaw09.GroveTurned'. -/
def groveTurnedCard : Claim7 := { stood := { row := groveTurnedRow, standIns := [], harness := (true, "3961032d2ef1df3c96f178fcebb325451e813cd44ce4ff6ce82dea800e8a5848"), looks := false }, kinds := [], alts := [], laidByText := true, laidKinds := [.data, .data, .data, .data], laidTests := true, laidLooks := .later }
def GroveTurnedCardSaid : Prop := Claim7.holds Tryd.pinned (.plain (OpenSpec.ofChange groveTurnedSpec)) groveTurnedCard

/-- THE TIED CARD OF 'sallyportlaw09.GroveChecks'. -/
def groveChecksCard : Claim7 := { stood := { row := groveChecksRow, standIns := [], harness := (true, "3961032d2ef1df3c96f178fcebb325451e813cd44ce4ff6ce82dea800e8a5848"), looks := false }, kinds := [], alts := [], laidByText := true, laidKinds := [.data, .data, .data, .data], laidTests := true, laidLooks := .later }
def GroveChecksCardSaid : Prop := Claim7.holds Tryd.pinned (.plain (OpenSpec.ofChange groveChecksSpec)) groveChecksCard

/-- THE TIED CARD OF 'sallyportlaw09.GroveClimbs'. -/
def groveClimbsCard : Claim7 := { stood := { row := groveClimbsRow, standIns := [], harness := (true, "3961032d2ef1df3c96f178fcebb325451e813cd44ce4ff6ce82dea800e8a5848"), looks := false }, kinds := [], alts := [], laidByText := true, laidKinds := [.data, .data, .data, .data], laidTests := true, laidLooks := .later }
def GroveClimbsCardSaid : Prop := Claim7.holds Tryd.pinned (.plain (OpenSpec.ofChange groveClimbsSpec)) groveClimbsCard

/-- THE TIED CARD OF 'sallyportlaw09.GroveRefuses'. -/
def groveRefusesCard : Claim7 := { stood := { row := groveRefusesRow, standIns := [], harness := (true, "3961032d2ef1df3c96f178fcebb325451e813cd44ce4ff6ce82dea800e8a5848"), looks := false }, kinds := [], alts := [], laidByText := true, laidKinds := [.data, .data, .data, .data], laidTests := true, laidLooks := .later }
def GroveRefusesCardSaid : Prop := Claim7.holds Tryd.pinned (.plain (OpenSpec.ofChange groveRefusesSpec)) groveRefusesCard

/-- THE TIED CARD OF 'sallyportlaw09.GroveSame'. -/
def groveSameCard : Claim7 := { stood := { row := groveSameRow, standIns := [], harness := (true, "3961032d2ef1df3c96f178fcebb325451e813cd44ce4ff6ce82dea800e8a5848"), looks := false }, kinds := [], alts := [], laidByText := true, laidKinds := [.data, .data, .data, .data], laidTests := true, laidLooks := .later }
def GroveSameCardSaid : Prop := Claim7.holds Tryd.pinned (.plain (OpenSpec.ofChange groveSameSpec)) groveSameCard

/-- THE SECOND FORM's CARD OF 'sallyportlaw09.GrovePads'. -/
def grovePadsUptoCard : Claim7 := { stood := { row := grovePadsUptoRow, standIns := [], harness := (true, "3961032d2ef1df3c96f178fcebb325451e813cd44ce4ff6ce82dea800e8a5848"), looks := false }, kinds := [], alts := [], laidByText := true, laidKinds := [.data, .data, .data, .data], laidTests := true, laidLooks := .later }
def GrovePadsUptoCardSaid : Prop := Claim7.holds Tryd.pinned (.plain (OpenSpec.upto grovePadsSpec)) grovePadsUptoCard

/-- THE SECOND FORM's CARD OF 'sallyportlaw09.GroveMakes'. -/
def groveMakesUptoCard : Claim7 := { stood := { row := groveMakesUptoRow, standIns := [], harness := (true, "3961032d2ef1df3c96f178fcebb325451e813cd44ce4ff6ce82dea800e8a5848"), looks := false }, kinds := [], alts := [], laidByText := true, laidKinds := [.data, .data, .data, .data], laidTests := true, laidLooks := .later }
def GroveMakesUptoCardSaid : Prop := Claim7.holds Tryd.pinned (.plain (OpenSpec.upto groveMakesSpec)) groveMakesUptoCard

/-- THE SECOND FORM's CARD OF 'sallyportlaw09.GroveDiffers'. -/
def groveDiffersUptoCard : Claim7 := { stood := { row := groveDiffersUptoRow, standIns := [], harness := (true, "3961032d2ef1df3c96f178fcebb325451e813cd44ce4ff6ce82dea800e8a5848"), looks := false }, kinds := [], alts := [], laidByText := true, laidKinds := [.data, .data, .data, .data], laidTests := true, laidLooks := .later }
def GroveDiffersUptoCardSaid : Prop := Claim7.holds Tryd.pinned (.plain (OpenSpec.upto groveDiffersSpec)) groveDiffersUptoCard

/-- THE SECOND FORM's CARD OF 'sallyportlaw09.GroveTurned'. -/
def groveTurnedUptoCard : Claim7 := { stood := { row := groveTurnedUptoRow, standIns := [], harness := (true, "3961032d2ef1df3c96f178fcebb325451e813cd44ce4ff6ce82dea800e8a5848"), looks := false }, kinds := [], alts := [], laidByText := true, laidKinds := [.data, .data, .data, .data], laidTests := true, laidLooks := .later }
def GroveTurnedUptoCardSaid : Prop := Claim7.holds Tryd.pinned (.plain (OpenSpec.upto groveTurnedSpec)) groveTurnedUptoCard

/-- THE SECOND FORM's CARD OF 'sallyportlaw09.GroveChecks'. -/
def groveChecksUptoCard : Claim7 := { stood := { row := groveChecksUptoRow, standIns := [], harness := (true, "3961032d2ef1df3c96f178fcebb325451e813cd44ce4ff6ce82dea800e8a5848"), looks := false }, kinds := [], alts := [], laidByText := true, laidKinds := [.data, .data, .data, .data], laidTests := true, laidLooks := .later }
def GroveChecksUptoCardSaid : Prop := Claim7.holds Tryd.pinned (.plain (OpenSpec.upto groveChecksSpec)) groveChecksUptoCard

/-- THE SECOND FORM's CARD OF 'sallyportlaw09.GroveClimbs'. -/
def groveClimbsUptoCard : Claim7 := { stood := { row := groveClimbsUptoRow, standIns := [], harness := (true, "3961032d2ef1df3c96f178fcebb325451e813cd44ce4ff6ce82dea800e8a5848"), looks := false }, kinds := [], alts := [], laidByText := true, laidKinds := [.data, .data, .data, .data], laidTests := true, laidLooks := .later }
def GroveClimbsUptoCardSaid : Prop := Claim7.holds Tryd.pinned (.plain (OpenSpec.upto groveClimbsSpec)) groveClimbsUptoCard

/-- THE SECOND FORM's CARD OF 'sallyportlaw09.GroveRefuses'. -/
def groveRefusesUptoCard : Claim7 := { stood := { row := groveRefusesUptoRow, standIns := [], harness := (true, "3961032d2ef1df3c96f178fcebb325451e813cd44ce4ff6ce82dea800e8a5848"), looks := false }, kinds := [], alts := [], laidByText := true, laidKinds := [.data, .data, .data, .data], laidTests := true, laidLooks := .later }
def GroveRefusesUptoCardSaid : Prop := Claim7.holds Tryd.pinned (.plain (OpenSpec.upto groveRefusesSpec)) groveRefusesUptoCard

/-- THE SECOND FORM's CARD OF 'sallyportlaw09.GroveSame'. -/
def groveSameUptoCard : Claim7 := { stood := { row := groveSameUptoRow, standIns := [], harness := (true, "3961032d2ef1df3c96f178fcebb325451e813cd44ce4ff6ce82dea800e8a5848"), looks := false }, kinds := [], alts := [], laidByText := true, laidKinds := [.data, .data, .data, .data], laidTests := true, laidLooks := .later }
def GroveSameUptoCardSaid : Prop := Claim7.holds Tryd.pinned (.plain (OpenSpec.upto groveSameSpec)) groveSameUptoCard
end Rows
end Go.Proofs.YtbmcbjmpogbmeaaDoor
