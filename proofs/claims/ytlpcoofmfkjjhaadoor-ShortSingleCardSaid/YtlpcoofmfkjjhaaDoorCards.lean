/-
  DERIVED. GIVEN WITH THE SEED: THE CARDS: each row of YtlpcoofmfkjjhaaDoorRows.lean that lists a variable, with what it lists TIED to the program's text (the seventh form; the later family's looks); each row that meets fmt, with fmt's text TOLD by the authors' own Lean function (tested against real Go, not proved from fmt's source: count such statements apart). THE CARD IS WHAT COUNTS. Prove the row's statement (the work); the ties are given (YtlpcoofmfkjjhaaDoorTie.lean); close each card by the builder's one call (the guide's Derived/Test/ToyasCard.lean, 'card_holds'). Laid BY PROGRAM, IN A SANDBOX (cutbox-door.mjs). By AI agents, Wed Nov 11 2026. No macro, syntax, notation, axiom, sorry.
-/
import Derived.Test.YtlpcoofmfkjjhaaDoorRows
import GoSem.ClaimSeven
namespace Go.Proofs.YtlpcoofmfkjjhaaDoor
namespace Rows

/-- THE TIED CARD OF 'sallyportlaw02.ShortSums'. -/
def shortSumsCard : Claim7 := { stood := { row := shortSumsRow, standIns := [], harness := (true, "fc3f650d63fe4556744ee80f546f196b69a1774694a87c17ea6e7c52b2c7291e"), looks := false }, kinds := [], alts := [], laidByText := true, laidKinds := [.data, .data], laidTests := true, laidLooks := .later }
def ShortSumsCardSaid : Prop := Claim7.holds Tryd.pinned (.plain (OpenSpec.ofChange shortSumsSpec)) shortSumsCard

/-- THE TIED CARD OF 'sallyportlaw02.ShortGoes'. -/
def shortGoesCard : Claim7 := { stood := { row := shortGoesRow, standIns := [], harness := (true, "fc3f650d63fe4556744ee80f546f196b69a1774694a87c17ea6e7c52b2c7291e"), looks := false }, kinds := [], alts := [], laidByText := true, laidKinds := [.data, .data], laidTests := true, laidLooks := .later }
def ShortGoesCardSaid : Prop := Claim7.holds Tryd.pinned (.plain (OpenSpec.ofChange shortGoesSpec)) shortGoesCard

/-- THE TIED CARD OF 'sallyportlaw02.ShortEdges'. -/
def shortEdgesCard : Claim7 := { stood := { row := shortEdgesRow, standIns := [], harness := (true, "fc3f650d63fe4556744ee80f546f196b69a1774694a87c17ea6e7c52b2c7291e"), looks := false }, kinds := [], alts := [], laidByText := true, laidKinds := [.data, .data], laidTests := true, laidLooks := .later }
def ShortEdgesCardSaid : Prop := Claim7.holds Tryd.pinned (.plain (OpenSpec.ofChange shortEdgesSpec)) shortEdgesCard

/-- THE TIED CARD OF 'sallyportlaw02.ShortOwn'. -/
def shortOwnCard : Claim7 := { stood := { row := shortOwnRow, standIns := [], harness := (true, "fc3f650d63fe4556744ee80f546f196b69a1774694a87c17ea6e7c52b2c7291e"), looks := false }, kinds := [], alts := [], laidByText := true, laidKinds := [.data, .data], laidTests := true, laidLooks := .later }
def ShortOwnCardSaid : Prop := Claim7.holds Tryd.pinned (.plain (OpenSpec.ofChange shortOwnSpec)) shortOwnCard

/-- THE TIED CARD OF 'sallyportlaw02.ShortSingle'. -/
def shortSingleCard : Claim7 := { stood := { row := shortSingleRow, standIns := [], harness := (true, "fc3f650d63fe4556744ee80f546f196b69a1774694a87c17ea6e7c52b2c7291e"), looks := false }, kinds := [], alts := [], laidByText := true, laidKinds := [.data, .data], laidTests := true, laidLooks := .later }
def ShortSingleCardSaid : Prop := Claim7.holds Tryd.pinned (.plain (OpenSpec.ofChange shortSingleSpec)) shortSingleCard

/-- THE SECOND FORM's CARD OF 'sallyportlaw02.ShortSums'. -/
def shortSumsUptoCard : Claim7 := { stood := { row := shortSumsUptoRow, standIns := [], harness := (true, "fc3f650d63fe4556744ee80f546f196b69a1774694a87c17ea6e7c52b2c7291e"), looks := false }, kinds := [], alts := [], laidByText := true, laidKinds := [.data, .data], laidTests := true, laidLooks := .later }
def ShortSumsUptoCardSaid : Prop := Claim7.holds Tryd.pinned (.plain (OpenSpec.upto shortSumsSpec)) shortSumsUptoCard

/-- THE SECOND FORM's CARD OF 'sallyportlaw02.ShortGoes'. -/
def shortGoesUptoCard : Claim7 := { stood := { row := shortGoesUptoRow, standIns := [], harness := (true, "fc3f650d63fe4556744ee80f546f196b69a1774694a87c17ea6e7c52b2c7291e"), looks := false }, kinds := [], alts := [], laidByText := true, laidKinds := [.data, .data], laidTests := true, laidLooks := .later }
def ShortGoesUptoCardSaid : Prop := Claim7.holds Tryd.pinned (.plain (OpenSpec.upto shortGoesSpec)) shortGoesUptoCard

/-- THE SECOND FORM's CARD OF 'sallyportlaw02.ShortEdges'. -/
def shortEdgesUptoCard : Claim7 := { stood := { row := shortEdgesUptoRow, standIns := [], harness := (true, "fc3f650d63fe4556744ee80f546f196b69a1774694a87c17ea6e7c52b2c7291e"), looks := false }, kinds := [], alts := [], laidByText := true, laidKinds := [.data, .data], laidTests := true, laidLooks := .later }
def ShortEdgesUptoCardSaid : Prop := Claim7.holds Tryd.pinned (.plain (OpenSpec.upto shortEdgesSpec)) shortEdgesUptoCard

/-- THE SECOND FORM's CARD OF 'sallyportlaw02.ShortOwn'. -/
def shortOwnUptoCard : Claim7 := { stood := { row := shortOwnUptoRow, standIns := [], harness := (true, "fc3f650d63fe4556744ee80f546f196b69a1774694a87c17ea6e7c52b2c7291e"), looks := false }, kinds := [], alts := [], laidByText := true, laidKinds := [.data, .data], laidTests := true, laidLooks := .later }
def ShortOwnUptoCardSaid : Prop := Claim7.holds Tryd.pinned (.plain (OpenSpec.upto shortOwnSpec)) shortOwnUptoCard

/-- THE SECOND FORM's CARD OF 'sallyportlaw02.ShortSingle'. -/
def shortSingleUptoCard : Claim7 := { stood := { row := shortSingleUptoRow, standIns := [], harness := (true, "fc3f650d63fe4556744ee80f546f196b69a1774694a87c17ea6e7c52b2c7291e"), looks := false }, kinds := [], alts := [], laidByText := true, laidKinds := [.data, .data], laidTests := true, laidLooks := .later }
def ShortSingleUptoCardSaid : Prop := Claim7.holds Tryd.pinned (.plain (OpenSpec.upto shortSingleSpec)) shortSingleUptoCard
end Rows
end Go.Proofs.YtlpcoofmfkjjhaaDoor
