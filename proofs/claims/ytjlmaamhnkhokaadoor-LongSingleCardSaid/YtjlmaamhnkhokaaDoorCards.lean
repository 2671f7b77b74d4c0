/-
  DERIVED. GIVEN WITH THE SEED: THE CARDS: each row of YtjlmaamhnkhokaaDoorRows.lean that lists a variable, with what it lists TIED to the program's text (the seventh form; the later family's looks); each row that meets fmt, with fmt's text TOLD by the authors' own Lean function (tested against real Go, not proved from fmt's source: count such statements apart). THE CARD IS WHAT COUNTS. Prove the row's statement (the work); the ties are given (YtjlmaamhnkhokaaDoorTie.lean); close each card by the builder's one call (the guide's Derived/Test/ToyasCard.lean, 'card_holds'). Laid BY PROGRAM, IN A SANDBOX (cutbox-door.mjs). By AI agents, Wed Nov 11 2026. No macro, syntax, notation, axiom, sorry.
-/
import Derived.Test.YtjlmaamhnkhokaaDoorRows
import GoSem.ClaimSeven
namespace Go.Proofs.YtjlmaamhnkhokaaDoor
namespace Rows

/-- THE TIED CARD OF 'sallyportlaw03.LongSums'. -/
def longSumsCard : Claim7 := { stood := { row := longSumsRow, standIns := [], harness := (true, "b8d8e221cbf31c9a876c3351aa8df8dd43a58869ab8b826b28548758f17bf644"), looks := false }, kinds := [], alts := [], laidByText := true, laidKinds := [.data, .data], laidTests := true, laidLooks := .later }
def LongSumsCardSaid : Prop := Claim7.holds Tryd.pinned (.plain (OpenSpec.ofChange longSumsSpec)) longSumsCard

/-- THE TIED CARD OF 'sallyportlaw03.LongGoes'. -/
def longGoesCard : Claim7 := { stood := { row := longGoesRow, standIns := [], harness := (true, "b8d8e221cbf31c9a876c3351aa8df8dd43a58869ab8b826b28548758f17bf644"), looks := false }, kinds := [], alts := [], laidByText := true, laidKinds := [.data, .data], laidTests := true, laidLooks := .later }
def LongGoesCardSaid : Prop := Claim7.holds Tryd.pinned (.plain (OpenSpec.ofChange longGoesSpec)) longGoesCard

/-- THE TIED CARD OF 'sallyportlaw03.LongEdges'. -/
def longEdgesCard : Claim7 := { stood := { row := longEdgesRow, standIns := [], harness := (true, "b8d8e221cbf31c9a876c3351aa8df8dd43a58869ab8b826b28548758f17bf644"), looks := false }, kinds := [], alts := [], laidByText := true, laidKinds := [.data, .data], laidTests := true, laidLooks := .later }
def LongEdgesCardSaid : Prop := Claim7.holds Tryd.pinned (.plain (OpenSpec.ofChange longEdgesSpec)) longEdgesCard

/-- THE TIED CARD OF 'sallyportlaw03.LongOwn'. -/
def longOwnCard : Claim7 := { stood := { row := longOwnRow, standIns := [], harness := (true, "b8d8e221cbf31c9a876c3351aa8df8dd43a58869ab8b826b28548758f17bf644"), looks := false }, kinds := [], alts := [], laidByText := true, laidKinds := [.data, .data], laidTests := true, laidLooks := .later }
def LongOwnCardSaid : Prop := Claim7.holds Tryd.pinned (.plain (OpenSpec.ofChange longOwnSpec)) longOwnCard

/-- THE TIED CARD OF 'sallyportlaw03.LongSingle'. -/
def longSingleCard : Claim7 := { stood := { row := longSingleRow, standIns := [], harness := (true, "b8d8e221cbf31c9a876c3351aa8df8dd43a58869ab8b826b28548758f17bf644"), looks := false }, kinds := [], alts := [], laidByText := true, laidKinds := [.data, .data], laidTests := true, laidLooks := .later }
def LongSingleCardSaid : Prop := Claim7.holds Tryd.pinned (.plain (OpenSpec.ofChange longSingleSpec)) longSingleCard

/-- THE SECOND FORM's CARD OF 'sallyportlaw03.LongSums'. -/
def longSumsUptoCard : Claim7 := { stood := { row := longSumsUptoRow, standIns := [], harness := (true, "b8d8e221cbf31c9a876c3351aa8df8dd43a58869ab8b826b28548758f17bf644"), looks := false }, kinds := [], alts := [], laidByText := true, laidKinds := [.data, .data], laidTests := true, laidLooks := .later }
def LongSumsUptoCardSaid : Prop := Claim7.holds Tryd.pinned (.plain (OpenSpec.upto longSumsSpec)) longSumsUptoCard

/-- THE SECOND FORM's CARD OF 'sallyportlaw03.LongGoes'. -/
def longGoesUptoCard : Claim7 := { stood := { row := longGoesUptoRow, standIns := [], harness := (true, "b8d8e221cbf31c9a876c3351aa8df8dd43a58869ab8b826b28548758f17bf644"), looks := false }, kinds := [], alts := [], laidByText := true, laidKinds := [.data, .data], laidTests := true, laidLooks := .later }
def LongGoesUptoCardSaid : Prop := Claim7.holds Tryd.pinned (.plain (OpenSpec.upto longGoesSpec)) longGoesUptoCard

/-- THE SECOND FORM's CARD OF 'sallyportlaw03.LongEdges'. -/
def longEdgesUptoCard : Claim7 := { stood := { row := longEdgesUptoRow, standIns := [], harness := (true, "b8d8e221cbf31c9a876c3351aa8df8dd43a58869ab8b826b28548758f17bf644"), looks := false }, kinds := [], alts := [], laidByText := true, laidKinds := [.data, .data], laidTests := true, laidLooks := .later }
def LongEdgesUptoCardSaid : Prop := Claim7.holds Tryd.pinned (.plain (OpenSpec.upto longEdgesSpec)) longEdgesUptoCard

/-- THE SECOND FORM's CARD OF 'sallyportlaw03.LongOwn'. -/
def longOwnUptoCard : Claim7 := { stood := { row := longOwnUptoRow, standIns := [], harness := (true, "b8d8e221cbf31c9a876c3351aa8df8dd43a58869ab8b826b28548758f17bf644"), looks := false }, kinds := [], alts := [], laidByText := true, laidKinds := [.data, .data], laidTests := true, laidLooks := .later }
def LongOwnUptoCardSaid : Prop := Claim7.holds Tryd.pinned (.plain (OpenSpec.upto longOwnSpec)) longOwnUptoCard

/-- THE SECOND FORM's CARD OF 'sallyportlaw03.LongSingle'. -/
def longSingleUptoCard : Claim7 := { stood := { row := longSingleUptoRow, standIns := [], harness := (true, "b8d8e221cbf31c9a876c3351aa8df8dd43a58869ab8b826b28548758f17bf644"), looks := false }, kinds := [], alts := [], laidByText := true, laidKinds := [.data, .data], laidTests := true, laidLooks := .later }
def LongSingleUptoCardSaid : Prop := Claim7.holds Tryd.pinned (.plain (OpenSpec.upto longSingleSpec)) longSingleUptoCard
end Rows
end Go.Proofs.YtjlmaamhnkhokaaDoor
