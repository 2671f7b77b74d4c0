/-
  DERIVED. GIVEN WITH THE SEED: THE PROGRAM's TIES (one call each: nine closed facts by the kernel) AND EACH ROW's TIE, after the 31st guide's Derived/Test/Toyas{Tie, Card}.lean. No idea stands in it: it is a product of the set-up. Laid BY PROGRAM, IN A SANDBOX (cutbox-door.mjs). By AI agents, Wed Nov 11 2026. No macro, syntax, notation, axiom, sorry.
-/
import Derived.Test.YteopoodhclljjaaGreatDoorRows
import Derived.LaidByTextLater
import Derived.SevenTiedAt
import Derived.LaidSub
import Derived.LaidOnce
namespace Go.Proofs.YteopoodhclljjaaGreatDoor
open Go
set_option maxRecDepth 100000
theorem seatTie1 : Tryz.prog.laidByTextLater [("sallyport/longsum.rounds", Rows.laid_sallyport_longsum_rounds), ("sallyport/longsum.first", Rows.laid_sallyport_longsum_first), ("sallyport/shortsum.rounds", Rows.laid_sallyport_shortsum_rounds), ("sallyport/shortsum.first", Rows.laid_sallyport_shortsum_first)] [.data, .data, .data, .data] true :=
  Program.laidByTextLater_by_one 29 8 81 (by kernel_rfl) (by kernel_rfl) (by kernel_rfl) (by kernel_rfl) (by kernel_rfl) (by kernel_rfl) (fun _ _ => by kernel_rfl)
theorem noOwnUnsafe : Tryz.pinned.checked.prog.headLifts.contains "ownunsafe" = false := by kernel_rfl
theorem tie : Tryz.prog.laidByTextLater [("sallyport/longsum.rounds", Rows.laid_sallyport_longsum_rounds), ("sallyport/longsum.first", Rows.laid_sallyport_longsum_first), ("sallyport/shortsum.rounds", Rows.laid_sallyport_shortsum_rounds), ("sallyport/shortsum.first", Rows.laid_sallyport_shortsum_first)] [.data, .data, .data, .data] true :=
  Program.laidByTextLater.sub seatTie1 ["sallyport/longsum.rounds", "sallyport/longsum.first", "sallyport/shortsum.rounds", "sallyport/shortsum.first"] (by kernel_rfl) (by kernel_rfl)
theorem verityPlays_row_tie : Rows.verityPlaysRow.laidByTextAt .later Tryz.pinned [.data, .data, .data, .data] true :=
  OpenClaim.laidByTextAt_later rfl rfl tie noOwnUnsafe
theorem verityTrue_row_tie : Rows.verityTrueRow.laidByTextAt .later Tryz.pinned [.data, .data, .data, .data] true :=
  OpenClaim.laidByTextAt_later rfl rfl tie noOwnUnsafe
theorem verityPlaysUpto_row_tie : Rows.verityPlaysUptoRow.laidByTextAt .later Tryz.pinned [.data, .data, .data, .data] true :=
  OpenClaim.laidByTextAt_later rfl rfl tie noOwnUnsafe
theorem verityTrueUpto_row_tie : Rows.verityTrueUptoRow.laidByTextAt .later Tryz.pinned [.data, .data, .data, .data] true :=
  OpenClaim.laidByTextAt_later rfl rfl tie noOwnUnsafe
end Go.Proofs.YteopoodhclljjaaGreatDoor
