/-
  DERIVED. GIVEN WITH THE SEED: THE PROGRAM's TIES (one call each: nine closed facts by the kernel) AND EACH ROW's TIE, after the 31st guide's Derived/Test/Toyas{Tie, Card}.lean. No idea stands in it: it is a product of the set-up. Laid BY PROGRAM, IN A SANDBOX (cutbox-door.mjs). By AI agents, Wed Nov 11 2026. No macro, syntax, notation, axiom, sorry.
-/
import Derived.Test.YteopoodhclljjaaDoorRows
import Derived.LaidByTextLater
import Derived.SevenTiedAt
import Derived.LaidSub
import Derived.LaidOnce
namespace Go.Proofs.YteopoodhclljjaaDoor
open Go
set_option maxRecDepth 100000
theorem seatTie1 : Tryd.prog.laidByTextLater [("sallyport/longsum.rounds", Rows.laid_sallyport_longsum_rounds), ("sallyport/longsum.first", Rows.laid_sallyport_longsum_first), ("sallyport/shortsum.rounds", Rows.laid_sallyport_shortsum_rounds), ("sallyport/shortsum.first", Rows.laid_sallyport_shortsum_first)] [.data, .data, .data, .data] true :=
  Program.laidByTextLater_by_one 29 8 81 (by kernel_rfl) (by kernel_rfl) (by kernel_rfl) (by kernel_rfl) (by kernel_rfl) (by kernel_rfl) (fun _ _ => by kernel_rfl)
theorem noOwnUnsafe : Tryd.pinned.checked.prog.headLifts.contains "ownunsafe" = false := by kernel_rfl
theorem tie : Tryd.prog.laidByTextLater [("sallyport/longsum.rounds", Rows.laid_sallyport_longsum_rounds), ("sallyport/longsum.first", Rows.laid_sallyport_longsum_first), ("sallyport/shortsum.rounds", Rows.laid_sallyport_shortsum_rounds), ("sallyport/shortsum.first", Rows.laid_sallyport_shortsum_first)] [.data, .data, .data, .data] true :=
  Program.laidByTextLater.sub seatTie1 ["sallyport/longsum.rounds", "sallyport/longsum.first", "sallyport/shortsum.rounds", "sallyport/shortsum.first"] (by kernel_rfl) (by kernel_rfl)
theorem verityOrder_row_tie : Rows.verityOrderRow.laidByTextAt .later Tryd.pinned [.data, .data, .data, .data] true :=
  OpenClaim.laidByTextAt_later rfl rfl tie noOwnUnsafe
theorem verityMost_row_tie : Rows.verityMostRow.laidByTextAt .later Tryd.pinned [.data, .data, .data, .data] true :=
  OpenClaim.laidByTextAt_later rfl rfl tie noOwnUnsafe
theorem verityFair_row_tie : Rows.verityFairRow.laidByTextAt .later Tryd.pinned [.data, .data, .data, .data] true :=
  OpenClaim.laidByTextAt_later rfl rfl tie noOwnUnsafe
theorem verityModes_row_tie : Rows.verityModesRow.laidByTextAt .later Tryd.pinned [.data, .data, .data, .data] true :=
  OpenClaim.laidByTextAt_later rfl rfl tie noOwnUnsafe
theorem verityOrderUpto_row_tie : Rows.verityOrderUptoRow.laidByTextAt .later Tryd.pinned [.data, .data, .data, .data] true :=
  OpenClaim.laidByTextAt_later rfl rfl tie noOwnUnsafe
theorem verityMostUpto_row_tie : Rows.verityMostUptoRow.laidByTextAt .later Tryd.pinned [.data, .data, .data, .data] true :=
  OpenClaim.laidByTextAt_later rfl rfl tie noOwnUnsafe
theorem verityFairUpto_row_tie : Rows.verityFairUptoRow.laidByTextAt .later Tryd.pinned [.data, .data, .data, .data] true :=
  OpenClaim.laidByTextAt_later rfl rfl tie noOwnUnsafe
theorem verityModesUpto_row_tie : Rows.verityModesUptoRow.laidByTextAt .later Tryd.pinned [.data, .data, .data, .data] true :=
  OpenClaim.laidByTextAt_later rfl rfl tie noOwnUnsafe
end Go.Proofs.YteopoodhclljjaaDoor
