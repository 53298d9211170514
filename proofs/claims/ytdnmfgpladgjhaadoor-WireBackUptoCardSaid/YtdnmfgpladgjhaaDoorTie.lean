/-
  DERIVED. GIVEN WITH THE SEED: THE PROGRAM's TIES (one call each: nine closed facts by the kernel) AND EACH ROW's TIE, after the 31st guide's Derived/Test/Toyas{Tie, Card}.lean. No idea stands in it: it is a product of the set-up. Laid BY PROGRAM, IN A SANDBOX (cutbox-door.mjs). By AI agents, Wed Nov 11 2026. No macro, syntax, notation, axiom, sorry.
-/
import Derived.Test.YtdnmfgpladgjhaaDoorRows
import Derived.LaidByTextLater
import Derived.SevenTiedAt
import Derived.LaidSub
import Derived.LaidOnce
namespace Go.Proofs.YtdnmfgpladgjhaaDoor
open Go
set_option maxRecDepth 100000
theorem seatTie1 : Tryd.prog.laidByTextLater [("tessera/api.ErrParams", Rows.laid_tessera_api_ErrParams), ("tessera/api.ErrShape", Rows.laid_tessera_api_ErrShape), ("tessera/api.ErrSingular", Rows.laid_tessera_api_ErrSingular), ("tessera/api.ErrHalf", Rows.laid_tessera_api_ErrHalf), ("tessera/api.ErrData", Rows.laid_tessera_api_ErrData), ("tessera/api.ErrLost", Rows.laid_tessera_api_ErrLost), ("tessera/api.ErrProgram", Rows.laid_tessera_api_ErrProgram), ("tessera/api.ErrThere", Rows.laid_tessera_api_ErrThere), ("tessera/api.ErrEmpty", Rows.laid_tessera_api_ErrEmpty), ("tessera/api.ErrBytes", Rows.laid_tessera_api_ErrBytes), ("tessera/api.ErrSum", Rows.laid_tessera_api_ErrSum), ("tessera/api.ErrNumber", Rows.laid_tessera_api_ErrNumber), ("tessera/api.ErrDrive", Rows.laid_tessera_api_ErrDrive), ("tessera/api.ErrSlot", Rows.laid_tessera_api_ErrSlot), ("tessera/api.ErrMedia", Rows.laid_tessera_api_ErrMedia), ("tessera/api.ErrDown", Rows.laid_tessera_api_ErrDown), ("tessera/api.ErrFull", Rows.laid_tessera_api_ErrFull), ("tessera/api.ErrName", Rows.laid_tessera_api_ErrName), ("tessera/api.ErrGone", Rows.laid_tessera_api_ErrGone), ("tessera/api.ErrLarge", Rows.laid_tessera_api_ErrLarge), ("tessera/api.ErrBlank", Rows.laid_tessera_api_ErrBlank), ("tessera/api.ErrCatalog", Rows.laid_tessera_api_ErrCatalog), ("tessera/api.ErrCommand", Rows.laid_tessera_api_ErrCommand), ("tessera/api.ErrWorn", Rows.laid_tessera_api_ErrWorn), ("tessera/api.ErrMany", Rows.laid_tessera_api_ErrMany)] [.sentinel, .sentinel, .sentinel, .sentinel, .sentinel, .sentinel, .sentinel, .sentinel, .sentinel, .sentinel, .sentinel, .sentinel, .sentinel, .sentinel, .sentinel, .sentinel, .sentinel, .sentinel, .sentinel, .sentinel, .sentinel, .sentinel, .sentinel, .sentinel, .sentinel] true :=
  Program.laidByTextLater_by_one 484 8 2 (by kernel_rfl) (by kernel_rfl) (by kernel_rfl) (by kernel_rfl) (by kernel_rfl) (by kernel_rfl) (fun _ _ => by kernel_rfl)
theorem noOwnUnsafe : Tryd.pinned.checked.prog.headLifts.contains "ownunsafe" = false := by kernel_rfl
theorem tie : Tryd.prog.laidByTextLater [("tessera/api.ErrNumber", Rows.laid_tessera_api_ErrNumber)] [.sentinel] true :=
  Program.laidByTextLater.sub seatTie1 ["tessera/api.ErrNumber"] (by kernel_rfl) (by kernel_rfl)
theorem wireNumbers_row_tie : Rows.wireNumbersRow.laidByTextAt .later Tryd.pinned [.sentinel] true :=
  OpenClaim.laidByTextAt_later rfl rfl tie noOwnUnsafe
theorem wireWrites_row_tie : Rows.wireWritesRow.laidByTextAt .later Tryd.pinned [.sentinel] true :=
  OpenClaim.laidByTextAt_later rfl rfl tie noOwnUnsafe
theorem wireSpoilt_row_tie : Rows.wireSpoiltRow.laidByTextAt .later Tryd.pinned [.sentinel] true :=
  OpenClaim.laidByTextAt_later rfl rfl tie noOwnUnsafe
theorem tie2 : Tryd.prog.laidByTextLater [("tessera/api.ErrParams", Rows.laid_tessera_api_ErrParams), ("tessera/api.ErrShape", Rows.laid_tessera_api_ErrShape), ("tessera/api.ErrSingular", Rows.laid_tessera_api_ErrSingular), ("tessera/api.ErrHalf", Rows.laid_tessera_api_ErrHalf), ("tessera/api.ErrData", Rows.laid_tessera_api_ErrData), ("tessera/api.ErrLost", Rows.laid_tessera_api_ErrLost), ("tessera/api.ErrProgram", Rows.laid_tessera_api_ErrProgram), ("tessera/api.ErrThere", Rows.laid_tessera_api_ErrThere), ("tessera/api.ErrEmpty", Rows.laid_tessera_api_ErrEmpty), ("tessera/api.ErrBytes", Rows.laid_tessera_api_ErrBytes), ("tessera/api.ErrSum", Rows.laid_tessera_api_ErrSum), ("tessera/api.ErrNumber", Rows.laid_tessera_api_ErrNumber), ("tessera/api.ErrDrive", Rows.laid_tessera_api_ErrDrive), ("tessera/api.ErrSlot", Rows.laid_tessera_api_ErrSlot), ("tessera/api.ErrMedia", Rows.laid_tessera_api_ErrMedia), ("tessera/api.ErrDown", Rows.laid_tessera_api_ErrDown), ("tessera/api.ErrFull", Rows.laid_tessera_api_ErrFull), ("tessera/api.ErrName", Rows.laid_tessera_api_ErrName), ("tessera/api.ErrGone", Rows.laid_tessera_api_ErrGone), ("tessera/api.ErrLarge", Rows.laid_tessera_api_ErrLarge), ("tessera/api.ErrBlank", Rows.laid_tessera_api_ErrBlank), ("tessera/api.ErrCatalog", Rows.laid_tessera_api_ErrCatalog), ("tessera/api.ErrCommand", Rows.laid_tessera_api_ErrCommand), ("tessera/api.ErrWorn", Rows.laid_tessera_api_ErrWorn), ("tessera/api.ErrMany", Rows.laid_tessera_api_ErrMany)] [.sentinel, .sentinel, .sentinel, .sentinel, .sentinel, .sentinel, .sentinel, .sentinel, .sentinel, .sentinel, .sentinel, .sentinel, .sentinel, .sentinel, .sentinel, .sentinel, .sentinel, .sentinel, .sentinel, .sentinel, .sentinel, .sentinel, .sentinel, .sentinel, .sentinel] true :=
  Program.laidByTextLater.sub seatTie1 ["tessera/api.ErrParams", "tessera/api.ErrShape", "tessera/api.ErrSingular", "tessera/api.ErrHalf", "tessera/api.ErrData", "tessera/api.ErrLost", "tessera/api.ErrProgram", "tessera/api.ErrThere", "tessera/api.ErrEmpty", "tessera/api.ErrBytes", "tessera/api.ErrSum", "tessera/api.ErrNumber", "tessera/api.ErrDrive", "tessera/api.ErrSlot", "tessera/api.ErrMedia", "tessera/api.ErrDown", "tessera/api.ErrFull", "tessera/api.ErrName", "tessera/api.ErrGone", "tessera/api.ErrLarge", "tessera/api.ErrBlank", "tessera/api.ErrCatalog", "tessera/api.ErrCommand", "tessera/api.ErrWorn", "tessera/api.ErrMany"] (by kernel_rfl) (by kernel_rfl)
theorem wireReads_row_tie : Rows.wireReadsRow.laidByTextAt .later Tryd.pinned [.sentinel, .sentinel, .sentinel, .sentinel, .sentinel, .sentinel, .sentinel, .sentinel, .sentinel, .sentinel, .sentinel, .sentinel, .sentinel, .sentinel, .sentinel, .sentinel, .sentinel, .sentinel, .sentinel, .sentinel, .sentinel, .sentinel, .sentinel, .sentinel, .sentinel] true :=
  OpenClaim.laidByTextAt_later rfl rfl tie2 noOwnUnsafe
theorem wireSums_row_tie : Rows.wireSumsRow.laidByTextAt .later Tryd.pinned [.sentinel, .sentinel, .sentinel, .sentinel, .sentinel, .sentinel, .sentinel, .sentinel, .sentinel, .sentinel, .sentinel, .sentinel, .sentinel, .sentinel, .sentinel, .sentinel, .sentinel, .sentinel, .sentinel, .sentinel, .sentinel, .sentinel, .sentinel, .sentinel, .sentinel] true :=
  OpenClaim.laidByTextAt_later rfl rfl tie2 noOwnUnsafe
theorem tie3 : Tryd.prog.laidByTextLater [("tessera/api.ErrBytes", Rows.laid_tessera_api_ErrBytes), ("tessera/api.ErrNumber", Rows.laid_tessera_api_ErrNumber)] [.sentinel, .sentinel] true :=
  Program.laidByTextLater.sub seatTie1 ["tessera/api.ErrBytes", "tessera/api.ErrNumber"] (by kernel_rfl) (by kernel_rfl)
theorem wireBack_row_tie : Rows.wireBackRow.laidByTextAt .later Tryd.pinned [.sentinel, .sentinel] true :=
  OpenClaim.laidByTextAt_later rfl rfl tie3 noOwnUnsafe
theorem tie4 : Tryd.prog.laidByTextLater [("tessera/api.ErrBytes", Rows.laid_tessera_api_ErrBytes), ("tessera/api.ErrSum", Rows.laid_tessera_api_ErrSum), ("tessera/api.ErrNumber", Rows.laid_tessera_api_ErrNumber)] [.sentinel, .sentinel, .sentinel] true :=
  Program.laidByTextLater.sub seatTie1 ["tessera/api.ErrBytes", "tessera/api.ErrSum", "tessera/api.ErrNumber"] (by kernel_rfl) (by kernel_rfl)
theorem wireSlips_row_tie : Rows.wireSlipsRow.laidByTextAt .later Tryd.pinned [.sentinel, .sentinel, .sentinel] true :=
  OpenClaim.laidByTextAt_later rfl rfl tie4 noOwnUnsafe
theorem wireNumbersUpto_row_tie : Rows.wireNumbersUptoRow.laidByTextAt .later Tryd.pinned [.sentinel] true :=
  OpenClaim.laidByTextAt_later rfl rfl tie noOwnUnsafe
theorem wireWritesUpto_row_tie : Rows.wireWritesUptoRow.laidByTextAt .later Tryd.pinned [.sentinel] true :=
  OpenClaim.laidByTextAt_later rfl rfl tie noOwnUnsafe
theorem wireSpoiltUpto_row_tie : Rows.wireSpoiltUptoRow.laidByTextAt .later Tryd.pinned [.sentinel] true :=
  OpenClaim.laidByTextAt_later rfl rfl tie noOwnUnsafe
theorem wireReadsUpto_row_tie : Rows.wireReadsUptoRow.laidByTextAt .later Tryd.pinned [.sentinel, .sentinel, .sentinel, .sentinel, .sentinel, .sentinel, .sentinel, .sentinel, .sentinel, .sentinel, .sentinel, .sentinel, .sentinel, .sentinel, .sentinel, .sentinel, .sentinel, .sentinel, .sentinel, .sentinel, .sentinel, .sentinel, .sentinel, .sentinel, .sentinel] true :=
  OpenClaim.laidByTextAt_later rfl rfl tie2 noOwnUnsafe
theorem wireBackUpto_row_tie : Rows.wireBackUptoRow.laidByTextAt .later Tryd.pinned [.sentinel, .sentinel] true :=
  OpenClaim.laidByTextAt_later rfl rfl tie3 noOwnUnsafe
theorem wireSumsUpto_row_tie : Rows.wireSumsUptoRow.laidByTextAt .later Tryd.pinned [.sentinel, .sentinel, .sentinel, .sentinel, .sentinel, .sentinel, .sentinel, .sentinel, .sentinel, .sentinel, .sentinel, .sentinel, .sentinel, .sentinel, .sentinel, .sentinel, .sentinel, .sentinel, .sentinel, .sentinel, .sentinel, .sentinel, .sentinel, .sentinel, .sentinel] true :=
  OpenClaim.laidByTextAt_later rfl rfl tie2 noOwnUnsafe
theorem wireSlipsUpto_row_tie : Rows.wireSlipsUptoRow.laidByTextAt .later Tryd.pinned [.sentinel, .sentinel, .sentinel] true :=
  OpenClaim.laidByTextAt_later rfl rfl tie4 noOwnUnsafe
end Go.Proofs.YtdnmfgpladgjhaaDoor
