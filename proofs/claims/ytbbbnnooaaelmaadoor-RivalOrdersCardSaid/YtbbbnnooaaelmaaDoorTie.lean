/-
  DERIVED. GIVEN WITH THE SEED: THE PROGRAM's TIES (one call each: nine closed facts by the kernel) AND EACH ROW's TIE, after the 31st guide's Derived/Test/Toyas{Tie, Card}.lean. No idea stands in it: it is a product of the set-up. Laid BY PROGRAM, IN A SANDBOX (cutbox-door.mjs). By AI agents, Wed Nov 11 2026. No macro, syntax, notation, axiom, sorry.
-/
import Derived.Test.YtbbbnnooaaelmaaDoorRows
import Derived.LaidByTextLater
import Derived.SevenTiedAt
import Derived.LaidSub
import Derived.LaidOnce
namespace Go.Proofs.YtbbbnnooaaelmaaDoor
open Go
set_option maxRecDepth 100000
theorem seatTie1 : Tryd.prog.laidByTextLater [("errors.errorType", Rows.laid_errors_errorType), ("levelhand/api.ErrText", Rows.laid_levelhand_api_ErrText), ("levelhand/api.ErrBound", Rows.laid_levelhand_api_ErrBound), ("levelhand/api.ErrShape", Rows.laid_levelhand_api_ErrShape), ("levelhand/api.ErrName", Rows.laid_levelhand_api_ErrName), ("levelhand/api.ErrNone", Rows.laid_levelhand_api_ErrNone), ("levelhand/api.ErrExist", Rows.laid_levelhand_api_ErrExist), ("levelhand/api.ErrFull", Rows.laid_levelhand_api_ErrFull), ("levelhand/api.ErrOld", Rows.laid_levelhand_api_ErrOld), ("levelhand/api.ErrSum", Rows.laid_levelhand_api_ErrSum)] [.handle, .sentinel, .sentinel, .sentinel, .sentinel, .sentinel, .sentinel, .sentinel, .sentinel, .sentinel] true :=
  Program.laidByTextLater_by_one 187 8 2 (by kernel_rfl) (by kernel_rfl) (by kernel_rfl) (by kernel_rfl) (by kernel_rfl) (by kernel_rfl) (fun _ _ => by kernel_rfl)
theorem noOwnUnsafe : Tryd.pinned.checked.prog.headLifts.contains "ownunsafe" = false := by kernel_rfl
theorem tie : Tryd.prog.laidByTextLater [("levelhand/api.ErrBound", Rows.laid_levelhand_api_ErrBound), ("levelhand/api.ErrShape", Rows.laid_levelhand_api_ErrShape), ("levelhand/api.ErrName", Rows.laid_levelhand_api_ErrName), ("levelhand/api.ErrNone", Rows.laid_levelhand_api_ErrNone), ("levelhand/api.ErrExist", Rows.laid_levelhand_api_ErrExist)] [.sentinel, .sentinel, .sentinel, .sentinel, .sentinel] true :=
  Program.laidByTextLater.sub seatTie1 ["levelhand/api.ErrBound", "levelhand/api.ErrShape", "levelhand/api.ErrName", "levelhand/api.ErrNone", "levelhand/api.ErrExist"] (by kernel_rfl) (by kernel_rfl)
theorem tableEven_row_tie : Rows.tableEvenRow.laidByTextAt .later Tryd.pinned [.sentinel, .sentinel, .sentinel, .sentinel, .sentinel] true :=
  OpenClaim.laidByTextAt_later rfl rfl tie noOwnUnsafe
theorem tie2 : Tryd.prog.laidByTextLater [("levelhand/api.ErrBound", Rows.laid_levelhand_api_ErrBound), ("levelhand/api.ErrName", Rows.laid_levelhand_api_ErrName), ("levelhand/api.ErrNone", Rows.laid_levelhand_api_ErrNone), ("levelhand/api.ErrExist", Rows.laid_levelhand_api_ErrExist)] [.sentinel, .sentinel, .sentinel, .sentinel] true :=
  Program.laidByTextLater.sub seatTie1 ["levelhand/api.ErrBound", "levelhand/api.ErrName", "levelhand/api.ErrNone", "levelhand/api.ErrExist"] (by kernel_rfl) (by kernel_rfl)
theorem rivalGoes_row_tie : Rows.rivalGoesRow.laidByTextAt .later Tryd.pinned [.sentinel, .sentinel, .sentinel, .sentinel] true :=
  OpenClaim.laidByTextAt_later rfl rfl tie2 noOwnUnsafe
theorem rivalComes_row_tie : Rows.rivalComesRow.laidByTextAt .later Tryd.pinned [.sentinel, .sentinel, .sentinel, .sentinel] true :=
  OpenClaim.laidByTextAt_later rfl rfl tie2 noOwnUnsafe
theorem tie3 : Tryd.prog.laidByTextLater [("errors.errorType", Rows.laid_errors_errorType), ("levelhand/api.ErrText", Rows.laid_levelhand_api_ErrText), ("levelhand/api.ErrBound", Rows.laid_levelhand_api_ErrBound), ("levelhand/api.ErrShape", Rows.laid_levelhand_api_ErrShape), ("levelhand/api.ErrName", Rows.laid_levelhand_api_ErrName), ("levelhand/api.ErrNone", Rows.laid_levelhand_api_ErrNone), ("levelhand/api.ErrExist", Rows.laid_levelhand_api_ErrExist), ("levelhand/api.ErrFull", Rows.laid_levelhand_api_ErrFull), ("levelhand/api.ErrOld", Rows.laid_levelhand_api_ErrOld), ("levelhand/api.ErrSum", Rows.laid_levelhand_api_ErrSum)] [.handle, .sentinel, .sentinel, .sentinel, .sentinel, .sentinel, .sentinel, .sentinel, .sentinel, .sentinel] true :=
  Program.laidByTextLater.sub seatTie1 ["errors.errorType", "levelhand/api.ErrText", "levelhand/api.ErrBound", "levelhand/api.ErrShape", "levelhand/api.ErrName", "levelhand/api.ErrNone", "levelhand/api.ErrExist", "levelhand/api.ErrFull", "levelhand/api.ErrOld", "levelhand/api.ErrSum"] (by kernel_rfl) (by kernel_rfl)
theorem mixNumbers_row_tie : Rows.mixNumbersRow.laidByTextAt .later Tryd.pinned [.handle, .sentinel, .sentinel, .sentinel, .sentinel, .sentinel, .sentinel, .sentinel, .sentinel, .sentinel] true :=
  OpenClaim.laidByTextAt_later rfl rfl tie3 noOwnUnsafe
theorem ringHosts_row_tie : Rows.ringHostsRow.laidByTextAt .later Tryd.pinned [.handle, .sentinel, .sentinel, .sentinel, .sentinel, .sentinel, .sentinel, .sentinel, .sentinel, .sentinel] true :=
  OpenClaim.laidByTextAt_later rfl rfl tie3 noOwnUnsafe
theorem fillPlaces_row_tie : Rows.fillPlacesRow.laidByTextAt .later Tryd.pinned [.handle, .sentinel, .sentinel, .sentinel, .sentinel, .sentinel, .sentinel, .sentinel, .sentinel, .sentinel] true :=
  OpenClaim.laidByTextAt_later rfl rfl tie3 noOwnUnsafe
theorem tableMakes_row_tie : Rows.tableMakesRow.laidByTextAt .later Tryd.pinned [.handle, .sentinel, .sentinel, .sentinel, .sentinel, .sentinel, .sentinel, .sentinel, .sentinel, .sentinel] true :=
  OpenClaim.laidByTextAt_later rfl rfl tie3 noOwnUnsafe
theorem tableCounts_row_tie : Rows.tableCountsRow.laidByTextAt .later Tryd.pinned [.handle, .sentinel, .sentinel, .sentinel, .sentinel, .sentinel, .sentinel, .sentinel, .sentinel, .sentinel] true :=
  OpenClaim.laidByTextAt_later rfl rfl tie3 noOwnUnsafe
theorem rivalOrders_row_tie : Rows.rivalOrdersRow.laidByTextAt .later Tryd.pinned [.handle, .sentinel, .sentinel, .sentinel, .sentinel, .sentinel, .sentinel, .sentinel, .sentinel, .sentinel] true :=
  OpenClaim.laidByTextAt_later rfl rfl tie3 noOwnUnsafe
theorem tableEvenUpto_row_tie : Rows.tableEvenUptoRow.laidByTextAt .later Tryd.pinned [.sentinel, .sentinel, .sentinel, .sentinel, .sentinel] true :=
  OpenClaim.laidByTextAt_later rfl rfl tie noOwnUnsafe
theorem rivalGoesUpto_row_tie : Rows.rivalGoesUptoRow.laidByTextAt .later Tryd.pinned [.sentinel, .sentinel, .sentinel, .sentinel] true :=
  OpenClaim.laidByTextAt_later rfl rfl tie2 noOwnUnsafe
theorem rivalComesUpto_row_tie : Rows.rivalComesUptoRow.laidByTextAt .later Tryd.pinned [.sentinel, .sentinel, .sentinel, .sentinel] true :=
  OpenClaim.laidByTextAt_later rfl rfl tie2 noOwnUnsafe
theorem mixNumbersUpto_row_tie : Rows.mixNumbersUptoRow.laidByTextAt .later Tryd.pinned [.handle, .sentinel, .sentinel, .sentinel, .sentinel, .sentinel, .sentinel, .sentinel, .sentinel, .sentinel] true :=
  OpenClaim.laidByTextAt_later rfl rfl tie3 noOwnUnsafe
theorem ringHostsUpto_row_tie : Rows.ringHostsUptoRow.laidByTextAt .later Tryd.pinned [.handle, .sentinel, .sentinel, .sentinel, .sentinel, .sentinel, .sentinel, .sentinel, .sentinel, .sentinel] true :=
  OpenClaim.laidByTextAt_later rfl rfl tie3 noOwnUnsafe
theorem fillPlacesUpto_row_tie : Rows.fillPlacesUptoRow.laidByTextAt .later Tryd.pinned [.handle, .sentinel, .sentinel, .sentinel, .sentinel, .sentinel, .sentinel, .sentinel, .sentinel, .sentinel] true :=
  OpenClaim.laidByTextAt_later rfl rfl tie3 noOwnUnsafe
theorem tableMakesUpto_row_tie : Rows.tableMakesUptoRow.laidByTextAt .later Tryd.pinned [.handle, .sentinel, .sentinel, .sentinel, .sentinel, .sentinel, .sentinel, .sentinel, .sentinel, .sentinel] true :=
  OpenClaim.laidByTextAt_later rfl rfl tie3 noOwnUnsafe
theorem tableCountsUpto_row_tie : Rows.tableCountsUptoRow.laidByTextAt .later Tryd.pinned [.handle, .sentinel, .sentinel, .sentinel, .sentinel, .sentinel, .sentinel, .sentinel, .sentinel, .sentinel] true :=
  OpenClaim.laidByTextAt_later rfl rfl tie3 noOwnUnsafe
theorem rivalOrdersUpto_row_tie : Rows.rivalOrdersUptoRow.laidByTextAt .later Tryd.pinned [.handle, .sentinel, .sentinel, .sentinel, .sentinel, .sentinel, .sentinel, .sentinel, .sentinel, .sentinel] true :=
  OpenClaim.laidByTextAt_later rfl rfl tie3 noOwnUnsafe
end Go.Proofs.YtbbbnnooaaelmaaDoor
