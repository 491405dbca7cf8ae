/-
  DERIVED. GIVEN WITH THE SEED: THE PROGRAM's TIES (one call each: nine closed facts by the kernel) AND EACH ROW's TIE, after the 31st guide's Derived/Test/Toyas{Tie, Card}.lean. No idea stands in it: it is a product of the set-up. Laid BY PROGRAM, IN A SANDBOX (cutbox-door.mjs). By AI agents, Wed Nov 11 2026. No macro, syntax, notation, axiom, sorry.
-/
import Derived.Test.YtlgnhifjakkodaaDoorRows
import Derived.LaidByTextLater
import Derived.SevenTiedAt
import Derived.LaidSub
import Derived.LaidOnce
namespace Go.Proofs.YtlgnhifjakkodaaDoor
open Go
set_option maxRecDepth 100000
theorem seatTie1 : Tryd.prog.laidByTextLater [("errors.errorType", Rows.laid_errors_errorType), ("levelhand/api.ErrText", Rows.laid_levelhand_api_ErrText), ("levelhand/api.ErrBound", Rows.laid_levelhand_api_ErrBound), ("levelhand/api.ErrShape", Rows.laid_levelhand_api_ErrShape), ("levelhand/api.ErrName", Rows.laid_levelhand_api_ErrName), ("levelhand/api.ErrNone", Rows.laid_levelhand_api_ErrNone), ("levelhand/api.ErrExist", Rows.laid_levelhand_api_ErrExist), ("levelhand/api.ErrFull", Rows.laid_levelhand_api_ErrFull), ("levelhand/api.ErrOld", Rows.laid_levelhand_api_ErrOld), ("levelhand/api.ErrSum", Rows.laid_levelhand_api_ErrSum)] [.handle, .sentinel, .sentinel, .sentinel, .sentinel, .sentinel, .sentinel, .sentinel, .sentinel, .sentinel] true :=
  Program.laidByTextLater_by_one 187 8 2 (by kernel_rfl) (by kernel_rfl) (by kernel_rfl) (by kernel_rfl) (by kernel_rfl) (by kernel_rfl) (fun _ _ => by kernel_rfl)
theorem noOwnUnsafe : Tryd.pinned.checked.prog.headLifts.contains "ownunsafe" = false := by kernel_rfl
theorem tie : Tryd.prog.laidByTextLater [("levelhand/api.ErrBound", Rows.laid_levelhand_api_ErrBound), ("levelhand/api.ErrName", Rows.laid_levelhand_api_ErrName), ("levelhand/api.ErrOld", Rows.laid_levelhand_api_ErrOld)] [.sentinel, .sentinel, .sentinel] true :=
  Program.laidByTextLater.sub seatTie1 ["levelhand/api.ErrBound", "levelhand/api.ErrName", "levelhand/api.ErrOld"] (by kernel_rfl) (by kernel_rfl)
theorem flowsStay_row_tie : Rows.flowsStayRow.laidByTextAt .later Tryd.pinned [.sentinel, .sentinel, .sentinel] true :=
  OpenClaim.laidByTextAt_later rfl rfl tie noOwnUnsafe
theorem tie2 : Tryd.prog.laidByTextLater [("errors.errorType", Rows.laid_errors_errorType), ("levelhand/api.ErrText", Rows.laid_levelhand_api_ErrText), ("levelhand/api.ErrBound", Rows.laid_levelhand_api_ErrBound), ("levelhand/api.ErrShape", Rows.laid_levelhand_api_ErrShape), ("levelhand/api.ErrName", Rows.laid_levelhand_api_ErrName), ("levelhand/api.ErrNone", Rows.laid_levelhand_api_ErrNone), ("levelhand/api.ErrExist", Rows.laid_levelhand_api_ErrExist), ("levelhand/api.ErrFull", Rows.laid_levelhand_api_ErrFull), ("levelhand/api.ErrOld", Rows.laid_levelhand_api_ErrOld), ("levelhand/api.ErrSum", Rows.laid_levelhand_api_ErrSum)] [.handle, .sentinel, .sentinel, .sentinel, .sentinel, .sentinel, .sentinel, .sentinel, .sentinel, .sentinel] true :=
  Program.laidByTextLater.sub seatTie1 ["errors.errorType", "levelhand/api.ErrText", "levelhand/api.ErrBound", "levelhand/api.ErrShape", "levelhand/api.ErrName", "levelhand/api.ErrNone", "levelhand/api.ErrExist", "levelhand/api.ErrFull", "levelhand/api.ErrOld", "levelhand/api.ErrSum"] (by kernel_rfl) (by kernel_rfl)
theorem flowsActs_row_tie : Rows.flowsActsRow.laidByTextAt .later Tryd.pinned [.handle, .sentinel, .sentinel, .sentinel, .sentinel, .sentinel, .sentinel, .sentinel, .sentinel, .sentinel] true :=
  OpenClaim.laidByTextAt_later rfl rfl tie2 noOwnUnsafe
theorem flowsStayUpto_row_tie : Rows.flowsStayUptoRow.laidByTextAt .later Tryd.pinned [.sentinel, .sentinel, .sentinel] true :=
  OpenClaim.laidByTextAt_later rfl rfl tie noOwnUnsafe
theorem flowsActsUpto_row_tie : Rows.flowsActsUptoRow.laidByTextAt .later Tryd.pinned [.handle, .sentinel, .sentinel, .sentinel, .sentinel, .sentinel, .sentinel, .sentinel, .sentinel, .sentinel] true :=
  OpenClaim.laidByTextAt_later rfl rfl tie2 noOwnUnsafe
end Go.Proofs.YtlgnhifjakkodaaDoor
