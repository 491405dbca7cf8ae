/-
  DERIVED. GIVEN WITH THE SEED: THE PROGRAM's TIES (one call each: nine closed facts by the kernel) AND EACH ROW's TIE, after the 31st guide's Derived/Test/Toyas{Tie, Card}.lean. No idea stands in it: it is a product of the set-up. Laid BY PROGRAM, IN A SANDBOX (cutbox-door.mjs). By AI agents, Wed Nov 11 2026. No macro, syntax, notation, axiom, sorry.
-/
import Derived.Test.YtnmkdmehljkedaaGreatDoorRows
import Derived.LaidByTextLater
import Derived.SevenTiedAt
import Derived.LaidSub
import Derived.LaidOnce
namespace Go.Proofs.YtnmkdmehljkedaaGreatDoor
open Go
set_option maxRecDepth 100000
theorem seatTie1 : Tryz.prog.laidByTextLater [("levelhand/api.ErrBound", Rows.laid_levelhand_api_ErrBound), ("levelhand/api.ErrShape", Rows.laid_levelhand_api_ErrShape), ("levelhand/api.ErrName", Rows.laid_levelhand_api_ErrName), ("levelhand/api.ErrNone", Rows.laid_levelhand_api_ErrNone), ("levelhand/api.ErrExist", Rows.laid_levelhand_api_ErrExist), ("levelhand/api.ErrOld", Rows.laid_levelhand_api_ErrOld)] [.sentinel, .sentinel, .sentinel, .sentinel, .sentinel, .sentinel] true :=
  Program.laidByTextLater_by_one 123 8 2 (by kernel_rfl) (by kernel_rfl) (by kernel_rfl) (by kernel_rfl) (by kernel_rfl) (by kernel_rfl) (fun _ _ => by kernel_rfl)
theorem noOwnUnsafe : Tryz.pinned.checked.prog.headLifts.contains "ownunsafe" = false := by kernel_rfl
theorem tie : Tryz.prog.laidByTextLater [("levelhand/api.ErrBound", Rows.laid_levelhand_api_ErrBound), ("levelhand/api.ErrShape", Rows.laid_levelhand_api_ErrShape), ("levelhand/api.ErrName", Rows.laid_levelhand_api_ErrName), ("levelhand/api.ErrNone", Rows.laid_levelhand_api_ErrNone), ("levelhand/api.ErrExist", Rows.laid_levelhand_api_ErrExist), ("levelhand/api.ErrOld", Rows.laid_levelhand_api_ErrOld)] [.sentinel, .sentinel, .sentinel, .sentinel, .sentinel, .sentinel] true :=
  Program.laidByTextLater.sub seatTie1 ["levelhand/api.ErrBound", "levelhand/api.ErrShape", "levelhand/api.ErrName", "levelhand/api.ErrNone", "levelhand/api.ErrExist", "levelhand/api.ErrOld"] (by kernel_rfl) (by kernel_rfl)
theorem balanceFalls_row_tie : Rows.balanceFallsRow.laidByTextAt .later Tryz.pinned [.sentinel, .sentinel, .sentinel, .sentinel, .sentinel, .sentinel] true :=
  OpenClaim.laidByTextAt_later rfl rfl tie noOwnUnsafe
theorem balanceFallsUpto_row_tie : Rows.balanceFallsUptoRow.laidByTextAt .later Tryz.pinned [.sentinel, .sentinel, .sentinel, .sentinel, .sentinel, .sentinel] true :=
  OpenClaim.laidByTextAt_later rfl rfl tie noOwnUnsafe
end Go.Proofs.YtnmkdmehljkedaaGreatDoor
