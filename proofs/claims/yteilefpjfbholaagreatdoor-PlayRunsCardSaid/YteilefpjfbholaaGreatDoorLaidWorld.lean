/-
  A world for the witnesses: the settled one, each listed error laid.
-/
import Derived.Test.YteilefpjfbholaaGreatDoorLaid
namespace Go.Proofs.YteilefpjfbholaaGreatDoor
open Go.RowKit

noncomputable def low : Nat := (World.holding Tryz.prog default ⟨#[], #[], []⟩).heap.size
/-- errors.errorType laid too. -/
noncomputable def withHandle (h : Array Obj) : Array Obj := h.modify 9 fun
  | .cells _ t frozen => .cells #[.iface 260 (.agg #[.pointer (some ⟨18, 27, none⟩)])] t frozen
  | o => o
end Go.Proofs.YteilefpjfbholaaGreatDoor
