/-
  A world for the witnesses: the settled one, each listed error laid.
-/
import Derived.Test.YteilefpjfbholaaGreatDoorLaid
namespace Go.Proofs.YteilefpjfbholaaGreatDoor
open Go.RowKit

noncomputable def low : Nat := (World.holding Tryz.prog default ⟨#[], #[], []⟩).heap.size
def sentBytes : List (List UInt8) := [[116, 101, 120, 116], [98, 111, 117, 110, 100], [115, 104, 97, 112, 101], [110, 97, 109, 101], [110, 111, 110, 101], [101, 120, 105, 115, 116], [102, 117, 108, 108], [111, 108, 100], [115, 117, 109]]
def sentText (l : List UInt8) : ByteArray := ⟨([108, 101, 118, 101, 108, 104, 97, 110, 100, 58, 32] ++ l).toArray⟩
/-- Variable number g holds error number k. -/
def sentVars : List Nat := [
  4,
  2,
  6,
  3,
  0,
  7,
  8,
  1,
  5]
noncomputable def laidHeap : List (Nat × Nat) → Array Obj → Array Obj
  | [], h => h
  | (g, k) :: r, h => laidHeap r (h.modify g fun
      | .cells _ t frozen => .cells #[.iface 330 (.pointer (some ⟨low + k, 0, none⟩))] t frozen
      | o => o)
/-- errors.errorType laid too. -/
noncomputable def withHandle (h : Array Obj) : Array Obj := h.modify 9 fun
  | .cells _ t frozen => .cells #[.iface 260 (.agg #[.pointer (some ⟨18, 27, none⟩)])] t frozen
  | o => o
noncomputable def laidWorld (os : Os) : World :=
  let w0 := World.holding Tryz.prog os ⟨(sentBytes.map fun l => Obj.cells #[.string (sentText l)] 332 (0, 0)).toArray, #[], []⟩
  { w0 with heap := withHandle (laidHeap sentVars.zipIdx w0.heap) }
end Go.Proofs.YteilefpjfbholaaGreatDoor
