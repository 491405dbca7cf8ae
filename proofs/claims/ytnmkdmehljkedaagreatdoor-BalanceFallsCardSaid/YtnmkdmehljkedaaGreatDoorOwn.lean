/-
  The walks of OwnKeys and OwnTexts: a list in memory of its own.
-/
import Derived.Test.YtnmkdmehljkedaaGreatDoorLists
import Derived.Test.YtnmkdmehljkedaaGreatDoorKeys
namespace Go.Proofs.YtnmkdmehljkedaaGreatDoor
open Go.RowKit

theorem info_u64 : (Tryz.prog.info? 32).map (fun i => (i.zero, i.size, i.bytes)) = some (some (.int .u64 0), 1, 8) := by kernel_rfl
def OwnPost (E : TypeId) (n : Nat) (xs : List Value) (w : World) (e : Ending) (w' : World) : Prop :=
  ∃ A cap, e = .returned (.slice A n cap) ∧ w'.ownsRow w.heap.size E 1 (.slice A n cap) n xs ∧ Below w.heap.size w w'
theorem ownPost_of {E : TypeId} {n : Nat} {xs : List Value} {w w' : World} {v : Value} (h : w'.ownsRow w.heap.size E 1 v n xs) (hb : Below w.heap.size w w') : OwnPost E n xs w (.returned v) w' := by
  obtain ⟨A, cap, rfl, _⟩ := own_slice h
  exact ⟨A, cap, rfl, h, hb⟩
theorem own_none (w : World) (b : Nat) (E : TypeId) : w.ownsRow b E 1 (.slice none 0 0) 0 [] := ⟨rfl, .inl ⟨rfl, rfl⟩⟩

end Go.Proofs.YtnmkdmehljkedaaGreatDoor
