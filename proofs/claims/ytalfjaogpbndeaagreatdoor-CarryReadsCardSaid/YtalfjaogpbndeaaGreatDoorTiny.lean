/-
  Small words that many texts share.
-/
import Derived.Test.YtalfjaogpbndeaaGreatDoorBase
namespace Go.Proofs.YtalfjaogpbndeaaGreatDoor
open Go.RowKit

def LongIs (b : Bool) (w : World) (e : Ending) (w' : World) : Prop := e = .returned (.int .i64 (if b then 1 else 0)) ∧ w = w'
theorem all_succ {α : Type} {l : List α} {k : Nat} {P : α → Prop} (hk : k < l.length) (h : ∀ t ∈ l.take k, P t) (hn : P l[k]) : ∀ t ∈ l.take (k + 1), P t := by
  intro t ht
  rw [List.take_succ_eq_append_getElem hk, List.mem_append, List.mem_singleton] at ht
  rcases ht with ht | rfl
  · exact h t ht
  · exact hn

end Go.Proofs.YtalfjaogpbndeaaGreatDoor
