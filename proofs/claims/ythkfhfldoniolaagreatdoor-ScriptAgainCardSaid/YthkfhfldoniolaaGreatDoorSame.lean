/-
  The walk of SameInts.
-/
import Derived.Test.YthkfhfldoniolaaGreatDoorBase
namespace Go.Proofs.YthkfhfldoniolaaGreatDoor
open Go.RowKit

def intV (x : Int) : Value := .int .i64 x
def Quietly (w : World) (v : Value) (e : Ending) (w' : World) : Prop := e = .returned v ∧ ∃ m, w' = w.drewN m

theorem quiet_yes {w : World} {xs ys : List Int} (h : xs = ys) (m : Nat) : Quietly w (.bool (decide (xs = ys))) (.returned (.bool true)) (w.drewN m) := ⟨by rw [decide_eq_true h], m, rfl⟩
theorem quiet_no {w : World} {xs ys : List Int} (h : xs ≠ ys) (m : Nat) : Quietly w (.bool (decide (xs = ys))) (.returned (.bool false)) (w.drewN m) := ⟨by rw [decide_eq_false h], m, rfl⟩
theorem take_eq_of {xs ys : List Int} (hl : xs.length = ys.length) {k : Nat} (h : xs.take k = ys.take k) (hk : xs.length ≤ k) : xs = ys := by
  rw [List.take_of_length_le hk, List.take_of_length_le (by omega)] at h; exact h
theorem take_succ_of {xs ys : List Int} {k : Nat} {a b : Int} (hx : xs[k]? = some a) (hy : ys[k]? = some b) (h : xs.take k = ys.take k) (hab : a = b) : xs.take (k + 1) = ys.take (k + 1) := by
  rw [List.take_add_one, List.take_add_one, hx, hy, h, hab]
theorem ne_of_get {xs ys : List Int} {k : Nat} {a b : Int} (hx : xs[k]? = some a) (hy : ys[k]? = some b) (hab : a ≠ b) : xs ≠ ys := by
  rintro rfl; rw [hx] at hy; exact hab (Option.some.inj hy)
theorem map_get {xs : List Int} {k : Nat} {u : Value} (h : (xs.map intV)[k]? = some u) : ∃ a, xs[k]? = some a ∧ u = .int .i64 a := by
  rw [List.getElem?_map] at h
  cases hx : xs[k]? with
  | none => rw [hx] at h; cases h
  | some a => rw [hx] at h; exact ⟨a, rfl, (Option.some.inj h).symm⟩

end Go.Proofs.YthkfhfldoniolaaGreatDoor
