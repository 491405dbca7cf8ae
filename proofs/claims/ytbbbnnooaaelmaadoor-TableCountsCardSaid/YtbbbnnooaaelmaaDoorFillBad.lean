/-
  fill.Cap where it is refused; the relation of fill.Place.
-/
import Derived.Test.YtbbbnnooaaelmaaDoorFillPlain
namespace Go.Proofs.YtbbbnnooaaelmaaDoor
open Go.RowKit

def CapBad (ea : Nat → Addr) (w : World) (e : Ending) (w' : World) : Prop := ∃ t a, e = .returned (.tuple #[.int .i64 0, .iface t (.pointer (some a))]) ∧ IsErr ea w' ⟨2, none⟩ t a ∧ Below w.heap.size w w'
set_option maxRecDepth 100000 in
set_option maxHeartbeats 1000000 in
theorem cap_bad (ea : Nat → Addr) (k n : Nat) (p : Int) (w : World) (hE : ErrsR ea w) (hk : k ≤ 500) (h1 : 1 ≤ n) (h2 : n ≤ 12) (hp : p < 0 ∨ 100 < p) : Calls Tryd.prog 45 #[.int .i64 (k : Int), .int .i64 (n : Int), .int .i64 p] w (CapBad ea w) := by
  have t1 : decide ((k : Int) < 0) = false := by simp
  have t2 : decide ((k : Int) > 500) = false := by simp; omega
  have t3 : decide ((n : Int) < 1) = false := by simp; omega
  have t4 : decide ((n : Int) > 12) = false := by simp; omega
  have hw : decide (p < 0) = true ∨ (decide (p < 0) = false ∧ decide (p > 100) = true) := by
    simp only [decide_eq_true_eq, decide_eq_false_iff_not]; omega
  have c2 := hE.e3.c2
  dsimp only [gv] at c2
  clear hE hk h1 h2 hp
  rcases hw with t5 | ⟨t5, t6⟩
  all_goals
    go_enter Tryd.func45, Tryd.ntmps45
    go_wp2
    go_quiet (fail)
    go_wp2
    go_ret2
    exact ⟨_, _, rfl, ⟨rfl, rfl⟩, below_drewN (Below.refl _ _) _⟩
/-- The host that a key gets: of those in its order the first with room. -/
def pick (l hs : List ByteArray) (most : Nat) (xs : List Nat) : Int := match hs.find? fun s => decide (xs.count (idx l s).toNat < most) with
  | some s => idx l s
  | none => -1
/-- What fill.Place says of the keys placed so far: each host's index, with room; where all have room, the ring's host. -/
def PlaceOK (l : List ByteArray) (cp most : Nat) (keys xs : List Nat) : Prop :=
  ∀ i j, xs[i]? = some j → ∃ s, l[j]? = some s ∧ (xs.take i).count j < most ∧ ((∀ j', j' < l.length → (xs.take i).count j' < most) → ∃ k, keys[i]? = some k ∧ (hostsOf l cp k)[0]? = some s) ∧ ∃ k, keys[i]? = some k ∧ pick l (nextGo (l.length : Int) [] (hostsOf l cp k)) most (xs.take i) = j
theorem PlaceOK.nil (l : List ByteArray) (cp most : Nat) (keys : List Nat) : PlaceOK l cp most keys [] := fun i j h => by simp at h
theorem PlaceOK.add {l : List ByteArray} {cp most : Nat} {keys xs : List Nat} {j : Nat} {s : ByteArray} (h : PlaceOK l cp most keys xs) (hj : l[j]? = some s) (hc : xs.count j < most)
    (hfree : (∀ j', j' < l.length → xs.count j' < most) → ∃ k, keys[xs.length]? = some k ∧ (hostsOf l cp k)[0]? = some s) (hp : ∃ k, keys[xs.length]? = some k ∧ pick l (nextGo (l.length : Int) [] (hostsOf l cp k)) most xs = j) : PlaceOK l cp most keys (xs ++ [j]) := by
  intro i j' hi
  by_cases hlt : i < xs.length
  · rw [List.getElem?_append_left hlt] at hi
    rw [List.take_append_of_le_length (by omega)]
    exact h i j' hi
  · have hle : i < (xs ++ [j]).length := (List.getElem?_eq_some_iff.1 hi).1
    simp only [List.length_append, List.length_cons, List.length_nil] at hle
    obtain rfl : i = xs.length := by omega
    rw [List.getElem?_append_right (by omega)] at hi
    obtain rfl : j = j' := by simpa using hi
    rw [List.take_append_of_le_length (Nat.le_refl _), List.take_length]
    exact ⟨s, hj, hc, hfree, hp⟩
end Go.Proofs.YtbbbnnooaaelmaaDoor
