/-
  A row of a table: rowOf, next.
-/
import Derived.Test.YtbbbnnooaaelmaaDoorTabPlain
import Derived.Test.YtbbbnnooaaelmaaDoorKeep
import Derived.Deep.RegionHeld3
namespace Go.Proofs.YtbbbnnooaaelmaaDoor
open Go.RowKit

def RowOfPost (s : ByteArray) (n : Nat) (w : World) (e : Ending) (w' : World) : Prop := e = .returned (.agg #[.int .i64 (rowAt s n 0 : Int), .int .i64 (skipOf s n : Int)]) ∧ Below w.heap.size w w'
set_option maxRecDepth 100000 in
set_option maxHeartbeats 1000000 in
theorem rowOf_any (s : ByteArray) (n : Nat) (w : World) (hs : s.size ≤ maxLen) (hn : 2 ≤ n) (hn5 : n ≤ 503) : Calls Tryd.prog 63 #[.string s, .int .i64 (n : Int)] w (RowOfPost s n w) := by
  have H1 : Hid (∀ W, Calls Tryd.prog 23 #[.string s, .int .u64 1] W (NumIs (ofN s 1) W)) := Lib.hid fun W => of_any s 1 W hs (by unfold U64; omega)
  have H2 : Hid (∀ W, Calls Tryd.prog 23 #[.string s, .int .u64 2] W (NumIs (ofN s 2) W)) := Lib.hid fun W => of_any s 2 W hs (by unfold U64; omega)
  unfold NumIs at H1 H2
  have e0 : rowAt s n 0 = ofN s 1 % n := rowAt_zero s n
  have l1 := Nat.mod_lt (ofN s 1) (show 0 < n by omega)
  have l2 := Nat.mod_lt (ofN s 2) (show 0 < n - 1 by omega)
  unfold RowOfPost skipOf
  rw [e0]
  generalize ofN s 1 = x at *
  generalize ofN s 2 = y at *
  have q0 : IntKind.u64.wrap (n : Int) = (n : Int) := IntWalk.u64_in _ (by omega)
  have q1 : ¬ (n : Int) = 0 := by omega
  have q2 : IntKind.u64.wrap ((n : Int) - 1) = ((n - 1 : Nat) : Int) := by rw [IntWalk.u64_in _ (by omega)]; omega
  have q3 : ¬ ((n - 1 : Nat) : Int) = 0 := by omega
  have q4 : IntKind.u64.wrap ((x : Int).tmod (n : Int)) = ((x % n : Nat) : Int) := by
    rw [Int.tmod_eq_emod_of_nonneg (by omega)]
    exact IntWalk.u64_in _ (by have : (x : Int) % (n : Int) = ((x % n : Nat) : Int) := rfl; omega)
  have q5 : IntKind.u64.wrap ((y : Int).tmod ((n - 1 : Nat) : Int)) = ((y % (n - 1) : Nat) : Int) := by
    rw [Int.tmod_eq_emod_of_nonneg (by omega)]
    exact IntWalk.u64_in _ (by have : (y : Int) % ((n - 1 : Nat) : Int) = ((y % (n - 1) : Nat) : Int) := rfl; omega)
  have q6 : IntKind.i64.wrap ((x % n : Nat) : Int) = ((x % n : Nat) : Int) := IntWalk.i64_in _ (by omega)
  have q7 : IntKind.i64.wrap ((y % (n - 1) : Nat) : Int) = ((y % (n - 1) : Nat) : Int) := IntWalk.i64_in _ (by omega)
  have q8 : IntKind.i64.wrap (1 + ((y % (n - 1) : Nat) : Int)) = ((1 + y % (n - 1) : Nat) : Int) := by rw [IntWalk.i64_in _ (by omega)]; omega
  have q4b : IntKind.u64.wrap ((x : Int) % (n : Int)) = ((x % n : Nat) : Int) := IntWalk.u64_in _ (by have : (x : Int) % (n : Int) = ((x % n : Nat) : Int) := rfl; omega)
  have q5b : IntKind.u64.wrap ((y : Int) % ((n - 1 : Nat) : Int)) = ((y % (n - 1) : Nat) : Int) := IntWalk.u64_in _ (by have : (y : Int) % ((n - 1 : Nat) : Int) = ((y % (n - 1) : Nat) : Int) := rfl; omega)
  have q4c : IntKind.i64.wrap ((x : Int).tmod (n : Int)) = ((x % n : Nat) : Int) := by
    rw [Int.tmod_eq_emod_of_nonneg (by omega)]
    exact IntWalk.i64_in _ (by have : (x : Int) % (n : Int) = ((x % n : Nat) : Int) := rfl; omega)
  have q5c : IntKind.i64.wrap ((y : Int).tmod ((n - 1 : Nat) : Int)) = ((y % (n - 1) : Nat) : Int) := by
    rw [Int.tmod_eq_emod_of_nonneg (by omega)]
    exact IntWalk.i64_in _ (by have : (y : Int) % ((n - 1 : Nat) : Int) = ((y % (n - 1) : Nat) : Int) := rfl; omega)
  have q1b : ¬ n = 0 := by omega
  have q3b : ¬ n - 1 = 0 := by omega
  generalize x % n = xm at *
  generalize y % (n - 1) = ym at *
  generalize n - 1 = n1 at *
  clear e0 hs
  go_enter Tryd.func63, Tryd.ntmps63
  go_wp2_with fail
  go_region_held3 (fun w' => True) (trivial)
    (first
      | (go_at_call 23; (with_reducible refine (H1.out _).mono ?_); rintro e w5 ⟨rfl, rfl⟩)
      | (go_at_call 23; (with_reducible refine (H2.out _).mono ?_); rintro e w5 ⟨rfl, rfl⟩))
  go_wp2
  refine bodyPost_ret (v := .agg #[.int .i64 (xm : Int), .int .i64 ((1 + ym : Nat) : Int)]) (by simp [results, Tryd.results63, go_sem]) rfl ⟨rfl, ?_⟩
  exact below_drewN ((Below.refl _ _).alloc (Nat.le_refl _) _) 1
/-- The row's pointer and so many calls. -/
def NextPost (g a s n : Nat) (w : World) (e : Ending) (w' : World) : Prop := e = .returned (.int .i64 (a : Int)) ∧ w' = (w.setCell ⟨g, 0, none⟩ (.int .i64 (((a + s) % n : Nat) : Int))).drew
set_option maxRecDepth 100000 in
set_option maxHeartbeats 1000000 in
theorem next_row (g a s n : Nat) (w : World) (ha : a < 503) (hs : s ≤ 503) (hn : 2 ≤ n) (hn5 : n ≤ 503) (h0 : w.cell? ⟨g, 0, none⟩ = some (.int .i64 (a : Int))) (h1 : w.cell? ⟨g, 1, none⟩ = some (.int .i64 (s : Int))) (hf : w.frozen? ⟨g, 0, none⟩ = false) :
    Calls Tryd.prog 65 #[.pointer (some ⟨g, 0, none⟩), .int .i64 (n : Int)] w (NextPost g a s n w) := by
  have q1 : IntKind.i64.wrap ((a : Int) + (s : Int)) = (a : Int) + (s : Int) := IntWalk.i64_in _ (by omega)
  have q2 : ¬ (n : Int) = 0 := by omega
  have q3 : IntKind.i64.wrap (((a : Int) + (s : Int)).tmod (n : Int)) = (((a + s) % n : Nat) : Int) := by
    rw [Int.tmod_eq_emod_of_nonneg (by omega)]
    have e : ((a : Int) + (s : Int)) % (n : Int) = (((a + s) % n : Nat) : Int) := rfl
    rw [e]
    have := Nat.mod_lt (a + s) (show 0 < n by omega)
    exact IntWalk.i64_in _ (by omega)
  unfold NextPost
  go_enter Tryd.func65, Tryd.ntmps65
  go_wp2
  go_region
  go_wp2
  go_ret
  exact ⟨rfl, rfl⟩
end Go.Proofs.YtbbbnnooaaelmaaDoor
