/-
  The walks of cmp.Compare at numbers.
-/
import Derived.Test.YtnmkdmehljkedaaGreatDoorBase
namespace Go.Proofs.YtnmkdmehljkedaaGreatDoor
open Go.RowKit

def cmpN (a b : Nat) : Int := if a < b then -1 else if b < a then 1 else 0
def IntQ (v : Int) (w : World) (e : Ending) (w' : World) : Prop := e = .returned (.int .i64 v) ∧ w = w'
theorem isNaN_u64 (a : Int) (w : World) : Calls Tryz.prog 60 #[.int .u64 a] w fun e w' => e = .returned (.bool false) ∧ w = w' := by
  go_enter Tryz.func60, Tryz.ntmps60
  go_wp2
  go_ret
  exact ⟨rfl, rfl⟩
theorem cmp_u64 (a b : Nat) (w : World) : Calls Tryz.prog 41 #[.int .u64 (a : Int), .int .u64 (b : Int)] w (IntQ (cmpN a b) w) := by
  unfold IntQ cmpN
  by_cases h1 : a < b
  · have t1 : decide (a < b) = true := by simpa using h1
    rw [if_pos h1]
    clear h1
    go_enter Tryz.func41, Tryz.ntmps41
    go_wp2_with (go_at_call 60; refine (isNaN_u64 _ _).mono ?_; rintro e w1 ⟨rfl, rfl⟩)
    go_ret
    exact ⟨rfl, rfl⟩
  · have t1 : decide (a < b) = false := by simpa using h1
    rw [if_neg h1]
    by_cases h2 : b < a
    · have t2 : decide (b < a) = true := by simpa using h2
      rw [if_pos h2]
      clear h1 h2
      go_enter Tryz.func41, Tryz.ntmps41
      go_wp2_with (go_at_call 60; refine (isNaN_u64 _ _).mono ?_; rintro e w1 ⟨rfl, rfl⟩)
      go_ret
      exact ⟨rfl, rfl⟩
    · have t2 : decide (b < a) = false := by simpa using h2
      rw [if_neg h2]
      clear h1 h2
      go_enter Tryz.func41, Tryz.ntmps41
      go_wp2_with (go_at_call 60; refine (isNaN_u64 _ _).mono ?_; rintro e w1 ⟨rfl, rfl⟩)
      go_ret
      exact ⟨rfl, rfl⟩
def cmpI (a b : Int) : Int := if a < b then -1 else if b < a then 1 else 0
theorem isNaN_int (a : Int) (w : World) : Calls Tryz.prog 67 #[.int .i64 a] w fun e w' => e = .returned (.bool false) ∧ w = w' := by
  go_enter Tryz.func67, Tryz.ntmps67
  go_wp2
  go_ret
  exact ⟨rfl, rfl⟩
theorem cmp_int (a b : Int) (w : World) : Calls Tryz.prog 54 #[.int .i64 a, .int .i64 b] w (IntQ (cmpI a b) w) := by
  unfold IntQ cmpI
  by_cases h1 : a < b
  · have t1 : decide (a < b) = true := by simpa using h1
    rw [if_pos h1]
    clear h1
    go_enter Tryz.func54, Tryz.ntmps54
    go_wp2_with (go_at_call 67; refine (isNaN_int _ _).mono ?_; rintro e w1 ⟨rfl, rfl⟩)
    go_ret
    exact ⟨rfl, rfl⟩
  · have t1 : decide (a < b) = false := by simpa using h1
    rw [if_neg h1]
    by_cases h2 : b < a
    · have t2 : decide (b < a) = true := by simpa using h2
      rw [if_pos h2]
      clear h1 h2
      go_enter Tryz.func54, Tryz.ntmps54
      go_wp2_with (go_at_call 67; refine (isNaN_int _ _).mono ?_; rintro e w1 ⟨rfl, rfl⟩)
      go_ret
      exact ⟨rfl, rfl⟩
    · have t2 : decide (b < a) = false := by simpa using h2
      rw [if_neg h2]
      clear h1 h2
      go_enter Tryz.func54, Tryz.ntmps54
      go_wp2_with (go_at_call 67; refine (isNaN_int _ _).mono ?_; rintro e w1 ⟨rfl, rfl⟩)
      go_ret
      exact ⟨rfl, rfl⟩
end Go.Proofs.YtnmkdmehljkedaaGreatDoor
