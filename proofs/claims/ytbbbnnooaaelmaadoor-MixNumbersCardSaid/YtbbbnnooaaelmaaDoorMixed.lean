/-
  The closed fact mixed.
-/
import Derived.Test.YtbbbnnooaaelmaaDoorMix
namespace Go.Proofs.YtbbbnnooaaelmaaDoor
open Go.RowKit

theorem turn_zero (w : World) : Calls Tryd.prog 25 #[.int .u64 0] w fun e w' => e = .returned (.int .u64 16294208416658607535) ∧ w = w' := by
  have h := turn_bv 0#64 w
  have e : ((Mx.turnB 0#64).toNat : Int) = 16294208416658607535 := by decide
  rw [e] at h
  exact h
theorem check_nil (w : World) : Calls Tryd.prog 31 #[.slice none 0 0] w fun e w' => e = .returned .nilIface ∧ w = w' := by
  go_enter Tryd.func31, Tryd.ntmps31
  go_wp2_with fail
  go_loop [11] (fun iv => iv = .int .i64 0) (fun _ => 0)
  case atStart => rfl
  case round =>
    subst hrel
    go_wp2
    go_ret
    exact ⟨rfl, rfl⟩
theorem mixed_any (w : World) : Calls Tryd.prog 22 #[] w fun e w' => e = .returned (.bool true) ∧ w = w' := by
  go_enter Tryd.func22, Tryd.ntmps22
  go_wp2_with (first
    | (go_at_call 25; refine (turn_zero _).mono ?_; rintro e w1 ⟨rfl, rfl⟩)
    | (go_at_call 31; refine (check_nil _).mono ?_; rintro e w1 ⟨rfl, rfl⟩))
  go_ret
  exact ⟨rfl, rfl⟩
end Go.Proofs.YtbbbnnooaaelmaaDoor
