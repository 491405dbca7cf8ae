/-
  The law MixBack: its walk.
-/
import Derived.Test.YtnnkpblagmfonaaDoorMix
namespace Go.Proofs.YtnnkpblagmfonaaDoor
open Go.RowKit

theorem turn_zero (w : World) : Calls Tryd.prog 19 #[.int .u64 0] w fun e w' => e = .returned (.int .u64 16294208416658607535) ∧ w = w' := by
  have h := turn_bv 0#64 w
  have e : ((Mx.turnB 0#64).toNat : Int) = 16294208416658607535 := by decide
  rw [e] at h
  exact h
theorem check_nil (w : World) : Calls Tryd.prog 59 #[.slice none 0 0] w fun e w' => e = .returned .nilIface ∧ w = w' := by
  go_enter Tryd.func59, Tryd.ntmps59
  go_wp2_with fail
  go_loop [11] (fun iv => iv = .int .i64 0) (fun _ => 0)
  case atStart => rfl
  case round =>
    subst hrel
    go_wp2
    go_ret
    exact ⟨rfl, rfl⟩
theorem mixed_any (w : World) : Calls Tryd.prog 18 #[] w fun e w' => e = .returned (.bool true) ∧ w = w' := by
  go_enter Tryd.func18, Tryd.ntmps18
  go_wp2_with (first
    | (go_at_call 19; refine (turn_zero _).mono ?_; rintro e w1 ⟨rfl, rfl⟩)
    | (go_at_call 59; refine (check_nil _).mono ?_; rintro e w1 ⟨rfl, rfl⟩))
  go_ret
  exact ⟨rfl, rfl⟩


theorem ret_bool {a b : Bool} (h : a = b) : Ending.returned (.bool a) = .returned (.bool b) := by rw [h]

set_option maxHeartbeats 1000000 in
theorem mixBack_any (a b : BitVec 64) (w : World) :
    Calls Tryd.prog 5 #[.int .u64 (a.toNat : Int), .int .u64 (b.toNat : Int)] w fun e w' => e = .returned (.bool true) ∧ w = w' := by
  have HA : Hid (∀ W : World, Calls Tryd.prog 19 #[.int .u64 (a.toNat : Int)] W fun e w' => e = .returned (.int .u64 ((Mx.turnB a).toNat : Int)) ∧ W = w') := Lib.hid fun W => turn_bv a W
  have HB : Hid (∀ W : World, Calls Tryd.prog 19 #[.int .u64 (b.toNat : Int)] W fun e w' => e = .returned (.int .u64 ((Mx.turnB b).toNat : Int)) ∧ W = w') := Lib.hid fun W => turn_bv b W
  have fin : Hid (Mx.backB (Mx.turnB a) = a) := Lib.hid (Mx.back_turn a)
  by_cases hab : a = b
  · subst hab
    clear HB
    generalize Mx.turnB a = x at *
    go_enter Tryd.func5, Tryd.ntmps5
    go_wp2_with (first
      | (go_at_call 18; refine (mixed_any _).mono ?_; rintro e w1 ⟨rfl, rfl⟩)
      | (go_at_call 19; refine (HA.out _).mono ?_; rintro e w1 ⟨rfl, rfl⟩))
    go_ret
    refine ⟨ret_bool ?_, rfl⟩
    simp only [shr_31, shr_62, bv_xor, mul_3, shr_27, shr_54, mul_4, shr_30, shr_60, bv_sub]
    exact beq_iff_eq.2 (congrArg (fun z : BitVec 64 => (z.toNat : Int)) fin.out)
  · have hxy : Mx.turnB a ≠ Mx.turnB b := fun h => hab (Mx.turn_inj h)
    generalize Mx.turnB a = x at *
    generalize Mx.turnB b = y at *
    have n1 : ((a.toNat : Int) == (b.toNat : Int)) = false := by
      simp only [beq_eq_false_iff_ne, ne_eq, Int.natCast_inj]; exact fun h => hab (BitVec.eq_of_toNat_eq h)
    have n2 : ((x.toNat : Int) == (y.toNat : Int)) = false := by
      simp only [beq_eq_false_iff_ne, ne_eq, Int.natCast_inj]; exact fun h => hxy (BitVec.eq_of_toNat_eq h)
    clear hab hxy
    go_enter Tryd.func5, Tryd.ntmps5
    go_wp2_with fail
    refine (mixed_any _).mono ?_
    rintro e w1 ⟨rfl, rfl⟩
    go_wp2_with fail
    refine (HA.out _).mono ?_
    rintro e w1 ⟨rfl, rfl⟩
    go_wp2_with fail
    refine (HB.out _).mono ?_
    rintro e w1 ⟨rfl, rfl⟩
    go_wp2
    go_ret
    refine ⟨ret_bool ?_, rfl⟩
    simp only [shr_31, shr_62, bv_xor, mul_3, shr_27, shr_54, mul_4, shr_30, shr_60, bv_sub]
    exact beq_iff_eq.2 (congrArg (fun z : BitVec 64 => (z.toNat : Int)) fin.out)
theorem mixBack_law (k l : Nat) (w : World) (hk : U64 k) (hl : U64 l) : Calls Tryd.prog 5 #[.int .u64 (k : Int), .int .u64 (l : Int)] w (True1 w) := by
  have h := mixBack_any (BitVec.ofNat 64 k) (BitVec.ofNat 64 l) w
  rw [bv_of k hk, bv_of l hl] at h
  exact h.mono fun e w' h => ⟨h.1, by rw [← h.2]; exact Below.refl _ _⟩
end Go.Proofs.YtnnkpblagmfonaaDoor
