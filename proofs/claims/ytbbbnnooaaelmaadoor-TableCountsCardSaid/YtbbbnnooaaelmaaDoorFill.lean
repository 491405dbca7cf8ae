/-
  fill.Cap.
-/
import Derived.Test.YtbbbnnooaaelmaaDoorRinged
namespace Go.Proofs.YtbbbnnooaaelmaaDoor
open Go.RowKit

def capN (k n p : Nat) : Nat := (k * (100 + p) + 100 * n - 1) / (100 * n)
def CapPost (k n p : Nat) (w : World) (e : Ending) (w' : World) : Prop := e = .returned (.tuple #[.int .i64 (capN k n p : Int), .nilIface]) ∧ w = w'
/-- All keys have room. -/
theorem cap_room {k n : Nat} (p : Nat) (hn : 1 ≤ n) : k ≤ n * capN k n p := by
  unfold capN
  have h : 0 < 100 * n := by omega
  have h1 := Nat.div_add_mod (k * (100 + p) + 100 * n - 1) (100 * n)
  have h2 := Nat.mod_lt (k * (100 + p) + 100 * n - 1) h
  have h3 : k * 100 ≤ k * (100 + p) := Nat.mul_le_mul_left _ (by omega)
  generalize (k * (100 + p) + 100 * n - 1) / (100 * n) = q at *
  generalize k * (100 + p) = kp at *
  have h4 : 100 * n * q = 100 * (n * q) := Nat.mul_assoc _ _ _
  omega
set_option maxRecDepth 100000 in
set_option maxHeartbeats 1000000 in
theorem cap_ok (k n p : Nat) (w : World) (hk : k ≤ 500) (h1 : 1 ≤ n) (h2 : n ≤ 12) (hp : p ≤ 100) : Calls Tryd.prog 45 #[.int .i64 (k : Int), .int .i64 (n : Int), .int .i64 (p : Int)] w (CapPost k n p w) := by
  have t1 : decide ((k : Int) < 0) = false := by simp
  have t2 : decide ((k : Int) > 500) = false := by simp; omega
  have t3 : decide ((n : Int) < 1) = false := by simp; omega
  have t4 : decide ((n : Int) > 12) = false := by simp; omega
  have t5 : decide ((p : Int) < 0) = false := by simp
  have t6 : decide ((p : Int) > 100) = false := by simp; omega
  have e1 : IntKind.i64.wrap (100 * (n : Int)) = 100 * (n : Int) := IntWalk.i64_in _ (by omega)
  have e2 : IntKind.i64.wrap (100 + (p : Int)) = 100 + (p : Int) := IntWalk.i64_in _ (by omega)
  have hkp : k * (100 + p) ≤ 500 * 200 := Nat.mul_le_mul hk (by omega)
  have hkc : (k : Int) * (100 + (p : Int)) = ((k * (100 + p) : Nat) : Int) := by push_cast; rfl
  have e3 : IntKind.i64.wrap ((k : Int) * (100 + (p : Int))) = ((k * (100 + p) : Nat) : Int) := by rw [hkc]; exact IntWalk.i64_in _ (by omega)
  unfold CapPost capN
  generalize k * (100 + p) = kp at *
  have e4 : IntKind.i64.wrap ((kp : Int) + 100 * (n : Int)) = (kp : Int) + 100 * (n : Int) := IntWalk.i64_in _ (by omega)
  have e5 : IntKind.i64.wrap ((kp : Int) + 100 * (n : Int) - 1) = ((kp + 100 * n - 1 : Nat) : Int) := by
    rw [IntWalk.i64_in _ (by omega)]; omega
  have e6 : (100 * (n : Int)) = ((100 * n : Nat) : Int) := by omega
  have z0 : ¬ (100 * (n : Int)) = 0 := by omega
  have e7 : wrap64 (((kp + 100 * n - 1 : Nat) : Int) / (100 * (n : Int))) = (((kp + 100 * n - 1) / (100 * n) : Nat) : Int) := by
    rw [e6, ← Int.natCast_ediv]
    have hle := Nat.div_le_self (kp + 100 * n - 1) (100 * n)
    generalize (kp + 100 * n - 1) / (100 * n) = q at *
    exact IntWalk.wrap64_in _ (by omega)
  clear hkc e6
  go_enter Tryd.func45, Tryd.ntmps45
  go_wp2
  go_ret2
  exact ⟨by simp [e7], rfl⟩
end Go.Proofs.YtbbbnnooaaelmaaDoor
