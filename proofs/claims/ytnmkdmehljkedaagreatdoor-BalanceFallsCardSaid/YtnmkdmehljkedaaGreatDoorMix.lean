/-
  The walks of package mix: Turn.
-/
import Derived.Test.YtnmkdmehljkedaaGreatDoorBase
import Derived.Test.YtnmkdmehljkedaaGreatDoorMixPlain
namespace Go.Proofs.YtnmkdmehljkedaaGreatDoor
open Go.RowKit

theorem ret_u64 {a b : Int} (h : a = b) : Ending.returned (.int .u64 a) = .returned (.int .u64 b) := by rw [h]
theorem bv_of (k : Nat) (hk : U64 k) : (BitVec.ofNat 64 k).toNat = k := by
  rw [BitVec.toNat_ofNat]; exact Nat.mod_eq_of_lt hk
theorem bv_xor (a b : BitVec 64) : bits .xor .u64 (a.toNat : Int) (b.toNat : Int) = ((a ^^^ b).toNat : Int) := by
  rw [bits_xor_u64_nat _ _ a.isLt b.isLt, BitVec.toNat_xor]
theorem bv_add (a : BitVec 64) (c : Nat) : IntKind.u64.wrap ((a.toNat : Int) + (c : Int)) = ((a + BitVec.ofNat 64 c).toNat : Int) := by
  rw [IntKind.wrap_u64, BitVec.toNat_add, BitVec.toNat_ofNat]; omega
theorem bv_mul (a : BitVec 64) (c : Nat) : IntKind.u64.wrap ((a.toNat : Int) * (c : Int)) = ((a * BitVec.ofNat 64 c).toNat : Int) := by
  rw [IntKind.wrap_u64, BitVec.toNat_mul, BitVec.toNat_ofNat, Nat.mul_mod_mod, Int.natCast_emod, Int.natCast_mul]; rfl
theorem bv_shr (a : BitVec 64) (s : Nat) : ((a.toNat : Int) / ((2 ^ s : Nat) : Int)) = ((a >>> s).toNat : Int) := by
  rw [BitVec.toNat_ushiftRight, Nat.shiftRight_eq_div_pow, Int.natCast_ediv]
theorem bv_sub (a : BitVec 64) : IntKind.u64.wrap ((a.toNat : Int) - (11400714819323198485 : Int)) = ((a - 0x9E3779B97F4A7C15#64).toNat : Int) := by
  rw [IntKind.wrap_u64, BitVec.toNat_sub]
  simp only [BitVec.toNat_ofNat]
  omega
theorem add_G (a : BitVec 64) : IntKind.u64.wrap ((a.toNat : Int) + (11400714819323198485 : Int)) = ((a + 0x9E3779B97F4A7C15#64).toNat : Int) := bv_add a 0x9E3779B97F4A7C15
theorem mul_1 (a : BitVec 64) : IntKind.u64.wrap ((a.toNat : Int) * (13787848793156543929 : Int)) = ((a * 0xBF58476D1CE4E5B9#64).toNat : Int) := bv_mul a 0xBF58476D1CE4E5B9
theorem mul_2 (a : BitVec 64) : IntKind.u64.wrap ((a.toNat : Int) * (10723151780598845931 : Int)) = ((a * 0x94D049BB133111EB#64).toNat : Int) := bv_mul a 0x94D049BB133111EB
theorem mul_3 (a : BitVec 64) : IntKind.u64.wrap ((a.toNat : Int) * (3573116690164977347 : Int)) = ((a * 0x319642B2D24D8EC3#64).toNat : Int) := bv_mul a 0x319642B2D24D8EC3
theorem mul_4 (a : BitVec 64) : IntKind.u64.wrap ((a.toNat : Int) * (10871156337175269513 : Int)) = ((a * 0x96DE1B173F119089#64).toNat : Int) := bv_mul a 0x96DE1B173F119089
theorem shr_27 (a : BitVec 64) : ((a.toNat : Int) / (134217728 : Int)) = ((a >>> 27).toNat : Int) := bv_shr a 27
theorem shr_30 (a : BitVec 64) : ((a.toNat : Int) / (1073741824 : Int)) = ((a >>> 30).toNat : Int) := bv_shr a 30
theorem shr_31 (a : BitVec 64) : ((a.toNat : Int) / (2147483648 : Int)) = ((a >>> 31).toNat : Int) := bv_shr a 31
theorem shr_54 (a : BitVec 64) : ((a.toNat : Int) / (18014398509481984 : Int)) = ((a >>> 54).toNat : Int) := bv_shr a 54
theorem shr_60 (a : BitVec 64) : ((a.toNat : Int) / (1152921504606846976 : Int)) = ((a >>> 60).toNat : Int) := bv_shr a 60
theorem shr_62 (a : BitVec 64) : ((a.toNat : Int) / (4611686018427387904 : Int)) = ((a >>> 62).toNat : Int) := bv_shr a 62

theorem turn_bv (x : BitVec 64) (w : World) : Calls Tryz.prog 33 #[.int .u64 (x.toNat : Int)] w fun e w' => e = .returned (.int .u64 ((Mx.turnB x).toNat : Int)) ∧ w = w' := by
  go_enter Tryz.func33, Tryz.ntmps33
  go_wp2
  go_ret
  exact ⟨ret_u64 (by simp only [add_G, shr_30, bv_xor, mul_1, shr_27, mul_2, shr_31]; rfl), rfl⟩
theorem turn_any (k : Nat) (w : World) (hk : U64 k) : Calls Tryz.prog 33 #[.int .u64 (k : Int)] w fun e w' => e = .returned (.int .u64 ((Mx.turn k : Nat) : Int)) ∧ w = w' := by
  have h := turn_bv (BitVec.ofNat 64 k) w
  rw [bv_of k hk] at h
  exact h
end Go.Proofs.YtnmkdmehljkedaaGreatDoor
