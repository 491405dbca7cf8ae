/-
  The reference's numbers: TurnOf, NumberOf.
-/
import Derived.Test.YteilefpjfbholaaGreatDoorMixes
namespace Go.Proofs.YteilefpjfbholaaGreatDoor
open Go.RowKit

theorem wrap_bv (a : BitVec 64) : IntKind.u64.wrap (a.toNat : Int) = (a.toNat : Int) := by
  have h := bv_add a 0
  simpa using h
theorem quo_27 (a : BitVec 64) : IntKind.u64.wrap ((a.toNat : Int).tdiv (134217728 : Int)) = ((a >>> 27).toNat : Int) := by
  rw [Int.tdiv_eq_ediv_of_nonneg (Int.natCast_nonneg _), shr_27, wrap_bv]
theorem quo_30 (a : BitVec 64) : IntKind.u64.wrap ((a.toNat : Int).tdiv (1073741824 : Int)) = ((a >>> 30).toNat : Int) := by
  rw [Int.tdiv_eq_ediv_of_nonneg (Int.natCast_nonneg _), shr_30, wrap_bv]
theorem quo_31 (a : BitVec 64) : IntKind.u64.wrap ((a.toNat : Int).tdiv (2147483648 : Int)) = ((a >>> 31).toNat : Int) := by
  rw [Int.tdiv_eq_ediv_of_nonneg (Int.natCast_nonneg _), shr_31, wrap_bv]
theorem turnOf_bv (x : BitVec 64) (w : World) : Calls Tryz.prog 30 #[.int .u64 (x.toNat : Int)] w fun e w' => e = .returned (.int .u64 ((Mx.turnB x).toNat : Int)) ∧ w = w' := by
  go_enter Tryz.func30, Tryz.ntmps30
  go_wp2
  go_ret
  exact ⟨ret_u64 (by simp only [add_G, quo_30, bv_xor, mul_1, quo_27, mul_2, quo_31]; rfl), rfl⟩
theorem turnOf_any (k : Nat) (w : World) (hk : U64 k) : Calls Tryz.prog 30 #[.int .u64 (k : Int)] w (NumIs (Mx.turn k) w) := by
  have h := turnOf_bv (BitVec.ofNat 64 k) w
  rw [bv_of k hk] at h
  exact h
set_option maxRecDepth 100000 in
set_option maxHeartbeats 1000000 in
theorem numberOf_any (s : ByteArray) (salt : Nat) (w : World) (hs : s.size ≤ maxLen) (hk : U64 salt) : Calls Tryz.prog 108 #[.string s, .int .u64 (salt : Int)] w (NumIs (ofN s salt) w) := by
  unfold maxLen at hs
  have HT := Lib.hid (fun W => turnOf_any salt W hk)
  have HE : Hid (∀ W, Calls Tryz.prog 30 #[.int .u64 ((hashB (nums s) ^^^ BitVec.ofNat 64 (Mx.turn salt)).toNat : Int)] W (NumIs (ofN s salt) W)) := Lib.hid (fun W => turnOf_any (hashB (nums s) ^^^ BitVec.ofNat 64 (Mx.turn salt)).toNat W (bv_u64 _))
  have HX := Lib.hid (fun c (h : HashIs s s.size c) => hashIs_end h salt)
  have H0 := Lib.hid (hashIs_zero s)
  generalize Mx.turn salt = ts at *
  clear hk
  go_enter Tryz.func108, Tryz.ntmps108
  go_wp2_with fail
  go_loop [5, 6] (fun hv iv => ∃ (k : Nat) (c : Int), k ≤ s.size ∧ iv = .int .i64 (k : Int) ∧ hv = .int .u64 c ∧ Hid (HashIs s k c)) (fun _ iv => s.size - (intOf iv).toNat)
  case atStart => exact ⟨0, _, Nat.zero_le _, rfl, rfl, H0⟩
  case round =>
    obtain ⟨k, c, hk, rfl, rfl, hc⟩ := hrel
    clear H0
    by_cases hlt : k < s.size
    · have hlt2 : (k : Int) < s.size := by omega
      have HS := Lib.hid (hashIs_step hc.out hlt)
      go_wp2
      go_round
      case rel => exact ⟨k + 1, _, Nat.succ_le_of_lt hlt, by go_num, rfl, HS⟩
      case measure => exact meas_k hlt
    · obtain rfl : k = s.size := by omega
      have hge : ¬ (s.size : Int) < s.size := by omega
      go_wp2_with fail
      refine (HT.out _).mono ?_
      rintro e w1 ⟨rfl, rfl⟩
      go_wp2_with fail
      rw [HX.out _ hc.out]
      refine (HE.out _).mono ?_
      rintro e w1 ⟨rfl, rfl⟩
      go_wp2
      go_ret
      exact ⟨rfl, rfl⟩
end Go.Proofs.YteilefpjfbholaaGreatDoor
