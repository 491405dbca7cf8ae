/-
  The reference's CapOf; fill.Cap and CapOf where they are refused.
-/
import Derived.Test.YtbbbnnooaaelmaaDoorFillBad
namespace Go.Proofs.YtbbbnnooaaelmaaDoor
open Go.RowKit

theorem cap_more {k n p m : Nat} (hn : 1 ≤ n) (h : m * 100 * n < k * (100 + p)) : m + 1 ≤ capN k n p := by
  unfold capN
  rw [Nat.le_div_iff_mul_le (by omega), Nat.add_mul]
  have : m * (100 * n) = m * 100 * n := by rw [Nat.mul_assoc]
  omega
theorem cap_done {k n p m : Nat} (hn : 1 ≤ n) (h : ¬ m * 100 * n < k * (100 + p)) (hm : m ≤ capN k n p) : m = capN k n p := by
  have h2 : capN k n p ≤ m := by
    unfold capN
    refine Nat.le_of_lt_succ (Nat.div_lt_of_lt_mul ?_)
    have e : 100 * n * (m + 1) = m * 100 * n + 100 * n := by rw [Nat.mul_add, Nat.mul_one, Nat.mul_comm (100 * n) m, Nat.mul_assoc m 100 n]
    show _ < 100 * n * (m + 1)
    omega
  omega
theorem cap_le {k n p : Nat} (hk : k ≤ 500) (hn : 1 ≤ n) (hp : p ≤ 100) : capN k n p ≤ 1000 := by
  have h : k * (100 + p) ≤ 500 * 200 := Nat.mul_le_mul hk (by omega)
  unfold capN
  refine Nat.le_of_lt_succ (Nat.div_lt_of_lt_mul ?_)
  show _ < 100 * n * (1000 + 1)
  omega
def CapOfPost (a e0 : Nat) (w : World) (e : Ending) (w' : World) : Prop := e = .returned (.tuple #[.int .i64 (a : Int), .int .i64 (e0 : Int)]) ∧ w = w'
set_option maxRecDepth 100000 in
set_option maxHeartbeats 1000000 in
theorem capOf_ok (k n p : Nat) (w : World) (hk : k ≤ 500) (h1 : 1 ≤ n) (h2 : n ≤ 12) (hp : p ≤ 100) : Calls Tryd.prog 46 #[.int .i64 (k : Int), .int .i64 (n : Int), .int .i64 (p : Int)] w (CapOfPost (capN k n p) 0 w) := by
  have t1 : decide ((k : Int) < 0) = false := by simp
  have t2 : decide ((k : Int) > 500) = false := by simp; omega
  have t3 : decide ((n : Int) < 1) = false := by simp; omega
  have t4 : decide ((n : Int) > 12) = false := by simp; omega
  have t5 : decide ((p : Int) < 0) = false := by simp
  have t6 : decide ((p : Int) > 100) = false := by simp; omega
  have HM := Lib.hid (fun m (h : m * 100 * n < k * (100 + p)) => cap_more (k := k) (n := n) (p := p) (m := m) h1 h)
  have HD := Lib.hid (fun m (h : ¬ m * 100 * n < k * (100 + p)) (hm : m ≤ capN k n p) => cap_done (k := k) (n := n) (p := p) (m := m) h1 h hm)
  have HL := Lib.hid (cap_le (k := k) (n := n) (p := p) hk h1 hp)
  have hb0 : (0 : Int) ≤ (k : Int) * (100 + (p : Int)) := by
    have : (k : Int) * (100 + (p : Int)) = ((k * (100 + p) : Nat) : Int) := by push_cast; rfl
    omega
  have hb1 : (k : Int) * (100 + (p : Int)) ≤ 1000000 := by
    have h : k * (100 + p) ≤ 500 * 200 := Nat.mul_le_mul hk (by omega)
    have : (k : Int) * (100 + (p : Int)) = ((k * (100 + p) : Nat) : Int) := by push_cast; rfl
    omega
  unfold CapOfPost
  go_enter Tryd.func46, Tryd.ntmps46
  go_wp2
  go_loop [8] (fun mv => ∃ m : Nat, Hid (m ≤ capN k n p) ∧ mv = .int .i64 (m : Int)) (fun mv => 1001 - (intOf mv).toNat)
  case atStart => exact ⟨0, Lib.hid (Nat.zero_le _), rfl⟩
  case round =>
    obtain ⟨m, hm, rfl⟩ := hrel
    have hml : m ≤ 1000 := Nat.le_trans hm.out HL.out
    have hc : (m : Int) * 100 * (n : Int) = ((m * 100 * n : Nat) : Int) := by push_cast; rfl
    have hc2 : (k : Int) * (100 + (p : Int)) = ((k * (100 + p) : Nat) : Int) := by push_cast; rfl
    have hmn : m * 100 * n ≤ 1000 * 100 * 12 := Nat.mul_le_mul (Nat.mul_le_mul_right 100 hml) h2
    have hx0 : (0 : Int) ≤ (m : Int) * 100 * (n : Int) := by omega
    have hx1 : (m : Int) * 100 * (n : Int) ≤ 2000000 := by omega
    by_cases hlt : m * 100 * n < k * (100 + p)
    · have tt : decide ((m : Int) * 100 * (n : Int) < (k : Int) * (100 + (p : Int))) = true := by rw [decide_eq_true_eq]; omega
      have HN := Lib.hid (HM.out m hlt)
      clear hc hc2 hlt hmn
      go_wp2
      go_round
      case rel => exact ⟨m + 1, HN, by go_num⟩
      case measure => simp [intOf]; omega
    · have tt : decide ((m : Int) * 100 * (n : Int) < (k : Int) * (100 + (p : Int))) = false := by rw [decide_eq_false_iff_not]; omega
      have HN := Lib.hid (HD.out m hlt hm.out)
      clear hc hc2 hlt hmn
      go_wp2
      go_ret2
      exact ⟨by rw [← HN.out]; rfl, rfl⟩
theorem capOk_ways {k n p : Int} (h : ¬ (0 ≤ k ∧ k ≤ 500 ∧ 1 ≤ n ∧ n ≤ 12 ∧ 0 ≤ p ∧ p ≤ 100)) :
    (decide (k < 0) = true) ∨ (decide (k < 0) = false ∧ decide (k > 500) = true) ∨ (decide (k < 0) = false ∧ decide (k > 500) = false ∧ decide (n < 1) = true) ∨
    (decide (k < 0) = false ∧ decide (k > 500) = false ∧ decide (n < 1) = false ∧ decide (n > 12) = true) ∨ (decide (k < 0) = false ∧ decide (k > 500) = false ∧ decide (n < 1) = false ∧ decide (n > 12) = false ∧ decide (p < 0) = true) ∨
    (decide (k < 0) = false ∧ decide (k > 500) = false ∧ decide (n < 1) = false ∧ decide (n > 12) = false ∧ decide (p < 0) = false ∧ decide (p > 100) = true) := by
  simp only [decide_eq_true_eq, decide_eq_false_iff_not]
  omega
set_option maxRecDepth 100000 in
set_option maxHeartbeats 1000000 in
theorem capOf_no (k n p : Int) (w : World) (h : ¬ (0 ≤ k ∧ k ≤ 500 ∧ 1 ≤ n ∧ n ≤ 12 ∧ 0 ≤ p ∧ p ≤ 100)) : Calls Tryd.prog 46 #[.int .i64 k, .int .i64 n, .int .i64 p] w (CapOfPost 0 2 w) := by
  have hw := capOk_ways h
  clear h
  unfold CapOfPost
  rcases hw with t1 | ⟨t1, t2⟩ | ⟨t1, t2, t3⟩ | ⟨t1, t2, t3, t4⟩ | ⟨t1, t2, t3, t4, t5⟩ | ⟨t1, t2, t3, t4, t5, t6⟩
  all_goals
    go_enter Tryd.func46, Tryd.ntmps46
    go_wp2
    go_ret2
    exact ⟨rfl, rfl⟩
set_option maxRecDepth 100000 in
set_option maxHeartbeats 1000000 in
theorem cap_no (ea : Nat → Addr) (k n p : Int) (w : World) (hE : ErrsR ea w) (h : ¬ (0 ≤ k ∧ k ≤ 500 ∧ 1 ≤ n ∧ n ≤ 12 ∧ 0 ≤ p ∧ p ≤ 100)) : Calls Tryd.prog 45 #[.int .i64 k, .int .i64 n, .int .i64 p] w (CapBad ea w) := by
  have hw := capOk_ways h
  have c2 := hE.e3.c2
  dsimp only [gv] at c2
  clear h hE
  unfold CapBad
  rcases hw with t1 | ⟨t1, t2⟩ | ⟨t1, t2, t3⟩ | ⟨t1, t2, t3, t4⟩ | ⟨t1, t2, t3, t4, t5⟩ | ⟨t1, t2, t3, t4, t5, t6⟩
  all_goals
    go_enter Tryd.func45, Tryd.ntmps45
    go_wp2
    go_quiet (fail)
    go_wp2
    go_ret2
    exact ⟨_, _, rfl, ⟨rfl, rfl⟩, below_drewN (Below.refl _ _) _⟩
end Go.Proofs.YtbbbnnooaaelmaaDoor
