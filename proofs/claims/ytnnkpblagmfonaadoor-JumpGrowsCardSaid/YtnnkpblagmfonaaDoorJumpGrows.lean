/-
  The law JumpGrows: its walk.
-/
import Derived.Test.YtnnkpblagmfonaaDoorJumpPaths
namespace Go.Proofs.YtnnkpblagmfonaaDoor
open Go.RowKit

namespace Jg
/-- What 'last' holds behind m rounds. -/
def lastOf (key m : Nat) : Int := if m = 0 then -1 else Jp.B key m
theorem B_same {key m : Nat} (h : Jp.P key (m + 1) = Jp.P key m) : lastOf key m = Jp.B key (m + 1) := by
  have hm : m ≠ 0 := by
    rintro rfl
    have := Jp.P_ne (key := key) (n := 0 + 1) (by omega)
    rw [h] at this; exact this rfl
  unfold lastOf Jp.B; rw [if_neg hm, h]
theorem B_new {key m : Nat} (h : Jp.P key (m + 1) = Jp.P key m ++ [m]) : Jp.B key (m + 1) = m := by unfold Jp.B; rw [h]; simp [List.getLastD_eq_getLast?]
theorem last_lt (key m : Nat) : lastOf key m < m := by
  unfold lastOf; split
  · omega
  · have := Jp.B_lt (key := key) (n := m) (by omega); omega
theorem last_succ (key m : Nat) : lastOf key (m + 1) = Jp.B key (m + 1) := by unfold lastOf; rw [if_neg (by omega)]
end Jg

def BucketIs (b : Nat) (w : World) (e : Ending) (w' : World) : Prop := e = .returned (.tuple #[.int .i64 (b : Int), .nilIface]) ∧ Below w.heap.size w w'

set_option maxRecDepth 100000 in
set_option maxHeartbeats 2000000 in
theorem grows_of (key n : Nat) (w : World) (hk : U64 key) (h1 : 1 ≤ n) (h2 : n ≤ 300) :
    Calls Tryd.prog 3 #[.int .u64 (key : Int), .int .i64 (n : Int)] w (True1 w) := by
  obtain ⟨i0, hi, hz0, hz1, hz2⟩ := info_parts info_int
  have t1 : decide ((n : Int) < 1) = false := by simp; omega
  have t2 : decide ((n : Int) > 300) = false := by simp; omega
  go_enter Tryd.func3, Tryd.ntmps3
  go_wp2_with fail
  refine (jumped_any _).mono ?_
  rintro e w1 ⟨rfl, hb1⟩
  go_wp2_with fail
  go_loopw [6, 7, 8] (fun pv lv kv wr => ∃ m : Nat, m ≤ n ∧ kv = .int .i64 ((m : Int) + 1) ∧ lv = .int .i64 (Jg.lastOf key m) ∧ wr.ownsRow w.heap.size 3 1 pv (Jp.P key m).length (ints (Jp.P key m)) ∧ Below w.heap.size w wr) (fun _ _ kv _ => n + 1 - (intOf kv).toNat)
  case atStart => exact ⟨0, Nat.zero_le _, rfl, rfl, ⟨rfl, .inl ⟨rfl, rfl⟩⟩, hb1⟩
  case round =>
    obtain ⟨m, hm, rfl, rfl, hown, hb⟩ := hrel
    by_cases hlt : m < n
    · have k1 : decide ((m : Int) + 1 ≤ n) = true := by simp; omega
      have hB : Hid (∀ W, Calls Tryd.prog 15 #[.int .u64 (key : Int), .int .i64 ((m : Int) + 1)] W (BucketIs (Jp.B key (m + 1)) W)) :=
        Lib.hid fun W => by have := bucket_ok key (m + 1) W hk (by omega) (by omega); rw [Int.natCast_add] at this; exact this
      have hlast := Jg.last_lt key m
      have hPl := Jp.P_length key m
      rcases Jp.P_succ key m with hP | hP
      · have hs := Jg.B_same hP
        have hbl := Jp.B_lt (key := key) (n := m + 1) (by omega)
        have HE := Lib.hid (show ∃ x : Nat, x = Jp.B key (m + 1) from ⟨_, rfl⟩)
        rw [hs]
        obtain ⟨b, hbe⟩ := HE.out
        rw [← hbe] at hB hs hbl ⊢
        have k2 : decide ((m : Int) + 1 ≤ b) = false := by simp; omega
        have k3 : decide ((b : Int) ≥ (m : Int) + 1) = false := by simp; omega
        have HS := Lib.hid hs
        have HP := Lib.hid hP
        have HB := Lib.hid hbe
        clear hs hP hbe hlast HE
        go_wp2_with (go_at_call 15; refine (hB.out _).mono ?_; rintro e w2 ⟨rfl, hb2⟩)
        go_roundw
        case rel => exact ⟨m + 1, by omega, by go_num, by rw [Jg.last_succ, ← HB.out], by rw [HP.out]; exact own_below hown hb2, below_two hb hb2⟩
        case measure => simp [intOf]; omega
      · have hs := Jg.B_new hP
        rw [hs] at hB
        generalize hl : Jg.lastOf key m = last at *
        have k2 : ((m : Int) != last) = true := by simp; omega
        have k3 : ((m : Int) != (m : Int) + 1 - 1) = false := by simp
        have HS := Lib.hid hs
        have HP := Lib.hid hP
        have HL := Lib.hid hl
        clear hs hP hl
        go_wp2_with (first
          | (go_at_call 15; refine (hB.out _).mono ?_; rintro e w2 ⟨rfl, hb2⟩; have hown2 := own_below hown hb2; have hb3 := below_two hb hb2)
          | (at_builtin
             refine wpList_append_own _ rfl _ _ 24 rfl w.heap.size 3 i0 (.int .i64 0) 1 8 Tryd.underlying24 hi hz0 hz1 hz2 rfl (by decide) _ _ _ rfl (hown2.alloc _) ⟨w2.heap.size, 0, none⟩ 1 1 [.int .i64 (m : Int)] rfl rfl (cell_one_new _ _ _) (by simp [Value.oneCell']) (by simp only [maxLen]; omega) (by omega) (size_alloc1 hb3) ?_
             intro v' w3 hown3 hgrow _))
        go_roundw
        case rel => exact ⟨m + 1, by omega, by go_num, by rw [Jg.last_succ, HS.out], by rw [HP.out, ints_snoc, List.length_append]; exact hown3, below_app1 hb3 hown2 hgrow⟩
        case measure => simp [intOf]; omega
    · obtain rfl : m = n := by omega
      have k1 : decide ((m : Int) + 1 ≤ m) = false := by simp; omega
      have hp : Hid (∀ W, Calls Tryd.prog 16 #[.int .u64 (key : Int), .int .i64 (m : Int)] W (PathPost W (Jp.P key m))) := Lib.hid fun W => path_ok key m W hk h1 (by omega)
      have hPl := Jp.P_length key m
      obtain ⟨g0, cap0, he, _⟩ := hown.form (List.length_pos_iff.2 (Jp.P_ne (key := key) h1))
      subst he
      go_wp2_with (first
        | (go_at_call 16; refine (hp.out _).mono ?_; rintro e w2 ⟨g, cap, rfl, hown2⟩
           have hq := (Reads.of_own (own_below hown hown2.2))
           have hr := Reads.of_own hown2.1)
        | (go_at_call 17; refine (sameNats_yes _ _ _ _ _ _ w2 _ hr hq (by unfold maxLen; omega) ⟨0, rfl⟩).mono ?_; rintro e w3 ⟨rfl, m3, rfl⟩))
      go_ret
      exact ⟨rfl, below_drewN (below_two hb hown2.2) _⟩

theorem jumpGrows_any (key : Nat) (n : Int) (w : World) (hk : U64 key) :
    Calls Tryd.prog 3 #[.int .u64 (key : Int), .int .i64 n] w (True1 w) := by
  by_cases h1 : n < 1
  · have t1 : decide (n < 1) = true := by simpa using h1
    go_enter Tryd.func3, Tryd.ntmps3
    go_wp2_with (go_at_call 14; refine (jumped_any _).mono ?_; rintro e w1 ⟨rfl, hb1⟩)
    go_ret
    exact ⟨rfl, hb1⟩
  by_cases h2 : n > 300
  · have t1 : decide (n < 1) = false := by simpa using h1
    have t2 : decide (n > 300) = true := by simpa using h2
    go_enter Tryd.func3, Tryd.ntmps3
    go_wp2_with (go_at_call 14; refine (jumped_any _).mono ?_; rintro e w1 ⟨rfl, hb1⟩)
    go_ret
    exact ⟨rfl, hb1⟩
  obtain ⟨n', rfl⟩ := Int.eq_ofNat_of_zero_le (show 0 ≤ n by omega)
  exact grows_of key n' w hk (by omega) (by omega)
end Go.Proofs.YtnnkpblagmfonaaDoor
