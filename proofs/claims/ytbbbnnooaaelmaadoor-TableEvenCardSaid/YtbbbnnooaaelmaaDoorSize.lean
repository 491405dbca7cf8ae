/-
  table.size, and the reference's SizeError.
-/
import Derived.Test.YtbbbnnooaaelmaaDoorTabPlain
import Derived.Test.YtbbbnnooaaelmaaDoorErrs
import Derived.Test.YtbbbnnooaaelmaaDoorCheck
import Derived.Test.YtbbbnnooaaelmaaDoorKeep
namespace Go.Proofs.YtbbbnnooaaelmaaDoor
open Go.RowKit

def sizeFault (n : Int) : Option Flt := if n < 2 ∨ 503 < n then some ⟨2, none⟩ else if noDiv n.toNat then none else some ⟨3, none⟩
theorem sizeFault_none {n : Int} (h : sizeFault n = none) : ∃ k : Nat, n = (k : Int) ∧ 2 ≤ k ∧ k ≤ 503 ∧ noDiv k := by
  unfold sizeFault at h
  split at h
  · cases h
  · split at h
    · rename_i h1 h2
      exact ⟨n.toNat, by omega, by omega, by omega, h2⟩
    · cases h
theorem sizeFault_code {n : Int} {f : Flt} (h : sizeFault n = some f) : 1 ≤ f.code ∧ f.code ≤ 9 := by
  unfold sizeFault at h
  split at h
  · obtain rfl := Option.some.inj h; exact ⟨by decide, by decide⟩
  · split at h
    · cases h
    · obtain rfl := Option.some.inj h; exact ⟨by decide, by decide⟩
/-- The two variables that a size is refused by. -/
structure ErrsZ (ea : Nat → Addr) (w : World) : Prop where
  c2 : w.cell? ⟨gv 2, 0, none⟩ = some (.iface 206 (.pointer (some (ea (gv 2)))))
  c3 : w.cell? ⟨gv 3, 0, none⟩ = some (.iface 206 (.pointer (some (ea (gv 3)))))
theorem ErrsZ.below {ea : Nat → Addr} {w w' : World} (h : ErrsZ ea w) (hb : Below w.heap.size w w') : ErrsZ ea w' :=
  ⟨(hb.cell (lt_of_cell h.c2)).trans h.c2, (hb.cell (lt_of_cell h.c3)).trans h.c3⟩
def SizePost (ea : Nat → Addr) (n : Int) (w : World) (e : Ending) (w' : World) : Prop := match sizeFault n with
  | none => e = .returned .nilIface ∧ w = w'
  | some f => e = .returned (.iface 206 (.pointer (some (ea (gv f.code))))) ∧ w = w'
theorem sizePost_bad {ea : Nat → Addr} {n : Int} {f : Flt} {w : World} (h : sizeFault n = some f) : SizePost ea n w (.returned (.iface 206 (.pointer (some (ea (gv f.code)))))) w := by
  unfold SizePost; rw [h]; exact ⟨rfl, rfl⟩
theorem sizePost_good {ea : Nat → Addr} {n : Int} {w : World} (h : sizeFault n = none) : SizePost ea n w (.returned .nilIface) w := by
  unfold SizePost; rw [h]; exact ⟨rfl, rfl⟩
theorem size_ways {n : Int} (h : n < 2 ∨ 503 < n) : (decide (n < 2) = true) ∨ (decide (n < 2) = false ∧ decide (n > 503) = true) := by
  simp only [decide_eq_true_eq, decide_eq_false_iff_not]; omega
theorem mod_test (n k : Nat) : (((n : Int) % (k : Int)) == 0) = decide (n % k = 0) := by
  rw [Bool.eq_iff_iff]
  simp only [beq_iff_eq, decide_eq_true_eq]
  have : ((n : Int) % (k : Int)) = ((n % k : Nat) : Int) := rfl
  omega
set_option maxRecDepth 100000 in
set_option maxHeartbeats 1000000 in
theorem size_any (ea : Nat → Addr) (n : Int) (w : World) (hE : ErrsZ ea w) : Calls Tryd.prog 62 #[.int .i64 n] w (SizePost ea n w) := by
  have c2 := hE.c2
  have c3 := hE.c3
  dsimp only [gv] at c2 c3
  by_cases h : n < 2 ∨ 503 < n
  · have HP := Lib.hid (sizePost_bad (ea := ea) (w := w) (show sizeFault n = some ⟨2, none⟩ by unfold sizeFault; rw [if_pos h]))
    dsimp only [gv] at HP
    have hw := size_ways h
    clear h hE c3
    rcases hw with t1 | ⟨t1, t2⟩
    all_goals
      go_enter Tryd.func62, Tryd.ntmps62
      go_wp2
      go_ret
      exact HP.out
  · obtain ⟨m, rfl⟩ := Int.eq_ofNat_of_zero_le (by omega : 0 ≤ n)
    have hm2 : 2 ≤ m := by omega
    have hm5 : m ≤ 503 := by omega
    have HN := Lib.hid (fun (hd : noDiv m) => sizePost_good (ea := ea) (w := w) (show sizeFault (m : Int) = none by unfold sizeFault; rw [if_neg h, if_pos (by simpa using hd)]))
    have HB := Lib.hid (fun (hd : ¬ noDiv m) => sizePost_bad (ea := ea) (w := w) (show sizeFault (m : Int) = some ⟨3, none⟩ by unfold sizeFault; rw [if_neg h, if_neg (by simpa using hd)]))
    dsimp only [gv] at HB
    have t1 : decide ((m : Int) < 2) = false := by simp; omega
    have t2 : decide ((m : Int) > 503) = false := by simp; omega
    clear h hE c2
    go_enter Tryd.func62, Tryd.ntmps62
    go_wp2
    go_loop [3] (fun kv => ∃ k : Nat, 2 ≤ k ∧ k ≤ 24 ∧ kv = .int .i64 (k : Int) ∧ Hid (∀ j, 2 ≤ j → j < k → m % j ≠ 0)) (fun kv => 30 - (intOf kv).toNat)
    case atStart => exact ⟨2, by omega, by omega, rfl, Lib.hid fun j h1 h2 => by omega⟩
    case round =>
      obtain ⟨k, hk2, hk24, rfl, hall⟩ := hrel
      have hsq : k * k ≤ 24 * 24 := Nat.mul_le_mul hk24 hk24
      have hc : (k : Int) * (k : Int) = ((k * k : Nat) : Int) := by push_cast; rfl
      have hx0 : (0 : Int) ≤ (k : Int) * (k : Int) := by omega
      have hx1 : (k : Int) * (k : Int) ≤ 1000 := by omega
      by_cases hkk : k * k ≤ m
      · have tt : decide ((k : Int) * (k : Int) ≤ (m : Int)) = true := by rw [decide_eq_true_eq]; omega
        have hk23 : k < 24 := by
          rcases Nat.lt_or_ge k 24 with h | h
          · exact h
          · have := Nat.mul_le_mul h h; omega
        have hmt := mod_test m k
        by_cases hd : m % k = 0
        · rw [decide_eq_true hd] at hmt
          have hkm : k < m := by
            have : k * 2 ≤ k * k := Nat.mul_le_mul_left k hk2
            omega
          have HR := Lib.hid (HB.out fun hno => hno k hk2 hkm hd)
          clear hc hkk hd hsq
          go_wp2
          go_ret
          exact HR.out
        · rw [decide_eq_false hd] at hmt
          have HA : Hid (∀ j, 2 ≤ j → j < k + 1 → m % j ≠ 0) := Lib.hid fun j h1 h2 => by
            rcases Nat.lt_succ_iff_lt_or_eq.1 h2 with h | rfl
            · exact hall.out j h1 h
            · exact hd
          clear hc hkk hd hsq hall
          go_wp2
          go_round
          case rel => exact ⟨k + 1, by omega, by omega, by go_num, HA⟩
          case measure => simp [intOf]; omega
      · have tt : decide ((k : Int) * (k : Int) ≤ (m : Int)) = false := by rw [decide_eq_false_iff_not]; omega
        have HR := Lib.hid (HN.out (noDiv_of_small hall.out (by omega)))
        clear hc hkk hsq hall
        go_wp2
        go_ret
        exact HR.out
/-- The reference's number of a size's error. -/
def sizeCode (n : Int) : Nat := match sizeFault n with | none => 0 | some f => f.code
set_option maxRecDepth 100000 in
set_option maxHeartbeats 1000000 in
theorem sizeError_any (n : Int) (w : World) : Calls Tryd.prog 50 #[.int .i64 n] w fun e w' => e = .returned (.int .i64 (sizeCode n : Int)) ∧ w = w' := by
  by_cases h : n < 2 ∨ 503 < n
  · have HP : Hid (sizeCode n = 2) := Lib.hid (by unfold sizeCode sizeFault; rw [if_pos h])
    have hw := size_ways h
    clear h
    rcases hw with t1 | ⟨t1, t2⟩
    all_goals
      go_enter Tryd.func50, Tryd.ntmps50
      go_wp2
      go_ret
      exact ⟨by rw [HP.out]; rfl, rfl⟩
  · obtain ⟨m, rfl⟩ := Int.eq_ofNat_of_zero_le (by omega : 0 ≤ n)
    have hm2 : 2 ≤ m := by omega
    have hm5 : m ≤ 503 := by omega
    have HN := Lib.hid (fun (hd : noDiv m) => (show sizeCode (m : Int) = 0 by unfold sizeCode sizeFault; rw [if_neg h, if_pos (by simpa using hd)]))
    have HB := Lib.hid (fun (hd : ¬ noDiv m) => (show sizeCode (m : Int) = 3 by unfold sizeCode sizeFault; rw [if_neg h, if_neg (by simpa using hd)]))
    have t1 : decide ((m : Int) < 2) = false := by simp; omega
    have t2 : decide ((m : Int) > 503) = false := by simp; omega
    clear h
    go_enter Tryd.func50, Tryd.ntmps50
    go_wp2
    go_loop [3] (fun kv => ∃ k : Nat, 2 ≤ k ∧ k ≤ m ∧ kv = .int .i64 (k : Int) ∧ Hid (∀ j, 2 ≤ j → j < k → m % j ≠ 0)) (fun kv => m - (intOf kv).toNat)
    case atStart => exact ⟨2, by omega, hm2, rfl, Lib.hid fun j h1 h2 => by omega⟩
    case round =>
      obtain ⟨k, hk2, hkm, rfl, hall⟩ := hrel
      by_cases hlt : k < m
      · have hlt2 : (k : Int) < m := by omega
        have hmt := mod_test m k
        by_cases hd : m % k = 0
        · rw [decide_eq_true hd] at hmt
          have HR := Lib.hid (HB.out fun hno => hno k hk2 hlt hd)
          clear hd hall
          go_wp2
          go_ret
          exact ⟨by rw [HR.out]; rfl, rfl⟩
        · rw [decide_eq_false hd] at hmt
          have HA : Hid (∀ j, 2 ≤ j → j < k + 1 → m % j ≠ 0) := Lib.hid fun j h1 h2 => by
            rcases Nat.lt_succ_iff_lt_or_eq.1 h2 with h | rfl
            · exact hall.out j h1 h
            · exact hd
          clear hd hall
          go_wp2
          go_round
          case rel => exact ⟨k + 1, by omega, by omega, by go_num, HA⟩
          case measure => simp [intOf]; omega
      · obtain rfl : k = m := by omega
        have hge : ¬ (k : Int) < k := by omega
        have HR := Lib.hid (HN.out hall.out)
        clear hall
        go_wp2
        go_ret
        exact ⟨by rw [HR.out]; rfl, rfl⟩
end Go.Proofs.YtbbbnnooaaelmaaDoor
