/-
  The walk of the reference's hexOf.
-/
import Derived.Test.YtalfjaogpbndeaaGreatDoorRefNum
namespace Go.Proofs.YtalfjaogpbndeaaGreatDoor
open Go.RowKit

def KeyOfIs (o : Option Nat) (w : World) (e : Ending) (w' : World) : Prop := e = .returned (.tuple #[.int .u64 ((o.getD 0 : Nat) : Int), .bool o.isSome]) ∧ w = w'
theorem keyIs_no {o : Option Nat} (h : o = none) (w : World) : KeyOfIs o w (.returned (.tuple #[.int .u64 0, .bool false])) w := by subst h; exact ⟨rfl, rfl⟩
theorem keyIs_yes {o : Option Nat} {n : Nat} (h : o = some n) (w : World) : KeyOfIs o w (.returned (.tuple #[.int .u64 (n : Int), .bool true])) w := by subst h; exact ⟨rfl, rfl⟩
theorem x_ways (c : UInt8) : (decide ((c.toNat : Int) ≥ 48) = true ∧ decide ((c.toNat : Int) ≤ 57) = true ∧ IsX c ∧ xd c = c.toNat - 48) ∨
    (decide ((c.toNat : Int) ≥ 48) = true ∧ decide ((c.toNat : Int) ≤ 57) = false ∧ decide ((c.toNat : Int) ≥ 97) = true ∧ decide ((c.toNat : Int) ≤ 102) = true ∧ IsX c ∧ xd c = c.toNat - 97 + 10) ∨
    (decide ((c.toNat : Int) ≥ 48) = true ∧ decide ((c.toNat : Int) ≤ 57) = false ∧ decide ((c.toNat : Int) ≥ 97) = true ∧ decide ((c.toNat : Int) ≤ 102) = false ∧ ¬ IsX c) ∨
    (decide ((c.toNat : Int) ≥ 48) = true ∧ decide ((c.toNat : Int) ≤ 57) = false ∧ decide ((c.toNat : Int) ≥ 97) = false ∧ ¬ IsX c) ∨
    (decide ((c.toNat : Int) ≥ 48) = false ∧ decide ((c.toNat : Int) ≥ 97) = false ∧ ¬ IsX c) := by
  simp only [decide_eq_true_eq, decide_eq_false_iff_not]
  unfold IsX xd
  by_cases h1 : 48 ≤ c.toNat
  · by_cases h2 : c.toNat ≤ 57
    · exact .inl ⟨by omega, by omega, .inl ⟨h1, h2⟩, if_pos h2⟩
    · rw [if_neg h2]
      by_cases h3 : 97 ≤ c.toNat
      · by_cases h4 : c.toNat ≤ 102
        · exact .inr (.inl ⟨by omega, by omega, by omega, by omega, .inr ⟨h3, h4⟩, by omega⟩)
        · exact .inr (.inr (.inl ⟨by omega, by omega, by omega, by omega, by omega⟩))
      · exact .inr (.inr (.inr (.inl ⟨by omega, by omega, by omega, by omega⟩)))
  · exact .inr (.inr (.inr (.inr ⟨by omega, by omega, by omega⟩)))
set_option maxHeartbeats 1000000 in
theorem keyOf_any (s : ByteArray) (d : Nat) (h1 : 1 ≤ d) (h16 : d ≤ 16) (w : World) :
    Calls Tryz.prog 36 #[.string s, .int .i64 (d : Int)] w (KeyOfIs (Hex.keyOf s.data.toList d) w) := by
  have hl : s.data.toList.length = s.size := by simp
  by_cases hd : s.size = d
  · have HY : Hid ((∀ c ∈ s.data.toList, IsX c) → Hex.keyOf s.data.toList d = some (xv s.data.toList)) := Lib.hid fun hx => key_yes h1 h16 (by omega) hx
    have HN : Hid (∀ k (h : k < s.size), ¬ IsX s[k] → Hex.keyOf s.data.toList d = none) := Lib.hid fun k h hk => key_no (.inr ⟨_, mem_at s k h, hk⟩)
    have hd' : (s.size : Int) = (d : Int) := by omega
    have hs16 : s.size ≤ 16 := by omega
    generalize Hex.keyOf s.data.toList d = o at *
    go_enter Tryz.func36, Tryz.ntmps36
    go_wp2
    go_loop [6, 7, 8, 9] (fun nv iv _ _ => ∃ i : Nat, i ≤ s.size ∧ iv = .int .i64 (i : Int) ∧ nv = .int .u64 (xv (s.data.toList.take i) : Int) ∧ Hid (∀ c ∈ s.data.toList.take i, IsX c)) (fun _ iv _ _ => s.size - (intOf iv).toNat)
    case atStart => exact ⟨0, Nat.zero_le _, rfl, rfl, Lib.hid (fun c hc => by simp at hc)⟩
    case round =>
      obtain ⟨i, hi, rfl, rfl, hall⟩ := hrel
      by_cases hlt : i < s.size
      · have hlt2 : (i : Int) < s.size := by omega
        have HT := Lib.hid (xv_take s i hlt)
        have HA := Lib.hid (all_take (P := IsX) s i hlt hall.out)
        have HB := Lib.hid (HN.out i hlt)
        have hb := s[i].toNat_lt
        have hxl := (xv_all i (s.data.toList.take i) (by rw [List.length_take]; omega) hall.out).1
        have hp : (16 : Nat) ^ i ≤ 16 ^ 15 := Nat.pow_le_pow_right (by decide) (by omega)
        have hdl2 : xv (s.data.toList.take i) < 1152921504606846976 := by omega
        have hway := x_ways s[i]
        clear hxl hp
        generalize xv (s.data.toList.take i) = a at *
        rcases hway with ⟨e1, e2, hX, hx⟩ | ⟨e1, e2, e3, e4, hX, hx⟩ | ⟨e1, e2, e3, e4, hX⟩ | ⟨e1, e2, e3, hX⟩ | ⟨e1, e3, hX⟩
        · have HA2 := Lib.hid (HA.out hX)
          have h48 : 48 ≤ s[i].toNat := by have := of_decide_eq_true e1; omega
          have h57 : s[i].toNat ≤ 57 := by have := of_decide_eq_true e2; omega
          have HX := Lib.hid hx
          clear HA HB hX hx
          go_wp2
          refine ⟨⟨i + 1, by omega, by norm_cast, ?_, HA2⟩, by simp [intOf]; omega⟩
          rw [HT.out, HX.out]
          exact congrArg (Value.int .u64) (by omega)
        · have HA2 := Lib.hid (HA.out hX)
          have h97 : 97 ≤ s[i].toNat := by have := of_decide_eq_true e3; omega
          have h102 : s[i].toNat ≤ 102 := by have := of_decide_eq_true e4; omega
          have HX := Lib.hid hx
          clear HA HB hX hx
          go_wp2
          refine ⟨⟨i + 1, by omega, by norm_cast, ?_, HA2⟩, by simp [intOf]; omega⟩
          rw [HT.out, HX.out]
          exact congrArg (Value.int .u64) (by omega)
        all_goals
          have HQ := Lib.hid (HB.out hX)
          clear HA HT HB hX
          go_wp2
          go_ret2
          exact keyIs_no HQ.out _
      · obtain rfl : i = s.size := by omega
        have hge : ¬ (s.size : Int) < s.size := by omega
        have ht : s.data.toList.take s.size = s.data.toList := List.take_of_length_le (by omega)
        rw [ht] at hall
        have HQ := Lib.hid (HY.out hall.out)
        rw [ht]
        generalize xv s.data.toList = n at *
        go_wp2
        go_ret2
        exact keyIs_yes HQ.out _
  · have HQ : Hid (Hex.keyOf s.data.toList d = none) := Lib.hid (key_no (.inl (by omega)))
    have hd' : ¬ (s.size : Int) = (d : Int) := by omega
    go_enter Tryz.func36, Tryz.ntmps36
    go_wp2
    go_ret2
    exact keyIs_no HQ.out _
end Go.Proofs.YtalfjaogpbndeaaGreatDoor
