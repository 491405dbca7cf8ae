/-
  The walks of the reference's numberOf and hexOf.
-/
import Derived.Test.YtalfjaogpbndeaaGreatDoorRefNumP
namespace Go.Proofs.YtalfjaogpbndeaaGreatDoor
open Go.RowKit

/-- A number, or -1. -/
def numI (l : List UInt8) : Int := match numOf l with | some n => (n : Int) | none => -1
theorem numI_no {l : List UInt8} (h : numOf l = none) : numI l = -1 := by unfold numI; rw [h]
theorem dv_take (s : ByteArray) (k : Nat) (h : k < s.size) : dv (s.data.toList.take (k + 1)) = 10 * dv (s.data.toList.take k) + (s[k].toNat - 48) := by
  rw [List.take_succ_eq_append_getElem (by simpa using h), dv_snoc]; rfl
theorem xv_take (s : ByteArray) (k : Nat) (h : k < s.size) : xv (s.data.toList.take (k + 1)) = 16 * xv (s.data.toList.take k) + xd s[k] := by
  rw [List.take_succ_eq_append_getElem (by simpa using h), xv_snoc]; rfl
theorem all_take {P : UInt8 → Prop} (s : ByteArray) (k : Nat) (h : k < s.size) (h1 : ∀ c ∈ s.data.toList.take k, P c) (h2 : P s[k]) : ∀ c ∈ s.data.toList.take (k + 1), P c := by
  rw [List.take_succ_eq_append_getElem (by simpa using h)]
  intro c hc
  rcases List.mem_append.1 hc with hc | hc
  · exact h1 c hc
  · rw [List.mem_singleton.1 hc]; exact h2
theorem mem_at (s : ByteArray) (k : Nat) (h : k < s.size) : s[k] ∈ s.data.toList := by
  have : s.data.toList[k]'(by simpa using h) = s[k] := rfl
  rw [← this]; exact List.getElem_mem _
theorem headD_get (l : List UInt8) (h : 0 < l.length) : l.headD 0 = l[0] := by
  cases l with
  | nil => simp at h
  | cons a t => rfl
theorem head_at (s : ByteArray) (h : 0 < s.size) : s.data.toList.headD 0 = s[0] := headD_get _ (by simpa using h)
def NumIs (i : Int) (w : World) (e : Ending) (w' : World) : Prop := e = .returned (.int .i64 i) ∧ w = w'
theorem numIs_of {i j : Int} (h : i = j) (w : World) : NumIs i w (.returned (.int .i64 j)) w := by subst h; exact ⟨rfl, rfl⟩
theorem num_ways (s : ByteArray) (h : ¬ (1 ≤ s.size ∧ s.size ≤ 14 ∧ (s.size = 1 ∨ s.data.toList.headD 0 ≠ 48))) : decide ((s.size : Int) < 1) = true ∨ (decide ((s.size : Int) < 1) = false ∧ decide ((s.size : Int) > 14) = true) ∨ (decide ((s.size : Int) < 1) = false ∧ decide ((s.size : Int) > 14) = false ∧ decide ((s.size : Int) > 1) = true ∧ s.data.toList.headD 0 = 48) := by
  simp only [decide_eq_true_eq, decide_eq_false_iff_not]
  by_cases h1 : (s.size : Int) < 1
  · exact .inl h1
  · by_cases h2 : (s.size : Int) > 14
    · exact .inr (.inl ⟨h1, h2⟩)
    · refine .inr (.inr ⟨h1, h2, ?_, ?_⟩)
      · by_cases h3 : s.size = 1
        · exact absurd ⟨by omega, by omega, .inl h3⟩ h
        · omega
      · by_cases h5 : s.data.toList.headD 0 = 48
        · exact h5
        · exact absurd ⟨by omega, by omega, .inr h5⟩ h
set_option maxHeartbeats 1000000 in
theorem number_bad (s : ByteArray) (w : World) (hs : s.size ≤ 30000) (h : ¬ (1 ≤ s.size ∧ s.size ≤ 14 ∧ (s.size = 1 ∨ s.data.toList.headD 0 ≠ 48))) :
    Calls Tryz.prog 35 #[.string s] w (NumIs (numI s.data.toList) w) := by
  have hl : s.data.toList.length = s.size := by simp
  have HN : Hid (numI s.data.toList = -1) := Lib.hid (numI_no (num_no (by
    rcases num_ways s h with h1 | ⟨_, h1⟩ | ⟨_, _, h1, h3⟩
    · exact .inl (by have := of_decide_eq_true h1; omega)
    · exact .inr (.inl (by have := of_decide_eq_true h1; omega))
    · exact .inr (.inr (.inl ⟨by have := of_decide_eq_true h1; omega, h3⟩)))))
  rcases num_ways s h with d1 | ⟨d1, d2⟩ | ⟨d1, d2, d3, h48'⟩
  · clear hl h
    go_enter Tryz.func35, Tryz.ntmps35
    go_wp2
    go_ret
    exact numIs_of HN.out _
  · clear hl h
    go_enter Tryz.func35, Tryz.ntmps35
    go_wp2
    go_ret
    exact numIs_of HN.out _
  · clear hl h
    have h0 : 0 < s.size := by have := of_decide_eq_true d3; omega
    have h48 : s[0].toNat = 48 := by rw [← head_at s h0, h48']; rfl
    have h0' : (0 : Int) < s.size := by omega
    have hbe : ((s[0].toNat : Int) == 48) = true := by rw [h48]; rfl
    clear h48'
    go_enter Tryz.func35, Tryz.ntmps35
    go_wp2
    all_goals (go_ret; exact numIs_of HN.out _)
set_option maxHeartbeats 1000000 in
theorem number_good (s : ByteArray) (w : World) (h1 : 1 ≤ s.size) (h14 : s.size ≤ 14) (h0 : s.size = 1 ∨ s.data.toList.headD 0 ≠ 48) :
    Calls Tryz.prog 35 #[.string s] w (NumIs (numI s.data.toList) w) := by
  have hl : s.data.toList.length = s.size := by simp
  have h0' : (0 : Int) < s.size := by omega
  have d1 : decide ((s.size : Int) < 1) = false := by simp; omega
  have d2 : decide ((s.size : Int) > 14) = false := by simp; omega
  have HY : Hid ((∀ c ∈ s.data.toList, IsD c) → numI s.data.toList = (dv s.data.toList : Int)) := Lib.hid fun hd => by
    unfold numI
    rw [num_yes (by omega) (by omega) hd (by
      rcases h0 with h0 | h0
      · exact .inr (by omega)
      · exact .inl h0)]
  have HN : Hid (∀ k (h : k < s.size), ¬ IsD s[k] → numI s.data.toList = -1) := Lib.hid fun k h hk => numI_no (num_no (.inr (.inr (.inr ⟨_, mem_at s k h, hk⟩))))
  have hways : (decide ((s.size : Int) > 1) = false) ∨ (decide ((s.size : Int) > 1) = true ∧ ((s[0].toNat : Int) == 48) = false) := by
    rcases h0 with h0 | h0
    · exact .inl (by simp; omega)
    · by_cases h : s.size = 1
      · exact .inl (by simp; omega)
      · exact .inr ⟨by simp; omega, beq_false_of_ne (fun e => h0 (by rw [head_at s (by omega)]; exact UInt8.toNat_inj.1 (by have e2 : (48 : UInt8).toNat = 48 := rfl; omega)))⟩
  clear h0
  rcases hways with d3 | ⟨d3, d4⟩
  all_goals
    go_enter Tryz.func35, Tryz.ntmps35
    go_wp2
    go_loop [3, 4] (fun nv iv => ∃ i : Nat, i ≤ s.size ∧ iv = .int .i64 (i : Int) ∧ nv = .int .i64 (dv (s.data.toList.take i) : Int) ∧ Hid (∀ c ∈ s.data.toList.take i, IsD c)) (fun _ iv => s.size - (intOf iv).toNat)
    case atStart => exact ⟨0, Nat.zero_le _, rfl, rfl, Lib.hid (fun c hc => by simp at hc)⟩
    case round =>
      obtain ⟨i, hi, rfl, rfl, hall⟩ := hrel
      by_cases hlt : i < s.size
      · have hlt2 : (i : Int) < s.size := by omega
        have HT := Lib.hid (dv_take s i hlt)
        have HA := Lib.hid (all_take (P := IsD) s i hlt hall.out)
        have HB := Lib.hid (HN.out i hlt)
        have hb := s[i].toNat_lt
        have hdl := dv_lt i (s.data.toList.take i) (by rw [List.length_take]; omega) hall.out
        have hp : (10 : Nat) ^ i ≤ 10 ^ 14 := Nat.pow_le_pow_right (by decide) (by omega)
        have hdl2 : dv (s.data.toList.take i) < 100000000000000 := by omega
        have HD : Hid (IsD s[i] ↔ 48 ≤ s[i].toNat ∧ s[i].toNat ≤ 57) := Lib.hid Iff.rfl
        clear hdl hp
        generalize dv (s.data.toList.take i) = a at *
        by_cases h48 : s[i].toNat < 48
        · have e1 : decide ((s[i].toNat : Int) < 48) = true := by simp; omega
          have HQ := Lib.hid (HB.out (fun h => by have := (HD.out.1 h).1; omega))
          clear HT HA HB HD
          go_wp2
          exact bodyPost_ret (by simp [results, Tryz.results35, go_sem]) rfl (numIs_of HQ.out _)
        · have e1 : decide ((s[i].toNat : Int) < 48) = false := by simp; omega
          by_cases h57 : 57 < s[i].toNat
          · have e2 : decide ((s[i].toNat : Int) > 57) = true := by simp; omega
            have HQ := Lib.hid (HB.out (fun h => by have := (HD.out.1 h).2; omega))
            clear HT HA HB HD
            go_wp2
            exact bodyPost_ret (by simp [results, Tryz.results35, go_sem]) rfl (numIs_of HQ.out _)
          · have e2 : decide ((s[i].toNat : Int) > 57) = false := by simp; omega
            have HA2 := Lib.hid (HA.out (HD.out.2 ⟨by omega, by omega⟩))
            clear HA HB HD
            go_wp2
            refine ⟨⟨i + 1, by omega, by norm_cast, ?_, HA2⟩, by simp [intOf]; omega⟩
            rw [HT.out]
            exact congrArg (Value.int .i64) (by omega)
      · obtain rfl : i = s.size := by omega
        have hge : ¬ (s.size : Int) < s.size := by omega
        have ht : s.data.toList.take s.size = s.data.toList := List.take_of_length_le (by omega)
        rw [ht] at hall
        have HQ := Lib.hid (HY.out hall.out)
        rw [ht]
        go_wp2
        exact bodyPost_ret (by simp [results, Tryz.results35, go_sem]) rfl (numIs_of HQ.out _)
theorem numberOf_any (s : ByteArray) (hs : s.size ≤ 30000) (w : World) : Calls Tryz.prog 35 #[.string s] w (NumIs (numI s.data.toList) w) := by
  by_cases h : 1 ≤ s.size ∧ s.size ≤ 14 ∧ (s.size = 1 ∨ s.data.toList.headD 0 ≠ 48)
  · exact number_good s w h.1 h.2.1 h.2.2
  · exact number_bad s w hs h
end Go.Proofs.YtalfjaogpbndeaaGreatDoor
