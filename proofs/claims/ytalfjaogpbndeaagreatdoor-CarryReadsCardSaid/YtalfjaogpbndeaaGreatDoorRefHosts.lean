/-
  The walks of the reference's words on hosts: LongHosts, IsName, Index, SameTexts, HostsFault.
-/
import Derived.Test.YtalfjaogpbndeaaGreatDoorTiny
import Derived.Test.YtalfjaogpbndeaaGreatDoorErrs
namespace Go.Proofs.YtalfjaogpbndeaaGreatDoor
open Go.RowKit

/-- Too long for a statement? -/
def longH (l : List ByteArray) : Bool := decide (30 < l.length) || l.any fun s => decide (60 < s.size)
theorem long_no {l : List ByteArray} (h : longH l = false) : l.length ≤ 30 ∧ ∀ s ∈ l, s.size ≤ 60 := by
  unfold longH at h
  rw [Bool.or_eq_false_iff, List.any_eq_false] at h
  exact ⟨by simpa using h.1, fun s hs => by simpa using h.2 s hs⟩
theorem long_hit {l : List ByteArray} {k : Nat} (hk : k < l.length) (h : 60 < l[k].size) : longH l = true := by
  unfold longH
  rw [List.any_eq_true.2 ⟨_, List.getElem_mem hk, by simpa using h⟩, Bool.or_true]
theorem long_end {l : List ByteArray} (h30 : l.length ≤ 30) (h : ∀ s ∈ l.take l.length, s.size ≤ 60) : longH l = false := by
  unfold longH
  rw [List.take_length] at h
  rw [decide_eq_false (by omega), List.any_eq_false.2 fun s hs => by have := h s hs; simp; omega]; rfl
theorem longIs_of {l : List ByteArray} {b : Bool} {w : World} (h : longH l = b) : LongIs (longH l) w (.returned (.int .i64 (if b then 1 else 0))) w := by rw [h]; exact ⟨rfl, rfl⟩
/-! IsName -/
def NameQ (b : Bool) (w : World) (e : Ending) (w' : World) : Prop := e = .returned (.bool b) ∧ w = w'
theorem nameQ_of {s : ByteArray} {b : Bool} {w : World} (h : isName s = b) : NameQ (isName s) w (.returned (.bool b)) w := by rw [h]; exact ⟨rfl, rfl⟩
theorem nums_at (s : ByteArray) {k : Nat} (hk : k < s.size) : (nums s)[k]'(by rw [nums_length]; exact hk) = s[k].toNat := by simp [nums]; rfl
theorem isName_bad {s : ByteArray} {k : Nat} (hk : k < s.size) (h : nb s[k].toNat = false) : isName s = false := by
  have : ((nums s).any fun n => !nb n) = true := any_hit (k := k) (by rw [nums_length]; exact hk) (by rw [nums_at s hk, h]; rfl)
  unfold isName; rw [this]; simp
theorem isName_first {s : ByteArray} (hk : 0 < s.size) (h : s[0].toNat < 97 ∨ 122 < s[0].toNat) : isName s = false := by
  unfold isName; rw [nums_zero s hk]
  rcases h with h | h
  · rw [decide_eq_false (show ¬ 97 ≤ s[0].toNat by omega)]; simp
  · rw [decide_eq_false (show ¬ s[0].toNat ≤ 122 by omega)]; simp
theorem isName_len {s : ByteArray} (h : s.size < 1 ∨ 12 < s.size) : isName s = false := by
  unfold isName; rw [nums_length]
  rcases h with h | h
  · rw [decide_eq_false (show ¬ 0 < s.size by omega)]; simp
  · rw [decide_eq_false (show ¬ s.size ≤ 12 by omega)]; simp
/-- What is known behind k rounds. -/
def NameTo (s : ByteArray) (k : Nat) : Prop := (∀ (h : 0 < s.size), 0 < k → 97 ≤ s[0].toNat ∧ s[0].toNat ≤ 122) ∧ ((nums s).take k).any (fun n => !nb n) = false
theorem nameTo_succ {s : ByteArray} {k : Nat} (hk : k < s.size) (h : NameTo s k) (hb : nb s[k].toNat = true) (h0 : k = 0 → 97 ≤ s[k].toNat ∧ s[k].toNat ≤ 122) : NameTo s (k + 1) := by
  refine ⟨fun hs _ => ?_, any_step (by rw [nums_length]; exact hk) h.2 (by rw [nums_at s hk, hb]; rfl)⟩
  rcases Nat.eq_zero_or_pos k with rfl | hp
  · exact h0 rfl
  · exact h.1 hs hp
theorem isName_yes {s : ByteArray} (h1 : 1 ≤ s.size) (h12 : s.size ≤ 12) (h : NameTo s s.size) : isName s = true := by
  have ha := h.2
  rw [← nums_length, List.take_length] at ha
  have hf := h.1 (by omega) (by omega)
  unfold isName
  rw [nums_zero s (by omega), nums_length, decide_eq_true (show 0 < s.size by omega), decide_eq_true h12, decide_eq_true hf.1, decide_eq_true hf.2, ha]; rfl
theorem nb_letter {n : Nat} (h : 97 ≤ n ∧ n ≤ 122) : nb n = true := by simp [nb, h.1, h.2]
theorem nb_other {n : Nat} (h : 48 ≤ n ∧ n ≤ 57 ∨ n = 45) : nb n = true := by rcases h with ⟨a, b⟩ | rfl <;> simp [nb, *]
theorem nb_no {n : Nat} (h1 : n < 97 ∨ 122 < n) (h2 : n < 48 ∨ 57 < n) (h3 : n ≠ 45) : nb n = false := by simp [nb]; omega

set_option maxRecDepth 100000 in
set_option maxHeartbeats 4000000 in
theorem isName_any (s : ByteArray) (w : World) (hs : s.size ≤ maxLen) : Calls Tryz.prog 23 #[.string s] w (NameQ (isName s) w) := by
  unfold maxLen at hs
  by_cases h1 : s.size < 1
  · have HN := Lib.hid (isName_len (.inl h1))
    have e1 : decide ((s.size : Int) < 1) = true := by simp; omega
    go_enter Tryz.func23, Tryz.ntmps23
    go_wp2
    go_ret
    exact nameQ_of HN.out
  have e1 : decide ((s.size : Int) < 1) = false := by simp; omega
  by_cases h12 : 12 < s.size
  · have HN := Lib.hid (isName_len (.inr h12))
    have e2 : decide ((s.size : Int) > 12) = true := by simp; omega
    go_enter Tryz.func23, Tryz.ntmps23
    go_wp2
    go_ret
    exact nameQ_of HN.out
  have e2 : decide ((s.size : Int) > 12) = false := by simp; omega
  go_enter Tryz.func23, Tryz.ntmps23
  go_wp2
  go_loop [2, 3] (fun rv iv => ∃ k : Nat, k ≤ s.size ∧ iv = .int .i64 (k : Int) ∧ rv = .bool false ∧ Hid (NameTo s k)) (fun _ iv => s.size - (intOf iv).toNat)
  case atStart => exact ⟨0, Nat.zero_le _, rfl, rfl, Lib.hid ⟨fun _ h => absurd h (by omega), by simp⟩⟩
  case round =>
    obtain ⟨k, hk, rfl, rfl, ht⟩ := hrel
    by_cases hlt : k < s.size
    · have hlt2 : (k : Int) < s.size := by omega
      by_cases ha : 97 ≤ s[k].toNat ∧ s[k].toNat ≤ 122
      · have a1 : decide ((s[k].toNat : Int) ≥ 97) = true := by simp; omega
        have a2 : decide ((s[k].toNat : Int) ≤ 122) = true := by simp; omega
        have HN := Lib.hid (nameTo_succ hlt ht.out (nb_letter ha) (fun _ => ha))
        clear ha
        go_wp2
        go_round
        case rel => exact ⟨k + 1, by omega, by go_num, rfl, HN⟩
        case measure => simp [intOf]; omega
      · have ha' : Hid (s[k].toNat < 97 ∨ 122 < s[k].toNat) := Lib.hid (by omega)
        have hA : (decide ((s[k].toNat : Int) ≥ 97) = false) ∨ (decide ((s[k].toNat : Int) ≥ 97) = true ∧ decide ((s[k].toNat : Int) ≤ 122) = false) := by
          by_cases h : s[k].toNat < 97
          · exact .inl (by simp; omega)
          · exact .inr ⟨by simp; omega, by simp; omega⟩
        by_cases hk0 : k = 0
        · subst hk0
          have HN := Lib.hid (isName_first hlt ha'.out)
          clear ha ht
          rcases hA with a1 | ⟨a1, a2⟩
          all_goals
            go_wp2
            all_goals
              go_ret
              exact nameQ_of HN.out
        · have k0 : ((k : Int) == 0) = false := beq_eq_false_iff_ne.2 (by omega)
          have Hk0 := Lib.hid hk0
          clear hk0
          by_cases hd : 48 ≤ s[k].toNat ∧ s[k].toNat ≤ 57
          · have b1 : decide ((s[k].toNat : Int) ≥ 48) = true := by simp; omega
            have b2 : decide ((s[k].toNat : Int) ≤ 57) = true := by simp; omega
            have HN := Lib.hid (nameTo_succ hlt ht.out (nb_other (.inl hd)) (fun h => absurd h Hk0.out))
            clear ha hd
            rcases hA with a1 | ⟨a1, a2⟩
            all_goals
              go_wp2
              go_round
              case rel => exact ⟨k + 1, by omega, by go_num, rfl, HN⟩
              case measure => simp [intOf]; omega
          · have hd' : Hid (s[k].toNat < 48 ∨ 57 < s[k].toNat) := Lib.hid (by omega)
            have hD : (decide ((s[k].toNat : Int) ≥ 48) = false) ∨ (decide ((s[k].toNat : Int) ≥ 48) = true ∧ decide ((s[k].toNat : Int) ≤ 57) = false) := by
              by_cases h : s[k].toNat < 48
              · exact .inl (by simp; omega)
              · exact .inr ⟨by simp; omega, by simp; omega⟩
            by_cases hm : s[k].toNat = 45
            · have c1 : ((s[k].toNat : Int) == 45) = true := beq_iff_eq.2 (by omega)
              have HN := Lib.hid (nameTo_succ hlt ht.out (nb_other (.inr hm)) (fun h => absurd h Hk0.out))
              clear ha hd hm
              rcases hA with a1 | ⟨a1, a2⟩ <;> rcases hD with b1 | ⟨b1, b2⟩
              all_goals
                go_wp2
                go_round
                case rel => exact ⟨k + 1, by omega, by go_num, rfl, HN⟩
                case measure => simp [intOf]; omega
            · have c1 : ((s[k].toNat : Int) == 45) = false := beq_eq_false_iff_ne.2 (by omega)
              have HN := Lib.hid (isName_bad hlt (nb_no ha'.out hd'.out hm))
              clear ha hd hm
              rcases hA with a1 | ⟨a1, a2⟩ <;> rcases hD with b1 | ⟨b1, b2⟩
              all_goals
                go_wp2
                go_ret
                exact nameQ_of HN.out
    · obtain rfl : k = s.size := by omega
      have hge : ¬ (s.size : Int) < s.size := by omega
      have HN := Lib.hid (isName_yes (by omega) (by omega) ht.out)
      go_wp2
      go_ret
      exact nameQ_of HN.out
end Go.Proofs.YtalfjaogpbndeaaGreatDoor
