/-
  The walk of LongFlows: is a list of flows too long?
-/
import Derived.Test.YtalfjaogpbndeaaGreatDoorFlCells
namespace Go.Proofs.YtalfjaogpbndeaaGreatDoor
open Go.RowKit

def longF (l : List Fl) : Bool := decide (40 < l.length ∧ l.length ≠ 201) || l.any fun x => decide (60 < x.host.size)
theorem longF_no {l : List Fl} (h : longF l = false) : (l.length ≤ 40 ∨ l.length = 201) ∧ ∀ x ∈ l, x.host.size ≤ 60 := by
  unfold longF at h
  rw [Bool.or_eq_false_iff, List.any_eq_false] at h
  refine ⟨?_, fun s hs => by simpa using h.2 s hs⟩
  have := h.1
  rw [decide_eq_false_iff_not] at this
  omega
theorem longF_hit {l : List Fl} {k : Nat} (hk : k < l.length) (h : 60 < l[k].host.size) : longF l = true := by
  unfold longF
  rw [List.any_eq_true.2 ⟨_, List.getElem_mem hk, by simpa using h⟩, Bool.or_true]
theorem longF_end {l : List Fl} (h40 : ¬ (40 < l.length ∧ l.length ≠ 201)) (h : ∀ x ∈ l.take l.length, x.host.size ≤ 60) : longF l = false := by
  unfold longF
  rw [List.take_length] at h
  rw [decide_eq_false h40, List.any_eq_false.2 fun s hs => by have := h s hs; simp; omega]; rfl
theorem longF_of {l : List Fl} {b : Bool} {w : World} (h : longF l = b) : LongIs (longF l) w (.returned (.int .i64 (if b then 1 else 0))) w := by rw [h]; exact ⟨rfl, rfl⟩
set_option maxRecDepth 100000 in
set_option maxHeartbeats 2000000 in
theorem longFlows_any (A : Option Addr) (c B : Nat) (l : List Fl) (w : World) (hr : Reads w B 3 A l.length (flsC l)) (hl : l.length ≤ maxLen) (hs : ∀ x ∈ l, x.host.size ≤ maxLen) :
    Calls Tryz.prog 6 #[.slice A l.length c] w (LongIs (longF l) w) := by
  unfold maxLen at hl hs
  have hway : (40 < l.length ∧ ¬ l.length = 201) ∨ (40 < l.length ∧ l.length = 201) ∨ ¬ 40 < l.length := by omega
  have HE : Hid (40 < l.length ∧ ¬ l.length = 201 → longF l = true) := Lib.hid fun h => by unfold longF; rw [decide_eq_true h]; rfl
  have HL0 := Lib.hid (longF_end (l := l))
  have HH := Lib.hid (fun k hk h => longF_hit (l := l) (k := k) hk h)
  have HR := Lib.hid hr
  have HS := Lib.hid hs
  clear hr hs
  rcases hway with ⟨d1, d2⟩ | hway
  · have HL := Lib.hid (HE.out ⟨d1, d2⟩)
    have e1 : decide ((l.length : Int) > 40) = true := by simp; omega
    have e2 : ¬ (l.length : Int) = 201 := by omega
    go_enter Tryz.func6, Tryz.ntmps6
    go_wp2
    go_ret
    exact longF_of HL.out
  · have HN : Hid (¬ (40 < l.length ∧ l.length ≠ 201)) := Lib.hid (by omega)
    rcases hway with ⟨d1, d2⟩ | d1
    all_goals
      go_enter Tryz.func6, Tryz.ntmps6
      go_wp2
      go_loop [3] (fun iv => ∃ k : Nat, k ≤ l.length ∧ iv = .int .i64 (k : Int) ∧ Hid (∀ t ∈ l.take k, t.host.size ≤ 60)) (fun iv => l.length - (intOf iv).toNat)
      case atStart => exact ⟨0, Nat.zero_le _, rfl, Lib.hid (by simp)⟩
      case round =>
        obtain ⟨k, hk, rfl, ht⟩ := hrel
        by_cases hlt : k < l.length
        · obtain ⟨ad, rfl, a0, a1, a2⟩ := cellsA HR.out hlt
          clear a0 a2
          have hlt2 : (k : Int) < l.length := by omega
          have hsz := HS.out l[k] (List.getElem_mem hlt)
          by_cases he : 60 < l[k].host.size
          · have e2 : decide ((l[k].host.size : Int) > 60) = true := by simp; omega
            have HL := Lib.hid (HH.out k hlt he)
            go_wp2
            go_ret
            exact longF_of HL.out
          · have e2 : decide ((l[k].host.size : Int) > 60) = false := by simp; omega
            have HN2 := Lib.hid (all_succ hlt ht.out (show l[k].host.size ≤ 60 by omega))
            go_wp2
            go_round
            case rel => exact ⟨k + 1, by omega, by go_num, HN2⟩
            case measure => simp [intOf]; omega
        · obtain rfl : k = l.length := by omega
          have hge : ¬ (l.length : Int) < l.length := by omega
          have HL := Lib.hid (HL0.out HN.out ht.out)
          go_wp2
          go_ret
          exact longF_of HL.out
end Go.Proofs.YtalfjaogpbndeaaGreatDoor
