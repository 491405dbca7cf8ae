/-
  The walk of SameInts.
-/
import Derived.Test.YteilefpjfbholaaGreatDoorBase
namespace Go.Proofs.YteilefpjfbholaaGreatDoor
open Go.RowKit

def intV (x : Int) : Value := .int .i64 x
def Quietly (w : World) (v : Value) (e : Ending) (w' : World) : Prop := e = .returned v ∧ ∃ m, w' = w.drewN m

theorem quiet_yes {w : World} {xs ys : List Int} (h : xs = ys) (m : Nat) : Quietly w (.bool (decide (xs = ys))) (.returned (.bool true)) (w.drewN m) := ⟨by rw [decide_eq_true h], m, rfl⟩
theorem quiet_no {w : World} {xs ys : List Int} (h : xs ≠ ys) (m : Nat) : Quietly w (.bool (decide (xs = ys))) (.returned (.bool false)) (w.drewN m) := ⟨by rw [decide_eq_false h], m, rfl⟩
theorem take_eq_of {xs ys : List Int} (hl : xs.length = ys.length) {k : Nat} (h : xs.take k = ys.take k) (hk : xs.length ≤ k) : xs = ys := by
  rw [List.take_of_length_le hk, List.take_of_length_le (by omega)] at h; exact h
theorem take_succ_of {xs ys : List Int} {k : Nat} {a b : Int} (hx : xs[k]? = some a) (hy : ys[k]? = some b) (h : xs.take k = ys.take k) (hab : a = b) : xs.take (k + 1) = ys.take (k + 1) := by
  rw [List.take_add_one, List.take_add_one, hx, hy, h, hab]
theorem ne_of_get {xs ys : List Int} {k : Nat} {a b : Int} (hx : xs[k]? = some a) (hy : ys[k]? = some b) (hab : a ≠ b) : xs ≠ ys := by
  rintro rfl; rw [hx] at hy; exact hab (Option.some.inj hy)
theorem map_get {xs : List Int} {k : Nat} {u : Value} (h : (xs.map intV)[k]? = some u) : ∃ a, xs[k]? = some a ∧ u = .int .i64 a := by
  rw [List.getElem?_map] at h
  cases hx : xs[k]? with
  | none => rw [hx] at h; cases h
  | some a => rw [hx] at h; exact ⟨a, rfl, (Option.some.inj h).symm⟩

set_option maxHeartbeats 1000000 in
theorem sameInts (A B : Option Addr) (ca cb Bd : Nat) (xs ys : List Int) (w : World) (ha : Reads w Bd 1 A xs.length (xs.map intV)) (hb : Reads w Bd 1 B ys.length (ys.map intV)) (hlx : xs.length ≤ maxLen) (hly : ys.length ≤ maxLen) :
    Calls Tryz.prog 22 #[.slice A xs.length ca, .slice B ys.length cb] w (Quietly w (.bool (decide (xs = ys)))) := by
  unfold maxLen at hlx hly
  by_cases hl : xs.length = ys.length
  · have hlB : ((xs.length : Int) != (ys.length : Int)) = false := by rw [hl]; simp
    have HL := Lib.hid hl
    clear hl
    go_enter Tryz.func22, Tryz.ntmps22
    go_wp2
    go_loopw [5] (fun iv wr => ∃ k m : Nat, k ≤ xs.length ∧ iv = .int .i64 (k : Int) ∧ wr = w.drewN m ∧ Hid (xs.take k = ys.take k)) (fun iv _ => xs.length - (intOf iv).toNat)
    case atStart => exact ⟨0, 0, Nat.zero_le _, rfl, rfl, Lib.hid rfl⟩
    case round =>
      obtain ⟨k, m, hk, rfl, rfl, ht⟩ := hrel
      by_cases hlt : k < xs.length
      · obtain ⟨ad, u, rfl, _, hx, hc⟩ := ha.at_ hlt
        obtain ⟨bd, u', rfl, _, hy, hd⟩ := hb.at_ (k := k) (by rw [← HL.out]; exact hlt)
        obtain ⟨x, hx', rfl⟩ := map_get hx
        obtain ⟨y, hy', rfl⟩ := map_get hy
        have HX := Lib.hid hx'
        have HY := Lib.hid hy'
        clear hx hy hx' hy'
        have hlt2 : (k : Int) < ys.length := by rw [← HL.out]; omega
        have hlt3 : (k : Int) < xs.length := by omega
        by_cases hxy : x = y
        · have hB : (x != y) = false := by simp [hxy]
          have HXY := Lib.hid hxy
          clear hxy
          go_wp2
          go_quiet (fail)
          go_wp2
          go_roundw
          case rel => exact ⟨k + 1, _, by omega, by go_num, rfl, Lib.hid (take_succ_of HX.out HY.out ht.out HXY.out)⟩
          case measure => simp [intOf]; omega
        · have hB : (x != y) = true := by simp [hxy]
          have HXY := Lib.hid hxy
          clear hxy
          go_wp2
          go_quiet (fail)
          go_wp2
          go_ret
          rw [World.drewN_drewN]
          exact quiet_no (ne_of_get HX.out HY.out HXY.out) _
      · have hge : ¬ (k : Int) < xs.length := by omega
        go_wp2
        go_ret
        exact quiet_yes (take_eq_of HL.out ht.out (by omega)) _
  · have hlB : ((xs.length : Int) != (ys.length : Int)) = true := by simp; omega
    have hne : Hid (xs ≠ ys) := Lib.hid (by rintro rfl; exact hl rfl)
    clear hl
    go_enter Tryz.func22, Tryz.ntmps22
    go_wp2
    go_ret
    exact quiet_no hne.out 0
end Go.Proofs.YteilefpjfbholaaGreatDoor
