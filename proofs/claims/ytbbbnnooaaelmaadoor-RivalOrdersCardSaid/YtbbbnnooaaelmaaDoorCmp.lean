/-
  The walks of cmp.Compare, cmp.Or, and the order of a ring's points.
-/
import Derived.Test.YtbbbnnooaaelmaaDoorRingPlain
import Derived.Test.YtbbbnnooaaelmaaDoorKeep
import Derived.Deep.RegionHeld3
import Derived.Shelf.SlSortCmp.WholeK
namespace Go.Proofs.YtbbbnnooaaelmaaDoor
open Go.RowKit Go.Sort

def cmpN (a b : Nat) : Int := if a < b then -1 else if b < a then 1 else 0
def cmpS (a b : ByteArray) : Int := if ltB a b = true then -1 else if ltB b a = true then 1 else 0
def cfP (x y : Pt) : Int := if cmpN x.at_ y.at_ = 0 then cmpS x.host y.host else cmpN x.at_ y.at_
def IntQ (v : Int) (w : World) (e : Ending) (w' : World) : Prop := e = .returned (.int .i64 v) ∧ w = w'

theorem isNaN_u64 (a : Int) (w : World) : Calls Tryd.prog 85 #[.int .u64 a] w fun e w' => e = .returned (.bool false) ∧ w = w' := by
  go_enter Tryd.func85, Tryd.ntmps85
  go_wp2
  go_ret
  exact ⟨rfl, rfl⟩
theorem isNaN_str (a : ByteArray) (w : World) : Calls Tryd.prog 93 #[.string a] w fun e w' => e = .returned (.bool false) ∧ w = w' := by
  go_enter Tryd.func93, Tryd.ntmps93
  go_wp2
  go_ret
  exact ⟨rfl, rfl⟩
theorem cmp_u64 (a b : Nat) (w : World) : Calls Tryd.prog 70 #[.int .u64 (a : Int), .int .u64 (b : Int)] w (IntQ (cmpN a b) w) := by
  unfold IntQ cmpN
  by_cases h1 : a < b
  · have t1 : decide (a < b) = true := by simpa using h1
    rw [if_pos h1]
    clear h1
    go_enter Tryd.func70, Tryd.ntmps70
    go_wp2_with (go_at_call 85; refine (isNaN_u64 _ _).mono ?_; rintro e w1 ⟨rfl, rfl⟩)
    go_ret
    exact ⟨rfl, rfl⟩
  · have t1 : decide (a < b) = false := by simpa using h1
    rw [if_neg h1]
    by_cases h2 : b < a
    · have t2 : decide (b < a) = true := by simpa using h2
      rw [if_pos h2]
      clear h1 h2
      go_enter Tryd.func70, Tryd.ntmps70
      go_wp2_with (go_at_call 85; refine (isNaN_u64 _ _).mono ?_; rintro e w1 ⟨rfl, rfl⟩)
      go_ret
      exact ⟨rfl, rfl⟩
    · have t2 : decide (b < a) = false := by simpa using h2
      rw [if_neg h2]
      clear h1 h2
      go_enter Tryd.func70, Tryd.ntmps70
      go_wp2_with (go_at_call 85; refine (isNaN_u64 _ _).mono ?_; rintro e w1 ⟨rfl, rfl⟩)
      go_ret
      exact ⟨rfl, rfl⟩
theorem ltB_gt (a b : ByteArray) : (!(Op.bytesLess a.toList b.toList || a.toList == b.toList)) = ltB b a := by
  show (!(ltB a b || a.toList == b.toList)) = ltB b a
  rw [str_eq]
  cases h1 : ltB a b with
  | true => rw [ltB_asymm h1]; rfl
  | false =>
    by_cases he : a = b
    · subst he; rw [ltB_irrefl]; simp
    · rw [decide_eq_false he]
      cases h2 : ltB b a with
      | true => rfl
      | false => exact absurd (ltB_tri h1 h2) he
theorem cmp_str (a b : ByteArray) (w : World) : Calls Tryd.prog 78 #[.string a, .string b] w (IntQ (cmpS a b) w) := by
  unfold IntQ cmpS
  have hg := ltB_gt a b
  cases h1 : ltB a b with
  | true =>
    have t1 : Op.bytesLess a.toList b.toList = true := h1
    rw [if_pos rfl]
    clear hg h1
    go_enter Tryd.func78, Tryd.ntmps78
    go_wp2_with (go_at_call 93; refine (isNaN_str _ _).mono ?_; rintro e w1 ⟨rfl, rfl⟩)
    go_ret
    exact ⟨rfl, rfl⟩
  | false =>
    have t1 : Op.bytesLess a.toList b.toList = false := h1
    rw [if_neg (by decide)]
    rw [t1] at hg
    cases h2 : ltB b a with
    | true =>
      rw [h2] at hg
      have t2 : (a.toList == b.toList) = false := by simpa using hg
      rw [if_pos rfl]
      clear hg h1 h2
      go_enter Tryd.func78, Tryd.ntmps78
      go_wp2_with (go_at_call 93; refine (isNaN_str _ _).mono ?_; rintro e w1 ⟨rfl, rfl⟩)
      go_ret
      exact ⟨rfl, rfl⟩
    | false =>
      rw [h2] at hg
      have t2 : (a.toList == b.toList) = true := by simpa using hg
      rw [if_neg (by decide)]
      clear hg h1 h2
      go_enter Tryd.func78, Tryd.ntmps78
      go_wp2_with (go_at_call 93; refine (isNaN_str _ _).mono ?_; rintro e w1 ⟨rfl, rfl⟩)
      go_ret
      exact ⟨rfl, rfl⟩

def orI (x y : Int) : Int := if x = 0 then y else x
set_option maxHeartbeats 1000000 in
theorem or_two (g : Nat) (x y : Int) (w : World) (h0 : w.cell? ⟨g, 0, none⟩ = some (.int .i64 x)) (h1 : w.cell? ⟨g, 1, none⟩ = some (.int .i64 y)) :
    Calls Tryd.prog 77 #[.slice (some ⟨g, 0, none⟩) 2 2] w (IntQ (orI x y) w) := by
  go_enter Tryd.func77, Tryd.ntmps77
  go_wp2_with fail
  go_loop [2, 5, 8] (fun rv _ iv => ∃ k : Nat, k ≤ 2 ∧ rv = .int .i64 0 ∧ iv = .int .i64 (k : Int) ∧ (0 < k → Hid (x = 0)) ∧ (1 < k → Hid (y = 0))) (fun _ _ iv => 2 - (intOf iv).toNat)
  case atStart => exact ⟨0, by omega, rfl, rfl, fun h => absurd h (by omega), fun h => absurd h (by omega)⟩
  case round =>
    obtain ⟨k, hk, rfl, rfl, hx, hy⟩ := hrel
    match k, hk, hx, hy with
    | 0, _, hx, hy =>
      clear hx hy
      by_cases hx0 : x = 0
      · have t1 : (x != 0) = false := by simpa using hx0
        have HX := Lib.hid hx0
        clear hx0
        go_wp2
        go_round
        case rel => exact ⟨1, by omega, rfl, rfl, fun _ => HX, fun h => absurd h (by omega)⟩
        case measure => simp [intOf]
      · have t1 : (x != 0) = true := by simpa using hx0
        have HX : Hid (orI x y = x) := Lib.hid (by unfold orI; rw [if_neg hx0])
        clear hx0
        go_wp2
        go_ret
        exact ⟨by rw [HX.out]; rfl, rfl⟩
    | 1, _, hx, hy =>
      have HX : Hid (orI x y = y) := Lib.hid (by unfold orI; rw [if_pos (hx (by omega)).out])
      have hx' := hx (by omega)
      clear hx hy
      by_cases hy0 : y = 0
      · have t1 : (y != 0) = false := by simpa using hy0
        have HY := Lib.hid hy0
        clear hy0
        go_wp2
        go_round
        case rel => exact ⟨2, by omega, rfl, rfl, fun _ => hx', fun _ => HY⟩
        case measure => simp [intOf]
      · have t1 : (y != 0) = true := by simpa using hy0
        clear hy0
        go_wp2
        go_ret
        exact ⟨by rw [HX.out]; rfl, rfl⟩
    | 2, _, hx, hy =>
      have HX : Hid (orI x y = 0) := Lib.hid (by unfold orI; rw [if_pos (hx (by omega)).out]; exact (hy (by omega)).out)
      clear hx hy
      go_wp2
      go_ret
      exact ⟨by rw [HX.out]; rfl, rfl⟩
theorem orI_cf (x y : Pt) : orI (cmpN x.at_ y.at_) (cmpS x.host y.host) = cfP x y := rfl
end Go.Proofs.YtbbbnnooaaelmaaDoor
