/-
  table.Moves, whatever it is given.
-/
import Derived.Test.YtbbbnnooaaelmaaDoorMakeBoth
namespace Go.Proofs.YtbbbnnooaaelmaaDoor
open Go.RowKit

/-- The host of a slot. -/
def hOf (l : List ByteArray) (xs : List Int) (k : Nat) : ByteArray := (l[((xs[k]?).getD 0).toNat]?).getD ByteArray.empty
def movN (a b : List ByteArray) (xs ys : List Int) : Nat → Nat
  | 0 => 0
  | k + 1 => movN a b xs ys k + if hOf a xs k = hOf b ys k then 0 else 1
theorem movN_le (a b : List ByteArray) (xs ys : List Int) : ∀ k, movN a b xs ys k ≤ k
  | 0 => Nat.le_refl _
  | k + 1 => by
      have := movN_le a b xs ys k
      unfold movN
      split <;> omega
theorem hOf_at {ea : Nat → Addr} {l : List ByteArray} {size : Int} {xs : List Int} (h : MakeYes ea l size xs) {k : Nat} (hk : k < xs.length) : ∃ j : Nat, ∃ hj : j < l.length, xs[k] = (j : Int) ∧ l[j] = hOf l xs k := by
  obtain ⟨j, h1, h2⟩ := h.slot k hk
  refine ⟨j, h2, ?_, ?_⟩
  · rw [List.getElem?_eq_getElem hk] at h1
    exact Option.some.inj h1
  · unfold hOf
    rw [h1]
    simp [h2]
theorem movN_same {a b : List ByteArray} {xs ys : List Int} {k : Nat} (h : hOf a xs k = hOf b ys k) : movN a b xs ys (k + 1) = movN a b xs ys k := by
  show _ + _ = _
  rw [if_pos h]; rfl
theorem movN_other {a b : List ByteArray} {xs ys : List Int} {k : Nat} (h : ¬ hOf a xs k = hOf b ys k) : movN a b xs ys (k + 1) = movN a b xs ys k + 1 := by
  show _ + _ = _
  rw [if_neg h]
def MovesBad (ea : Nat → Addr) (f : Flt) (w : World) (e : Ending) (w' : World) : Prop := ∃ t a, e = .returned (.tuple #[.int .i64 0, .iface t (.pointer (some a))]) ∧ IsErr ea w' f t a ∧ Below w.heap.size w w'
def MovesGood (n : Nat) (w : World) (e : Ending) (w' : World) : Prop := e = .returned (.tuple #[.int .i64 (n : Int), .nilIface]) ∧ Below w.heap.size w w'
set_option maxRecDepth 100000 in
set_option maxHeartbeats 1000000 in
theorem moves_bad1 (ea : Nat → Addr) (A B : Option Addr) (c d : Nat) (a b : List ByteArray) (size : Int) (f : Flt) (w : World) (hE : ErrsT ea w) (hI : TxIn w A c a) (hM : MakeNo ea a size f) :
    Calls Tryd.prog 55 #[.slice A a.length c, .slice B b.length d, .int .i64 size] w (MovesBad ea f w) := by
  have HM := Lib.hid (hM.1 w A c hE hI)
  clear hE hI hM
  go_enter Tryd.func55, Tryd.ntmps55
  go_wp2_with fail
  refine HM.out.mono ?_
  rintro e w1 ⟨t, x, rfl, hX, hb1⟩
  go_wp2
  go_ret2
  exact ⟨t, x, rfl, hX, hb1⟩
set_option maxRecDepth 100000 in
set_option maxHeartbeats 1000000 in
theorem moves_bad2 (ea : Nat → Addr) (A B : Option Addr) (c d : Nat) (a b : List ByteArray) (size : Int) (xs : List Int) (f : Flt) (w : World) (hE : ErrsT ea w) (hI : TxIn w A c a) (hJ : TxIn w B d b) (hM : MakeYes ea a size xs) (hM2 : MakeNo ea b size f) :
    Calls Tryd.prog 55 #[.slice A a.length c, .slice B b.length d, .int .i64 size] w (MovesBad ea f w) := by
  have HM := Lib.hid (hM.make w A c hE hI)
  have HM2 : Hid (∀ W, Below w.heap.size w W → Calls Tryd.prog 14 #[.slice B b.length d, .int .i64 size] W (SortedBad ea f W)) := Lib.hid fun W hW => hM2.1 W B d (hE.below hW) (hJ.below hW)
  clear hE hI hJ hM hM2
  go_enter Tryd.func55, Tryd.ntmps55
  go_wp2_with fail
  refine HM.out.mono ?_
  rintro e w1 ⟨A1, c1, rfl, _, hb1⟩
  go_wp2_with fail
  refine (HM2.out _ hb1).mono ?_
  rintro e w2 ⟨t, x, rfl, hX, hb2⟩
  go_wp2
  go_ret2
  exact ⟨t, x, rfl, hX, below_two hb1 hb2⟩
set_option maxRecDepth 100000 in
set_option maxHeartbeats 2000000 in
theorem moves_good (ea : Nat → Addr) (A B : Option Addr) (c d : Nat) (a b : List ByteArray) (size : Int) (xs ys : List Int) (w : World) (hE : ErrsT ea w) (hI : TxIn w A c a) (hJ : TxIn w B d b) (hM : MakeYes ea a size xs) (hM2 : MakeYes ea b size ys) :
    Calls Tryd.prog 55 #[.slice A a.length c, .slice B b.length d, .int .i64 size] w (MovesGood (movN a b xs ys xs.length) w) := by
  have hxl := hM.len
  unfold maxLen at hxl
  have hyl : ys.length = xs.length := by
    have h1 := hM.sz
    have h2 := hM2.sz
    omega
  have HM := Lib.hid (hM.make w A c hE hI)
  have HM2 : Hid (∀ W, Below w.heap.size w W → Calls Tryd.prog 14 #[.slice B b.length d, .int .i64 size] W (IntsGood ys W)) := Lib.hid fun W hW => hM2.make W B d (hE.below hW) (hJ.below hW)
  have HS : Hid (∀ k (h : k < xs.length), ∃ j : Nat, ∃ hj : j < a.length, xs[k] = (j : Int) ∧ a[j] = hOf a xs k) := Lib.hid fun k h => hOf_at hM h
  have HS2 : Hid (∀ k (h : k < ys.length), ∃ j : Nat, ∃ hj : j < b.length, ys[k] = (j : Int) ∧ b[j] = hOf b ys k) := Lib.hid fun k h => hOf_at hM2 h
  have HI := Lib.hid hI.r
  have HJ := Lib.hid hJ.r
  have HYL := Lib.hid hyl
  clear hE hI hJ hM hM2 hyl
  go_enter Tryd.func55, Tryd.ntmps55
  go_wp2_with fail
  refine HM.out.mono ?_
  rintro e w1 ⟨A1, c1, rfl, hX, hb1⟩
  have HX := Lib.hid hX
  clear hX
  go_wp2_with fail
  refine (HM2.out _ hb1).mono ?_
  rintro e w2 ⟨A2, c2, rfl, hY, hb2⟩
  have HY := Lib.hid hY
  clear hY
  have hb02 := below_two hb1 hb2
  go_wp2_with fail
  go_loopg [11, 33] xs.length (fun g mv iv wr => ∃ k m : Nat, g + k = xs.length ∧ iv = .int .i64 (k : Int) ∧ mv = .int .i64 (movN a b xs ys k : Int) ∧ wr = w2.drewN m)
  case atStart => exact ⟨0, 0, by omega, rfl, rfl, rfl⟩
  case round =>
    obtain ⟨k, m, hgk, rfl, rfl, rfl⟩ := hrel
    have hle := movN_le a b xs ys k
    by_cases hlt : k < xs.length
    · have hlt2 : (k : Int) < xs.length := by omega
      obtain ⟨ad1, rfl, hc1⟩ := intsI_at HX.out hlt
      obtain ⟨ad2, rfl, hc2⟩ := intsI_at HY.out (by rw [HYL.out]; exact hlt : k < ys.length)
      obtain ⟨j1, hj1, e1, e2⟩ := HS.out k hlt
      obtain ⟨j2, hj2, e3, e4⟩ := HS2.out k (by rw [HYL.out]; exact hlt)
      obtain ⟨ad3, rfl, hc3⟩ := strAt_of HI.out hj1
      obtain ⟨ad4, rfl, hc4⟩ := strAt_of HJ.out hj2
      have g1 := hc1 _ hb2
      have g2 := hc2 _ (Below.refl _ _)
      have g3 := hc3 _ hb02
      have g4 := hc4 _ hb02
      rw [e1] at g1
      rw [e3] at g2
      rw [e2] at g3
      rw [e4] at g4
      have hj1' : (j1 : Int) < a.length := by omega
      have hj2' : (j2 : Int) < b.length := by omega
      have hlty : (k : Int) < ys.length := by have := HYL.out; omega
      clear hc1 hc2 hc3 hc4 e1 e2 e3 e4
      by_cases he : hOf a xs k = hOf b ys k
      · have HN := Lib.hid (movN_same he)
        rw [← he] at g4
        have q1 : ((hOf a xs k).toList == (hOf a xs k).toList) = true := by simp
        have q2 : ((hOf a xs k).toList != (hOf a xs k).toList) = false := by simp
        clear he
        generalize hOf a xs k = s at *
        generalize movN a b xs ys k = mv at *
        go_wp2
        go_quiet (fail)
        go_wp2
        go_roundg (xs.length - (k + 1))
        case rel => exact ⟨k + 1, _, by omega, by go_num, by rw [HN.out], rfl⟩
        case measure => omega
      · have HN := Lib.hid (movN_other he)
        have q1 : ((hOf a xs k).toList == (hOf b ys k).toList) = false := by rw [str_eq]; simpa using he
        have q2 : ((hOf a xs k).toList != (hOf b ys k).toList) = true := by rw [bne, q1]; rfl
        clear he
        generalize hOf a xs k = s at *
        generalize hOf b ys k = t at *
        generalize movN a b xs ys k = mv at *
        go_wp2
        go_quiet (fail)
        go_wp2
        go_roundg (xs.length - (k + 1))
        case rel => exact ⟨k + 1, _, by omega, by go_num, by rw [HN.out]; go_num, rfl⟩
        case measure => omega
    · obtain rfl : k = xs.length := by omega
      have hge : ¬ ((xs.length : Int) < xs.length) := by omega
      have hbm := below_drewN hb02 m
      go_wp2
      go_ret2
      exact ⟨rfl, hbm⟩
end Go.Proofs.YtbbbnnooaaelmaaDoor
