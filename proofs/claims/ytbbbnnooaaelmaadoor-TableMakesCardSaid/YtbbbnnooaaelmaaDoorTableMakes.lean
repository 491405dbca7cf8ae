/-
  The law TableMakes: its walk.
-/
import Derived.Test.YtbbbnnooaaelmaaDoorMakeBoth
import Derived.Test.YtbbbnnooaaelmaaDoorFaulted1
import Derived.Test.YtbbbnnooaaelmaaDoorSame
import Derived.Test.YtbbbnnooaaelmaaDoorOwn
namespace Go.Proofs.YtbbbnnooaaelmaaDoor
open Go.RowKit

theorem errsT_w {ea : Nat → Addr} {w : World} (h : ErrsW ea w) : ErrsT ea w :=
  ⟨⟨(h.row 2 (by omega) (by omega)).1, (h.row 4 (by omega) (by omega)).1, (h.row 6 (by omega) (by omega)).1⟩, ⟨(h.row 2 (by omega) (by omega)).1, (h.row 3 (by omega) (by omega)).1⟩, (h.row 5 (by omega) (by omega)).1⟩
theorem sameI_yes (A B : Option Addr) (ca cb : Nat) (xs : List Int) (w : World) (ha : Reads w w.heap.size 1 A xs.length (xs.map intV)) (hb : Reads w w.heap.size 1 B xs.length (xs.map intV)) (hl : xs.length ≤ maxLen) :
    Calls Tryd.prog 44 #[.slice A xs.length ca, .slice B xs.length cb] w (YesQ w) :=
  (sameInts A B ca cb w.heap.size xs xs w ha hb hl hl).mono fun ev w' ⟨h1, h2⟩ => ⟨by rw [h1, decide_eq_true rfl], h2⟩
theorem sameI_hid (xs : List Int) (hl : xs.length ≤ maxLen) : Hid (∀ A B ca cb w, Reads w w.heap.size 1 A xs.length (xs.map intV) → Reads w w.heap.size 1 B xs.length (xs.map intV) → Calls Tryd.prog 44 #[.slice A xs.length ca, .slice B xs.length cb] w (YesQ w)) :=
  Lib.hid fun A B ca cb w ha hb => sameI_yes A B ca cb xs w ha hb hl
theorem tm_ways (lg : Bool) (n : Nat) (h : lg = true ∨ 60 < n) : (lg = true) ∨ (lg = false ∧ decide ((n : Int) > 60) = true) := by
  cases lg <;> simp only [decide_eq_true_eq] <;> simp <;> simp at h <;> omega
set_option maxRecDepth 100000 in
set_option maxHeartbeats 2000000 in
theorem tm_skip (ea : Nat → Addr) (A : Option Addr) (c : Nat) (l : List ByteArray) (size : Int) (s : ByteArray) (w : World) (hE : ErrsT ea w) (hI : TxIn w A c l) (h : longH l = true ∨ 60 < s.size) :
    Calls Tryd.prog 9 #[.slice A l.length c, .int .i64 size, .string s] w (True1 w) := by
  have hm := hI.lm
  unfold maxLen at hm
  have HL : Hid (∀ W, Below w.heap.size w W → Calls Tryd.prog 13 #[.slice A l.length c] W (LongIs (longH l) W)) :=
    Lib.hid fun W hW => longHosts_any A c W.heap.size l W (hI.below hW).r hI.lm hI.s
  have HW := Lib.hid (tabled_any ea w hE)
  have hways := tm_ways (longH l) s.size h
  generalize longH l = lg at *
  clear hE hI h
  rcases hways with rfl | ⟨rfl, t1⟩
  all_goals
    go_enter Tryd.func9, Tryd.ntmps9
    go_wp2_with fail
    refine HW.out.mono ?_
    rintro e w1 ⟨rfl, hb1⟩
    go_wp2_with fail
    refine (HL.out _ hb1).mono ?_
    rintro e w2 ⟨rfl, rfl⟩
    go_wp2
    go_ret
    exact ⟨rfl, hb1⟩
set_option maxRecDepth 100000 in
set_option maxHeartbeats 2000000 in
theorem tm_bad_name (ea : Nat → Addr) (A : Option Addr) (c : Nat) (l : List ByteArray) (size : Int) (s : ByteArray) (w : World) (hE : ErrsW ea w) (hG : HandleAt w) (hI : TxIn w A c l) (hL : longH l = false) (hs : s.size ≤ 60) (f : Flt) (hf1 : 1 ≤ f.code) (hf9 : f.code ≤ 9) (hM : MakeNo ea l size f) (hN : isName s = false) (hR : RowNo ea s size 4) :
    Calls Tryd.prog 9 #[.slice A l.length c, .int .i64 size, .string s] w (True1 w) := by
  obtain ⟨hl30, _⟩ := long_no hL
  have HL : Hid (∀ W, Below w.heap.size w W → Calls Tryd.prog 13 #[.slice A l.length c] W (LongIs false W)) :=
    Lib.hid fun W hW => by rw [← hL]; exact longHosts_any A c W.heap.size l W (hI.below hW).r hI.lm hI.s
  have HW := Lib.hid (tabled_any ea w (errsT_w hE))
  have t1 : decide ((s.size : Int) > 60) = false := by simp; omega
  have HET : Hid (∀ W, Below w.heap.size w W → ErrsT ea W) := Lib.hid fun W hW => errsT_w (hE.below hW)
  have HZ := Lib.hid (fun W => sizeError_any size W)
  have HN := Lib.hid (fun W => isName_any s W (by unfold maxLen; omega))
  unfold NameQ at HN
  rw [hN] at HN
  have HFA : Hid (∀ W t a, Below w.heap.size w W → IsErr ea W f t a → Calls Tryd.prog 30 #[.iface t (.pointer (some a)), .agg #[.int .i64 (fCode (some f) : Int), .int .i64 (fAt (some f))]] W (Yeslaw1 W)) := Lib.hid fun W t a hW hI => faultedlaw1_some (hE.below hW) (hG.below hW) hf1 hf9 hI
  have hc1 : (0 : Int) < (fCode (some f) : Int) := by show (0 : Int) < (f.code : Int); omega
  obtain ⟨hM1, hM2⟩ := hM
  unfold FaultPost at hM2
  have HM1 := Lib.hid hM1
  have HM2 := Lib.hid hM2
  have HC : Hid (∀ W t a, Below w.heap.size w W → IsErr ea W ⟨4, none⟩ t a → Calls Tryd.prog 47 #[.iface t (.pointer (some a)), .int .i64 4] W fun e w' => e = .returned (.bool true) ∧ Below W.heap.size W w') := Lib.hid fun W t a hW hI => codedlaw1_any 4 (hE.below hW) (hG.below hW) (by show 1 ≤ 4; omega) (by show 4 ≤ 9; omega) hI rfl
  have HR1 := Lib.hid hR
  have HI := Lib.hid hI
  generalize fCode (some f) = fc at *
  generalize fAt (some f) = fa at *
  generalize sizeCode size = sc at *
  clear hI hE hG hL hs hN hM1 hM2 hf1 hf9 hR
  go_enter Tryd.func9, Tryd.ntmps9
  go_wp2_with fail
  refine HW.out.mono ?_
  rintro e w1 ⟨rfl, hb1⟩
  go_wp2_with fail
  refine (HL.out _ hb1).mono ?_
  rintro e w2 ⟨rfl, rfl⟩
  go_wp2_with fail
  refine (ownTexts_any A l.length c w1.heap.size (strV l) w1 (HI.out.below hb1).r str_one (by omega)).mono ?_
  rintro e w2 ⟨A', c', rfl, ho2, hb2⟩
  have hb12 := below_two hb1 hb2
  have hT2 : TxIn w2 A' c' l := ⟨Reads.of_own ho2, own_ncap2 ho2, HI.out.lm, HI.out.s⟩
  have HT2 := Lib.hid hT2
  clear ho2 hT2
  go_wp2_with fail
  refine (HM1.out _ _ _ (HET.out _ hb12) HT2.out).mono ?_
  rintro e w3 ⟨t, a, rfl, hX, hb3⟩
  have HX3 := Lib.hid hX
  clear hX
  have hb13 := below_two hb12 hb3
  go_wp2_with fail
  refine (HR1.out _ (HET.out _ hb13)).mono ?_
  rintro e w4 ⟨t4, a4, rfl, hY, hb4⟩
  have HY4 := Lib.hid hY
  have hb14 := below_two hb13 hb4
  clear hY
  go_wp2_with fail
  refine (HM2.out _ _ _ (HI.out.below hb14)).mono ?_
  rintro e w5 ⟨rfl, hb5⟩
  have hb15 := below_two hb14 hb5
  have hb35 := below_two hb4 hb5
  have hb5a := hb5.alloc hb5.size (.cells #[.int .i64 (fc : Int), .int .i64 fa] 47)
  have hb15a := hb15.alloc hb15.size (.cells #[.int .i64 (fc : Int), .int .i64 fa] 47)
  have hb35a := hb35.alloc hb35.size (.cells #[.int .i64 (fc : Int), .int .i64 fa] 47)
  go_wp2_with fail
  refine (HFA.out _ t a hb15a (HX3.out.below hb35a)).mono ?_
  rintro e w6 ⟨rfl, hb6⟩
  have hb16 := below_two hb15a hb6
  have hb46 := below_two hb5a hb6
  clear hb15a hb35a hb5a hb6
  go_wp2_with fail
  refine (HZ.out _).mono ?_
  rintro e w7 ⟨rfl, rfl⟩
  go_wp2_with fail
  refine (HN.out _).mono ?_
  rintro e w7 ⟨rfl, rfl⟩
  go_wp2_with fail
  refine (HC.out _ t4 a4 hb16 (HY4.out.below hb46)).mono ?_
  rintro e w8 ⟨rfl, hb8⟩
  go_wp2
  go_ret
  exact ⟨rfl, below_two hb16 hb8⟩
set_option maxRecDepth 100000 in
set_option maxHeartbeats 2000000 in
theorem tm_bad_size (ea : Nat → Addr) (A : Option Addr) (c : Nat) (l : List ByteArray) (size : Int) (s : ByteArray) (w : World) (hE : ErrsW ea w) (hG : HandleAt w) (hI : TxIn w A c l) (hL : longH l = false) (hs : s.size ≤ 60) (f : Flt) (hf1 : 1 ≤ f.code) (hf9 : f.code ≤ 9) (hM : MakeNo ea l size f) (hN : isName s = true) (k : Nat) (hk1 : 1 ≤ k) (hk9 : k ≤ 9) (hz : sizeCode size = k) (hR : RowNo ea s size k) :
    Calls Tryd.prog 9 #[.slice A l.length c, .int .i64 size, .string s] w (True1 w) := by
  obtain ⟨hl30, _⟩ := long_no hL
  have HL : Hid (∀ W, Below w.heap.size w W → Calls Tryd.prog 13 #[.slice A l.length c] W (LongIs false W)) :=
    Lib.hid fun W hW => by rw [← hL]; exact longHosts_any A c W.heap.size l W (hI.below hW).r hI.lm hI.s
  have HW := Lib.hid (tabled_any ea w (errsT_w hE))
  have t1 : decide ((s.size : Int) > 60) = false := by simp; omega
  have HET : Hid (∀ W, Below w.heap.size w W → ErrsT ea W) := Lib.hid fun W hW => errsT_w (hE.below hW)
  have HZ := Lib.hid (fun W => sizeError_any size W)
  have HN := Lib.hid (fun W => isName_any s W (by unfold maxLen; omega))
  unfold NameQ at HN
  rw [hN] at HN
  have HFA : Hid (∀ W t a, Below w.heap.size w W → IsErr ea W f t a → Calls Tryd.prog 30 #[.iface t (.pointer (some a)), .agg #[.int .i64 (fCode (some f) : Int), .int .i64 (fAt (some f))]] W (Yeslaw1 W)) := Lib.hid fun W t a hW hI => faultedlaw1_some (hE.below hW) (hG.below hW) hf1 hf9 hI
  have hc1 : (0 : Int) < (fCode (some f) : Int) := by show (0 : Int) < (f.code : Int); omega
  obtain ⟨hM1, hM2⟩ := hM
  unfold FaultPost at hM2
  have HM1 := Lib.hid hM1
  have HM2 := Lib.hid hM2
  have HC : Hid (∀ W t a, Below w.heap.size w W → IsErr ea W ⟨k, none⟩ t a → Calls Tryd.prog 47 #[.iface t (.pointer (some a)), .int .i64 (k : Int)] W fun e w' => e = .returned (.bool true) ∧ Below W.heap.size W w') := Lib.hid fun W t a hW hI => by
    have h := codedlaw1_any (f := ⟨k, none⟩) k (hE.below hW) (hG.below hW) hk1 hk9 hI rfl
    rw [decide_eq_true (show ((⟨k, none⟩ : Flt).code = k) from rfl)] at h
    exact h
  rw [hz] at HZ
  have hk0 : (0 : Int) < (k : Int) := by omega
  have HR1 := Lib.hid hR
  have HI := Lib.hid hI
  generalize fCode (some f) = fc at *
  generalize fAt (some f) = fa at *
  clear hI hE hG hL hs hN hM1 hM2 hf1 hf9 hR hz hk1 hk9
  go_enter Tryd.func9, Tryd.ntmps9
  go_wp2_with fail
  refine HW.out.mono ?_
  rintro e w1 ⟨rfl, hb1⟩
  go_wp2_with fail
  refine (HL.out _ hb1).mono ?_
  rintro e w2 ⟨rfl, rfl⟩
  go_wp2_with fail
  refine (ownTexts_any A l.length c w1.heap.size (strV l) w1 (HI.out.below hb1).r str_one (by omega)).mono ?_
  rintro e w2 ⟨A', c', rfl, ho2, hb2⟩
  have hb12 := below_two hb1 hb2
  have hT2 : TxIn w2 A' c' l := ⟨Reads.of_own ho2, own_ncap2 ho2, HI.out.lm, HI.out.s⟩
  have HT2 := Lib.hid hT2
  clear ho2 hT2
  go_wp2_with fail
  refine (HM1.out _ _ _ (HET.out _ hb12) HT2.out).mono ?_
  rintro e w3 ⟨t, a, rfl, hX, hb3⟩
  have HX3 := Lib.hid hX
  clear hX
  have hb13 := below_two hb12 hb3
  go_wp2_with fail
  refine (HR1.out _ (HET.out _ hb13)).mono ?_
  rintro e w4 ⟨t4, a4, rfl, hY, hb4⟩
  have HY4 := Lib.hid hY
  have hb14 := below_two hb13 hb4
  clear hY
  go_wp2_with fail
  refine (HM2.out _ _ _ (HI.out.below hb14)).mono ?_
  rintro e w5 ⟨rfl, hb5⟩
  have hb15 := below_two hb14 hb5
  have hb35 := below_two hb4 hb5
  have hb5a := hb5.alloc hb5.size (.cells #[.int .i64 (fc : Int), .int .i64 fa] 47)
  have hb15a := hb15.alloc hb15.size (.cells #[.int .i64 (fc : Int), .int .i64 fa] 47)
  have hb35a := hb35.alloc hb35.size (.cells #[.int .i64 (fc : Int), .int .i64 fa] 47)
  go_wp2_with fail
  refine (HFA.out _ t a hb15a (HX3.out.below hb35a)).mono ?_
  rintro e w6 ⟨rfl, hb6⟩
  have hb16 := below_two hb15a hb6
  have hb46 := below_two hb5a hb6
  clear hb15a hb35a hb5a hb6
  go_wp2_with fail
  refine (HZ.out _).mono ?_
  rintro e w7 ⟨rfl, rfl⟩
  go_wp2_with fail
  refine (HN.out _).mono ?_
  rintro e w7 ⟨rfl, rfl⟩
  go_wp2_with fail
  refine (HC.out _ t4 a4 hb16 (HY4.out.below hb46)).mono ?_
  rintro e w8 ⟨rfl, hb8⟩
  go_wp2
  go_ret
  exact ⟨rfl, below_two hb16 hb8⟩
set_option maxRecDepth 100000 in
set_option maxHeartbeats 2000000 in
theorem tm_bad_ok (ea : Nat → Addr) (A : Option Addr) (c : Nat) (l : List ByteArray) (size : Int) (s : ByteArray) (w : World) (hE : ErrsW ea w) (hG : HandleAt w) (hI : TxIn w A c l) (hL : longH l = false) (hs : s.size ≤ 60) (f : Flt) (hf1 : 1 ≤ f.code) (hf9 : f.code ≤ 9) (hM : MakeNo ea l size f) (hN : isName s = true) (hz : sizeCode size = 0) (ys : List Int) (hR : RowYes ea s size ys) :
    Calls Tryd.prog 9 #[.slice A l.length c, .int .i64 size, .string s] w (True1 w) := by
  obtain ⟨hl30, _⟩ := long_no hL
  have HL : Hid (∀ W, Below w.heap.size w W → Calls Tryd.prog 13 #[.slice A l.length c] W (LongIs false W)) :=
    Lib.hid fun W hW => by rw [← hL]; exact longHosts_any A c W.heap.size l W (hI.below hW).r hI.lm hI.s
  have HW := Lib.hid (tabled_any ea w (errsT_w hE))
  have t1 : decide ((s.size : Int) > 60) = false := by simp; omega
  have HET : Hid (∀ W, Below w.heap.size w W → ErrsT ea W) := Lib.hid fun W hW => errsT_w (hE.below hW)
  have HZ := Lib.hid (fun W => sizeError_any size W)
  have HN := Lib.hid (fun W => isName_any s W (by unfold maxLen; omega))
  unfold NameQ at HN
  rw [hN] at HN
  have HFA : Hid (∀ W t a, Below w.heap.size w W → IsErr ea W f t a → Calls Tryd.prog 30 #[.iface t (.pointer (some a)), .agg #[.int .i64 (fCode (some f) : Int), .int .i64 (fAt (some f))]] W (Yeslaw1 W)) := Lib.hid fun W t a hW hI => faultedlaw1_some (hE.below hW) (hG.below hW) hf1 hf9 hI
  have hc1 : (0 : Int) < (fCode (some f) : Int) := by show (0 : Int) < (f.code : Int); omega
  obtain ⟨hM1, hM2⟩ := hM
  unfold FaultPost at hM2
  have HM1 := Lib.hid hM1
  have HM2 := Lib.hid hM2
  obtain ⟨hyl, hR1, hR2⟩ := hR
  have HSY := sameI_hid ys hyl
  clear hyl
  rw [hz] at HZ
  have HR1 := Lib.hid hR1
  have HR2 := Lib.hid hR2
  have HI := Lib.hid hI
  generalize fCode (some f) = fc at *
  generalize fAt (some f) = fa at *
  clear hI hE hG hL hs hN hM1 hM2 hf1 hf9 hR1 hR2 hz
  go_enter Tryd.func9, Tryd.ntmps9
  go_wp2_with fail
  refine HW.out.mono ?_
  rintro e w1 ⟨rfl, hb1⟩
  go_wp2_with fail
  refine (HL.out _ hb1).mono ?_
  rintro e w2 ⟨rfl, rfl⟩
  go_wp2_with fail
  refine (ownTexts_any A l.length c w1.heap.size (strV l) w1 (HI.out.below hb1).r str_one (by omega)).mono ?_
  rintro e w2 ⟨A', c', rfl, ho2, hb2⟩
  have hb12 := below_two hb1 hb2
  have hT2 : TxIn w2 A' c' l := ⟨Reads.of_own ho2, own_ncap2 ho2, HI.out.lm, HI.out.s⟩
  have HT2 := Lib.hid hT2
  clear ho2 hT2
  go_wp2_with fail
  refine (HM1.out _ _ _ (HET.out _ hb12) HT2.out).mono ?_
  rintro e w3 ⟨t, a, rfl, hX, hb3⟩
  have HX3 := Lib.hid hX
  clear hX
  have hb13 := below_two hb12 hb3
  go_wp2_with fail
  refine (HR1.out _ (HET.out _ hb13)).mono ?_
  rintro e w4 ⟨A4, c4, rfl, hY, hb4⟩
  have HY4 := Lib.hid hY
  have hb14 := below_two hb13 hb4
  clear hY
  go_wp2_with fail
  refine (HM2.out _ _ _ (HI.out.below hb14)).mono ?_
  rintro e w5 ⟨rfl, hb5⟩
  have hb15 := below_two hb14 hb5
  have hb35 := below_two hb4 hb5
  have hb5a := hb5.alloc hb5.size (.cells #[.int .i64 (fc : Int), .int .i64 fa] 47)
  have hb15a := hb15.alloc hb15.size (.cells #[.int .i64 (fc : Int), .int .i64 fa] 47)
  have hb35a := hb35.alloc hb35.size (.cells #[.int .i64 (fc : Int), .int .i64 fa] 47)
  go_wp2_with fail
  refine (HFA.out _ t a hb15a (HX3.out.below hb35a)).mono ?_
  rintro e w6 ⟨rfl, hb6⟩
  have hb16 := below_two hb15a hb6
  have hb46 := below_two hb5a hb6
  clear hb15a hb35a hb5a hb6
  go_wp2_with fail
  refine (HZ.out _).mono ?_
  rintro e w7 ⟨rfl, rfl⟩
  go_wp2_with fail
  refine (HN.out _).mono ?_
  rintro e w7 ⟨rfl, rfl⟩
  go_wp2_with fail
  refine (HR2.out _).mono ?_
  rintro e w8 ⟨A8, c8, rfl, hr8, hb8⟩
  have HS8 := Lib.hid (HSY.out A4 A8 c4 c8 w8 ((HY4.out.below (below_two hb46 hb8)).more (below_two hb46 hb8).size) hr8)
  have hb18 := below_two hb16 hb8
  clear hr8
  go_wp2_with fail
  refine HS8.out.mono ?_
  rintro e w9 ⟨rfl, q9, rfl⟩
  go_wp2
  go_ret
  exact ⟨rfl, below_drewN hb18 q9⟩
set_option maxRecDepth 100000 in
set_option maxHeartbeats 2000000 in
theorem tm_good_name (ea : Nat → Addr) (A : Option Addr) (c : Nat) (l : List ByteArray) (size : Int) (s : ByteArray) (w : World) (hE : ErrsW ea w) (hG : HandleAt w) (hI : TxIn w A c l) (hL : longH l = false) (hs : s.size ≤ 60) (xs : List Int) (hM : MakeYes ea l size xs) (hN : isName s = false) (hR : RowNo ea s size 4) :
    Calls Tryd.prog 9 #[.slice A l.length c, .int .i64 size, .string s] w (True1 w) := by
  obtain ⟨hl30, _⟩ := long_no hL
  have HL : Hid (∀ W, Below w.heap.size w W → Calls Tryd.prog 13 #[.slice A l.length c] W (LongIs false W)) :=
    Lib.hid fun W hW => by rw [← hL]; exact longHosts_any A c W.heap.size l W (hI.below hW).r hI.lm hI.s
  have HW := Lib.hid (tabled_any ea w (errsT_w hE))
  have t1 : decide ((s.size : Int) > 60) = false := by simp; omega
  have HET : Hid (∀ W, Below w.heap.size w W → ErrsT ea W) := Lib.hid fun W hW => errsT_w (hE.below hW)
  have HZ := Lib.hid (fun W => sizeError_any size W)
  have HN := Lib.hid (fun W => isName_any s W (by unfold maxLen; omega))
  unfold NameQ at HN
  rw [hN] at HN
  obtain ⟨hxl, hsz, hsl, hM1, hM2, hM3⟩ := hM
  have HSX := sameI_hid xs hxl
  clear hxl hsz hsl
  unfold FineIs at hM2
  have HM1 := Lib.hid hM1
  have HM2 := Lib.hid hM2
  have HM3 := Lib.hid hM3
  have HC : Hid (∀ W t a, Below w.heap.size w W → IsErr ea W ⟨4, none⟩ t a → Calls Tryd.prog 47 #[.iface t (.pointer (some a)), .int .i64 4] W fun e w' => e = .returned (.bool true) ∧ Below W.heap.size W w') := Lib.hid fun W t a hW hI => codedlaw1_any 4 (hE.below hW) (hG.below hW) (by show 1 ≤ 4; omega) (by show 4 ≤ 9; omega) hI rfl
  have HR1 := Lib.hid hR
  have HI := Lib.hid hI
  generalize sizeCode size = sc at *
  clear hI hE hG hL hs hN hM1 hM2 hM3 hR
  go_enter Tryd.func9, Tryd.ntmps9
  go_wp2_with fail
  refine HW.out.mono ?_
  rintro e w1 ⟨rfl, hb1⟩
  go_wp2_with fail
  refine (HL.out _ hb1).mono ?_
  rintro e w2 ⟨rfl, rfl⟩
  go_wp2_with fail
  refine (ownTexts_any A l.length c w1.heap.size (strV l) w1 (HI.out.below hb1).r str_one (by omega)).mono ?_
  rintro e w2 ⟨A', c', rfl, ho2, hb2⟩
  have hb12 := below_two hb1 hb2
  have hT2 : TxIn w2 A' c' l := ⟨Reads.of_own ho2, own_ncap2 ho2, HI.out.lm, HI.out.s⟩
  have HT2 := Lib.hid hT2
  clear ho2 hT2
  go_wp2_with fail
  refine (HM1.out _ _ _ (HET.out _ hb12) HT2.out).mono ?_
  rintro e w3 ⟨A3, c3, rfl, hX, hb3⟩
  have HX3 := Lib.hid hX
  clear hX
  have hb13 := below_two hb12 hb3
  go_wp2_with fail
  refine (HR1.out _ (HET.out _ hb13)).mono ?_
  rintro e w4 ⟨t4, a4, rfl, hY, hb4⟩
  have HY4 := Lib.hid hY
  have hb14 := below_two hb13 hb4
  clear hY
  go_wp2_with fail
  refine (HM2.out _ _ _ (HI.out.below hb14)).mono ?_
  rintro e w5 ⟨rfl, hb5⟩
  have hb15 := below_two hb14 hb5
  have hb35 := below_two hb4 hb5
  have hb5a := hb5.alloc hb5.size (.cells #[.int .i64 0, .int .i64 (-1)] 47)
  have hb15a := hb15.alloc hb15.size (.cells #[.int .i64 0, .int .i64 (-1)] 47)
  have hb35a := hb35.alloc hb35.size (.cells #[.int .i64 0, .int .i64 (-1)] 47)
  go_wp2_with fail
  refine (HM3.out _ _ _ (HI.out.below hb15a)).mono ?_
  rintro e w6a ⟨A6, c6, rfl, hr6, hb6⟩
  have HS6 := Lib.hid (HSX.out A3 A6 c3 c6 w6a ((HX3.out.below (below_two hb35a hb6)).more (below_two hb35a hb6).size) hr6)
  have hb16a := below_two hb15a hb6
  have hb46a := below_two hb5a hb6
  clear hr6 hb15a hb35a hb5a hb6
  go_wp2_with fail
  refine HS6.out.mono ?_
  rintro e w6 ⟨rfl, q6, rfl⟩
  have hb16 := below_drewN hb16a q6
  have hb46 := below_drewN hb46a q6
  clear hb16a hb46a
  go_wp2_with fail
  refine (HZ.out _).mono ?_
  rintro e w7 ⟨rfl, rfl⟩
  go_wp2_with fail
  refine (HN.out _).mono ?_
  rintro e w7 ⟨rfl, rfl⟩
  go_wp2_with fail
  refine (HC.out _ t4 a4 hb16 (HY4.out.below hb46)).mono ?_
  rintro e w8 ⟨rfl, hb8⟩
  go_wp2
  go_ret
  exact ⟨rfl, below_two hb16 hb8⟩
set_option maxRecDepth 100000 in
set_option maxHeartbeats 2000000 in
theorem tm_good_size (ea : Nat → Addr) (A : Option Addr) (c : Nat) (l : List ByteArray) (size : Int) (s : ByteArray) (w : World) (hE : ErrsW ea w) (hG : HandleAt w) (hI : TxIn w A c l) (hL : longH l = false) (hs : s.size ≤ 60) (xs : List Int) (hM : MakeYes ea l size xs) (hN : isName s = true) (k : Nat) (hk1 : 1 ≤ k) (hk9 : k ≤ 9) (hz : sizeCode size = k) (hR : RowNo ea s size k) :
    Calls Tryd.prog 9 #[.slice A l.length c, .int .i64 size, .string s] w (True1 w) := by
  obtain ⟨hl30, _⟩ := long_no hL
  have HL : Hid (∀ W, Below w.heap.size w W → Calls Tryd.prog 13 #[.slice A l.length c] W (LongIs false W)) :=
    Lib.hid fun W hW => by rw [← hL]; exact longHosts_any A c W.heap.size l W (hI.below hW).r hI.lm hI.s
  have HW := Lib.hid (tabled_any ea w (errsT_w hE))
  have t1 : decide ((s.size : Int) > 60) = false := by simp; omega
  have HET : Hid (∀ W, Below w.heap.size w W → ErrsT ea W) := Lib.hid fun W hW => errsT_w (hE.below hW)
  have HZ := Lib.hid (fun W => sizeError_any size W)
  have HN := Lib.hid (fun W => isName_any s W (by unfold maxLen; omega))
  unfold NameQ at HN
  rw [hN] at HN
  obtain ⟨hxl, hsz, hsl, hM1, hM2, hM3⟩ := hM
  have HSX := sameI_hid xs hxl
  clear hxl hsz hsl
  unfold FineIs at hM2
  have HM1 := Lib.hid hM1
  have HM2 := Lib.hid hM2
  have HM3 := Lib.hid hM3
  have HC : Hid (∀ W t a, Below w.heap.size w W → IsErr ea W ⟨k, none⟩ t a → Calls Tryd.prog 47 #[.iface t (.pointer (some a)), .int .i64 (k : Int)] W fun e w' => e = .returned (.bool true) ∧ Below W.heap.size W w') := Lib.hid fun W t a hW hI => by
    have h := codedlaw1_any (f := ⟨k, none⟩) k (hE.below hW) (hG.below hW) hk1 hk9 hI rfl
    rw [decide_eq_true (show ((⟨k, none⟩ : Flt).code = k) from rfl)] at h
    exact h
  rw [hz] at HZ
  have hk0 : (0 : Int) < (k : Int) := by omega
  have HR1 := Lib.hid hR
  have HI := Lib.hid hI
  clear hI hE hG hL hs hN hM1 hM2 hM3 hR hz hk1 hk9
  go_enter Tryd.func9, Tryd.ntmps9
  go_wp2_with fail
  refine HW.out.mono ?_
  rintro e w1 ⟨rfl, hb1⟩
  go_wp2_with fail
  refine (HL.out _ hb1).mono ?_
  rintro e w2 ⟨rfl, rfl⟩
  go_wp2_with fail
  refine (ownTexts_any A l.length c w1.heap.size (strV l) w1 (HI.out.below hb1).r str_one (by omega)).mono ?_
  rintro e w2 ⟨A', c', rfl, ho2, hb2⟩
  have hb12 := below_two hb1 hb2
  have hT2 : TxIn w2 A' c' l := ⟨Reads.of_own ho2, own_ncap2 ho2, HI.out.lm, HI.out.s⟩
  have HT2 := Lib.hid hT2
  clear ho2 hT2
  go_wp2_with fail
  refine (HM1.out _ _ _ (HET.out _ hb12) HT2.out).mono ?_
  rintro e w3 ⟨A3, c3, rfl, hX, hb3⟩
  have HX3 := Lib.hid hX
  clear hX
  have hb13 := below_two hb12 hb3
  go_wp2_with fail
  refine (HR1.out _ (HET.out _ hb13)).mono ?_
  rintro e w4 ⟨t4, a4, rfl, hY, hb4⟩
  have HY4 := Lib.hid hY
  have hb14 := below_two hb13 hb4
  clear hY
  go_wp2_with fail
  refine (HM2.out _ _ _ (HI.out.below hb14)).mono ?_
  rintro e w5 ⟨rfl, hb5⟩
  have hb15 := below_two hb14 hb5
  have hb35 := below_two hb4 hb5
  have hb5a := hb5.alloc hb5.size (.cells #[.int .i64 0, .int .i64 (-1)] 47)
  have hb15a := hb15.alloc hb15.size (.cells #[.int .i64 0, .int .i64 (-1)] 47)
  have hb35a := hb35.alloc hb35.size (.cells #[.int .i64 0, .int .i64 (-1)] 47)
  go_wp2_with fail
  refine (HM3.out _ _ _ (HI.out.below hb15a)).mono ?_
  rintro e w6a ⟨A6, c6, rfl, hr6, hb6⟩
  have HS6 := Lib.hid (HSX.out A3 A6 c3 c6 w6a ((HX3.out.below (below_two hb35a hb6)).more (below_two hb35a hb6).size) hr6)
  have hb16a := below_two hb15a hb6
  have hb46a := below_two hb5a hb6
  clear hr6 hb15a hb35a hb5a hb6
  go_wp2_with fail
  refine HS6.out.mono ?_
  rintro e w6 ⟨rfl, q6, rfl⟩
  have hb16 := below_drewN hb16a q6
  have hb46 := below_drewN hb46a q6
  clear hb16a hb46a
  go_wp2_with fail
  refine (HZ.out _).mono ?_
  rintro e w7 ⟨rfl, rfl⟩
  go_wp2_with fail
  refine (HN.out _).mono ?_
  rintro e w7 ⟨rfl, rfl⟩
  go_wp2_with fail
  refine (HC.out _ t4 a4 hb16 (HY4.out.below hb46)).mono ?_
  rintro e w8 ⟨rfl, hb8⟩
  go_wp2
  go_ret
  exact ⟨rfl, below_two hb16 hb8⟩
set_option maxRecDepth 100000 in
set_option maxHeartbeats 2000000 in
theorem tm_good_ok (ea : Nat → Addr) (A : Option Addr) (c : Nat) (l : List ByteArray) (size : Int) (s : ByteArray) (w : World) (hE : ErrsW ea w) (hI : TxIn w A c l) (hL : longH l = false) (hs : s.size ≤ 60) (xs : List Int) (hM : MakeYes ea l size xs) (hN : isName s = true) (hz : sizeCode size = 0) (ys : List Int) (hR : RowYes ea s size ys) :
    Calls Tryd.prog 9 #[.slice A l.length c, .int .i64 size, .string s] w (True1 w) := by
  obtain ⟨hl30, _⟩ := long_no hL
  have HL : Hid (∀ W, Below w.heap.size w W → Calls Tryd.prog 13 #[.slice A l.length c] W (LongIs false W)) :=
    Lib.hid fun W hW => by rw [← hL]; exact longHosts_any A c W.heap.size l W (hI.below hW).r hI.lm hI.s
  have HW := Lib.hid (tabled_any ea w (errsT_w hE))
  have t1 : decide ((s.size : Int) > 60) = false := by simp; omega
  have HET : Hid (∀ W, Below w.heap.size w W → ErrsT ea W) := Lib.hid fun W hW => errsT_w (hE.below hW)
  have HZ := Lib.hid (fun W => sizeError_any size W)
  have HN := Lib.hid (fun W => isName_any s W (by unfold maxLen; omega))
  unfold NameQ at HN
  rw [hN] at HN
  obtain ⟨hxl, hsz, hsl, hM1, hM2, hM3⟩ := hM
  have HSX := sameI_hid xs hxl
  clear hxl hsz hsl
  unfold FineIs at hM2
  have HM1 := Lib.hid hM1
  have HM2 := Lib.hid hM2
  have HM3 := Lib.hid hM3
  obtain ⟨hyl, hR1, hR2⟩ := hR
  have HSY := sameI_hid ys hyl
  clear hyl
  rw [hz] at HZ
  have HR1 := Lib.hid hR1
  have HR2 := Lib.hid hR2
  have HI := Lib.hid hI
  clear hI hE hL hs hN hM1 hM2 hM3 hR1 hR2 hz
  go_enter Tryd.func9, Tryd.ntmps9
  go_wp2_with fail
  refine HW.out.mono ?_
  rintro e w1 ⟨rfl, hb1⟩
  go_wp2_with fail
  refine (HL.out _ hb1).mono ?_
  rintro e w2 ⟨rfl, rfl⟩
  go_wp2_with fail
  refine (ownTexts_any A l.length c w1.heap.size (strV l) w1 (HI.out.below hb1).r str_one (by omega)).mono ?_
  rintro e w2 ⟨A', c', rfl, ho2, hb2⟩
  have hb12 := below_two hb1 hb2
  have hT2 : TxIn w2 A' c' l := ⟨Reads.of_own ho2, own_ncap2 ho2, HI.out.lm, HI.out.s⟩
  have HT2 := Lib.hid hT2
  clear ho2 hT2
  go_wp2_with fail
  refine (HM1.out _ _ _ (HET.out _ hb12) HT2.out).mono ?_
  rintro e w3 ⟨A3, c3, rfl, hX, hb3⟩
  have HX3 := Lib.hid hX
  clear hX
  have hb13 := below_two hb12 hb3
  go_wp2_with fail
  refine (HR1.out _ (HET.out _ hb13)).mono ?_
  rintro e w4 ⟨A4, c4, rfl, hY, hb4⟩
  have HY4 := Lib.hid hY
  have hb14 := below_two hb13 hb4
  clear hY
  go_wp2_with fail
  refine (HM2.out _ _ _ (HI.out.below hb14)).mono ?_
  rintro e w5 ⟨rfl, hb5⟩
  have hb15 := below_two hb14 hb5
  have hb35 := below_two hb4 hb5
  have hb5a := hb5.alloc hb5.size (.cells #[.int .i64 0, .int .i64 (-1)] 47)
  have hb15a := hb15.alloc hb15.size (.cells #[.int .i64 0, .int .i64 (-1)] 47)
  have hb35a := hb35.alloc hb35.size (.cells #[.int .i64 0, .int .i64 (-1)] 47)
  go_wp2_with fail
  refine (HM3.out _ _ _ (HI.out.below hb15a)).mono ?_
  rintro e w6a ⟨A6, c6, rfl, hr6, hb6⟩
  have HS6 := Lib.hid (HSX.out A3 A6 c3 c6 w6a ((HX3.out.below (below_two hb35a hb6)).more (below_two hb35a hb6).size) hr6)
  have hb16a := below_two hb15a hb6
  have hb46a := below_two hb5a hb6
  clear hr6 hb15a hb35a hb5a hb6
  go_wp2_with fail
  refine HS6.out.mono ?_
  rintro e w6 ⟨rfl, q6, rfl⟩
  have hb16 := below_drewN hb16a q6
  have hb46 := below_drewN hb46a q6
  clear hb16a hb46a
  go_wp2_with fail
  refine (HZ.out _).mono ?_
  rintro e w7 ⟨rfl, rfl⟩
  go_wp2_with fail
  refine (HN.out _).mono ?_
  rintro e w7 ⟨rfl, rfl⟩
  go_wp2_with fail
  refine (HR2.out _).mono ?_
  rintro e w8 ⟨A8, c8, rfl, hr8, hb8⟩
  have HS8 := Lib.hid (HSY.out A4 A8 c4 c8 w8 ((HY4.out.below (below_two hb46 hb8)).more (below_two hb46 hb8).size) hr8)
  have hb18 := below_two hb16 hb8
  clear hr8
  go_wp2_with fail
  refine HS8.out.mono ?_
  rintro e w9 ⟨rfl, q9, rfl⟩
  go_wp2
  go_ret
  exact ⟨rfl, below_drewN hb18 q9⟩
theorem tableMakes_args (ea : Nat → Addr) (A : Option Addr) (c : Nat) (l : List ByteArray) (size : Int) (s : ByteArray) (w : World) (hE : ErrsW ea w) (hG : HandleAt w) (R0 : Reads w w.heap.size 1 A l.length (l.map Value.string)) (lc0 : l.length ≤ c) (cm0 : c ≤ maxLen) (wf0 : ∀ s ∈ l, s.size ≤ maxLen) (hsm : s.size ≤ maxLen) :
    Calls Tryd.prog 9 #[.slice A l.length c, .int .i64 size, .string s] w (True1 w) := by
  have hI : TxIn w A c l := ⟨R0, lc0, Nat.le_trans lc0 cm0, wf0⟩
  by_cases hs : longH l = true ∨ 60 < s.size
  · exact tm_skip ea A c l size s w (errsT_w hE) hI hs
  simp only [not_or, Bool.not_eq_true] at hs
  obtain ⟨hL, hs60⟩ := hs
  have hs60 : s.size ≤ 60 := by omega
  rcases make_both ea l size with ⟨f, hf1, hf9, hM⟩ | ⟨xs, hM⟩
  · rcases row_both ea s size hsm with ⟨hN, hR⟩ | ⟨hN, k, hk1, hk9, hz, hR⟩ | ⟨hN, hz, ys, hR⟩
    · exact tm_bad_name ea A c l size s w hE hG hI hL hs60 f hf1 hf9 hM hN hR
    · exact tm_bad_size ea A c l size s w hE hG hI hL hs60 f hf1 hf9 hM hN k hk1 hk9 hz hR
    · exact tm_bad_ok ea A c l size s w hE hG hI hL hs60 f hf1 hf9 hM hN hz ys hR
  · rcases row_both ea s size hsm with ⟨hN, hR⟩ | ⟨hN, k, hk1, hk9, hz, hR⟩ | ⟨hN, hz, ys, hR⟩
    · exact tm_good_name ea A c l size s w hE hG hI hL hs60 xs hM hN hR
    · exact tm_good_size ea A c l size s w hE hG hI hL hs60 xs hM hN k hk1 hk9 hz hR
    · exact tm_good_ok ea A c l size s w hE hI hL hs60 xs hM hN hz ys hR
end Go.Proofs.YtbbbnnooaaelmaaDoor
