/-
  The law CarryTexts: its walk.
-/
import Derived.Test.YtalfjaogpbndeaaGreatDoorCarried
import Derived.Test.YtalfjaogpbndeaaGreatDoorOwnFl
import Derived.Test.YtalfjaogpbndeaaGreatDoorArgFlows
import Derived.Test.YtalfjaogpbndeaaGreatDoorRefCarFault
import Derived.Test.YtalfjaogpbndeaaGreatDoorRefSealed
import Derived.Test.YtalfjaogpbndeaaGreatDoorFaulted2
namespace Go.Proofs.YtalfjaogpbndeaaGreatDoor
open Go.RowKit

theorem ErrsW.errsK {ea : Nat → Addr} {w : World} (h : ErrsW ea w) : ErrsK ea w := ⟨(h.row 1 (by decide) (by decide)).1, (h.row 2 (by decide) (by decide)).1, (h.row 4 (by decide) (by decide)).1, (h.row 6 (by decide) (by decide)).1, (h.row 9 (by decide) (by decide)).1⟩
theorem ckOne_le (S : List Nat) (x : Fl) : ckOne S x ≤ 9 := by
  unfold ckOne
  split
  · decide
  · split
    · decide
    · split <;> decide
theorem ckGo_code : ∀ (l : List Fl) (S : List Nat) (i : Nat) {f : Flt}, ckGo S i l = some f → 1 ≤ f.code ∧ f.code ≤ 9
  | [], _, _, _, h => by cases h
  | x :: r, S, i, f, h => by
    unfold ckGo at h
    split at h
    · exact ckGo_code r _ _ h
    · rename_i h0
      cases h
      exact ⟨by show 1 ≤ ckOne S x; omega, ckOne_le S x⟩
theorem checkOf_code {ep : Int} {L : List Fl} {f : Flt} (h : checkOf ep L = some f) : 1 ≤ f.code ∧ f.code ≤ 9 := by
  unfold checkOf at h
  split at h
  · cases h; exact ⟨by decide, by decide⟩
  · exact ckGo_code _ _ _ h
set_option maxRecDepth 100000 in
set_option maxHeartbeats 1000000 in
theorem texts_skip (ea : Nat → Addr) (ep : Int) (A : Option Addr) (c : Nat) (xs : List Fl) (w : World) (hW : CarW w) (hE : ErrsK ea w) (hI : FlowsIn w A xs) (h : longF xs = true) :
    Calls Tryz.prog 3 #[.int .i64 ep, .slice A xs.length c] w (True1 w) := by
  have HC := Lib.hid (carried_any ea w hW hE)
  have HL := Lib.hid (fun W (hw : Below w.heap.size w W) => longFlows_any A c _ xs W (hI.below hw).r hI.m hI.s)
  unfold LongIs at HL
  rw [h] at HL
  simp only [if_true] at HL
  clear hW hE hI h
  go_enter Tryz.func3, Tryz.ntmps3
  go_wp2_with fail
  refine HC.out.mono ?_
  rintro e w1 ⟨rfl, hb1⟩
  go_wp2_with fail
  refine (HL.out _ hb1).mono ?_
  rintro e w2 ⟨rfl, rfl⟩
  go_wp2
  go_ret
  exact ⟨rfl, hb1⟩
set_option maxRecDepth 100000 in
set_option maxHeartbeats 1000000 in
theorem texts_err (ea : Nat → Addr) (ep : Int) (A : Option Addr) (c : Nat) (xs : List Fl) (w : World) (hW : CarW w) (hE : ErrsW ea w) (hG : HandleAt w) (hI : FlowsIn w A xs) (h : longF xs = false) {f : Flt} (hf : checkOf ep xs = some f) :
    Calls Tryz.prog 3 #[.int .i64 ep, .slice A xs.length c] w (True1 w) := by
  obtain ⟨hn, _⟩ := longF_no h
  obtain ⟨hc1, hc9⟩ := checkOf_code hf
  have HC := Lib.hid (carried_any ea w hW hE.errsK)
  have HL := Lib.hid (fun W (hw : Below w.heap.size w W) => longFlows_any A c _ xs W (hI.below hw).r hI.m hI.s)
  unfold LongIs at HL
  rw [h] at HL
  simp only [if_false, Bool.false_eq_true] at HL
  have HO := Lib.hid (fun W (hw : Below w.heap.size w W) => ownB_any A c W.heap.size xs W (hI.below hw).r (Nat.le_refl _) (by omega))
  have HT := Lib.hid (fun W (hw : Below w.heap.size w W) A' c' (hr : Reads W W.heap.size 3 A' xs.length (flsC xs)) => text_any ea ep A' c' W.heap.size xs W (hW.below hw) (hE.errsK.below hw) hr (Nat.le_refl _) hI.s hI.u)
  unfold TxPost at HT
  rw [hf] at HT
  have HF := Lib.hid (fun W (hw : Below w.heap.size w W) => refCarFault_any ep A c _ xs W (hI.below hw).r (Nat.le_refl _) hI.m hI.s)
  unfold FaultPost at HF
  rw [hf] at HF
  have HD := Lib.hid (fun W (hw : Below w.heap.size w W) t a (hi : IsErr ea W f t a) => faultedlaw2_some (hE.below hw) (hG.below hw) hc1 hc9 hi)
  unfold Yeslaw2 at HD
  have d1 : 0 < fCode (some f) := hc1
  clear hW hE hG hI h hn hf hc1 hc9
  generalize fCode (some f) = fc at *
  generalize fAt (some f) = fa at *
  go_enter Tryz.func3, Tryz.ntmps3
  go_wp2_with fail
  refine HC.out.mono ?_
  rintro e w1 ⟨rfl, hb1⟩
  go_wp2_with fail
  refine (HL.out _ hb1).mono ?_
  rintro e w2 ⟨rfl, rfl⟩
  go_wp2_with fail
  refine (HO.out _ hb1).mono ?_
  rintro e w2 ⟨A2, c2, rfl, hr2, hb2⟩
  have hb12 := below_two hb1 hb2
  go_wp2_with fail
  refine (HT.out _ hb12 A2 c2 hr2).mono ?_
  rintro e w3 ⟨t, a, rfl, h3, hb3⟩
  have hb13 := below_two hb12 hb3
  have H3 := Lib.hid h3
  clear h3 hr2 hb1 hb2 hb12 hb3
  go_wp2_with fail
  refine (HF.out _ hb13).mono ?_
  rintro e w4 ⟨rfl, hb4⟩
  have hb5 := (Below.refl w4.heap.size w4).alloc (Nat.le_refl _) (.cells #[.int .i64 (fc : Int), .int .i64 fa] 31)
  have hB5 := Blk.new w4 31 #[.int .i64 (fc : Int), .int .i64 fa]
  have hb15 := below_two hb13 (below_two hb4 hb5)
  have H5 := Lib.hid ((H3.out.below hb4).below hb5)
  clear hb4 hb5 hb13
  go_wp2_with fail
  refine (HD.out _ hb15 t a H5.out).mono ?_
  rintro e w6 ⟨rfl, hb6⟩
  have hb16 := below_two hb15 hb6
  clear hb6 hb15
  go_wp2
  go_ret
  exact ⟨rfl, hb16⟩
set_option maxRecDepth 100000 in
set_option maxHeartbeats 1000000 in
theorem texts_good (ea : Nat → Addr) (ep : Int) (A : Option Addr) (c : Nat) (xs : List Fl) (w : World) (hW : CarW w) (hE : ErrsK ea w) (hI : FlowsIn w A xs) (h : longF xs = false) (hf : checkOf ep xs = none) :
    Calls Tryz.prog 3 #[.int .i64 ep, .slice A xs.length c] w (True1 w) := by
  obtain ⟨hn, _⟩ := longF_no h
  have hk := checkOf_none hf
  have HC := Lib.hid (carried_any ea w hW hE)
  have HL := Lib.hid (fun W (hw : Below w.heap.size w W) => longFlows_any A c _ xs W (hI.below hw).r hI.m hI.s)
  unfold LongIs at HL
  rw [h] at HL
  simp only [if_false, Bool.false_eq_true] at HL
  have HO := Lib.hid (fun W (hw : Below w.heap.size w W) => ownB_any A c W.heap.size xs W (hI.below hw).r (Nat.le_refl _) (by omega))
  have HT := Lib.hid (fun W (hw : Below w.heap.size w W) A' c' (hr : Reads W W.heap.size 3 A' xs.length (flsC xs)) => text_any ea ep A' c' W.heap.size xs W (hW.below hw) (hE.below hw) hr (Nat.le_refl _) hI.s hI.u)
  unfold TxPost at HT
  rw [hf] at HT
  have HF := Lib.hid (fun W (hw : Below w.heap.size w W) => refCarFault_any ep A c _ xs W (hI.below hw).r (Nat.le_refl _) hI.m hI.s)
  unfold FaultPost at HF
  rw [hf] at HF
  have HR := Lib.hid (fun W (hw : Below w.heap.size w W) => read_any ea ⟨(textOf ep xs).toArray⟩ W (hW.below hw) (hE.below hw))
  rw [show (⟨(textOf ep xs).toArray⟩ : ByteArray).data.toList = textOf ep xs from rfl, read_text hf hI.u] at HR
  unfold RdPost at HR
  have HM := Lib.hid (fun W (hw : Below w.heap.size w W) => refText_any ep A c _ xs W (hI.below hw).r (Nat.le_refl _) hk hI.u)
  have HI := Lib.hid hI
  obtain ⟨e0, rfl⟩ := Int.eq_ofNat_of_zero_le hk.e0
  simp only [Int.toNat_natCast] at HR
  clear hW hE hI h hn hf hk
  generalize textOf (e0 : Int) xs = t at *
  go_enter Tryz.func3, Tryz.ntmps3
  go_wp2_with fail
  refine HC.out.mono ?_
  rintro e w1 ⟨rfl, hb1⟩
  go_wp2_with fail
  refine (HL.out _ hb1).mono ?_
  rintro e w2 ⟨rfl, rfl⟩
  go_wp2_with fail
  refine (HO.out _ hb1).mono ?_
  rintro e w2 ⟨A2, c2, rfl, hr2, hb2⟩
  have hb12 := below_two hb1 hb2
  go_wp2_with fail
  refine (HT.out _ hb12 A2 c2 hr2).mono ?_
  rintro e w3 ⟨rfl, hb3⟩
  have hb13 := below_two hb12 hb3
  clear hr2 hb1 hb2 hb12 hb3
  go_wp2_with fail
  refine (HF.out _ hb13).mono ?_
  rintro e w4 ⟨rfl, hb4⟩
  have hb14 := below_two hb13 hb4
  have hb15 := hb14.alloc hb14.size (.cells #[.int .i64 (fCode none : Int), .int .i64 (fAt none)] 31)
  have g0 : (fCode none : Int) = 0 := rfl
  have g1 : fAt none = -1 := rfl
  rw [g0, g1] at hb15
  rw [g0, g1]
  clear hb4 hb13 hb14 g0 g1
  go_wp2_with fail
  refine (HR.out _ hb15).mono ?_
  rintro e w6 ⟨v, rfl, hv, hb6⟩
  obtain ⟨A6, c6, rfl, hrd6, _⟩ := own_slice hv
  have hb16 := below_two hb15 hb6
  clear hb6 hb15 hv
  go_wp2_with fail
  refine (HM.out _ hb16).mono ?_
  rintro e w7 ⟨rfl, hb7⟩
  have hb17 := below_two hb16 hb7
  have HS := Lib.hid (same_any A6 A c6 c w7.heap.size _ xs w7 ((hrd6.below hb7).more hb7.size) (Nat.le_refl _) (HI.out.below hb17).r (Nat.le_refl _) HI.out.m)
  clear hb7 hb16 hrd6
  go_wp2_with fail
  refine HS.out.mono ?_
  rintro e w8 ⟨rfl, hb8⟩
  have hb18 := below_two hb17 hb8
  clear hb8 hb17
  go_wp2
  go_ret
  exact ⟨rfl, hb18⟩
theorem carryTexts_any (ea : Nat → Addr) (ep : Int) (A : Option Addr) (c : Nat) (xs : List Fl) (w : World) (hW : CarW w) (hE : ErrsW ea w) (hG : HandleAt w) (hI : FlowsIn w A xs) :
    Calls Tryz.prog 3 #[.int .i64 ep, .slice A xs.length c] w (True1 w) := by
  cases h : longF xs with
  | true => exact texts_skip ea ep A c xs w hW hE.errsK hI h
  | false =>
    cases hf : checkOf ep xs with
    | some f => exact texts_err ea ep A c xs w hW hE hG hI h hf
    | none => exact texts_good ea ep A c xs w hW hE.errsK hI h hf
end Go.Proofs.YtalfjaogpbndeaaGreatDoor
