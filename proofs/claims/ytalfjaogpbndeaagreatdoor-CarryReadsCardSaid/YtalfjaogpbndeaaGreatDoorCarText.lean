/-
  The walk of carry's Text.
-/
import Derived.Test.YtalfjaogpbndeaaGreatDoorPageLine
import Derived.Test.YtalfjaogpbndeaaGreatDoorCarCheck
import Derived.Test.YtalfjaogpbndeaaGreatDoorCrcAll
namespace Go.Proofs.YtalfjaogpbndeaaGreatDoor
open Go.RowKit

theorem spaced3 (a b c : List UInt8) : spaced [⟨a.toArray⟩, ⟨b.toArray⟩, ⟨c.toArray⟩] = a ++ 32 :: (b ++ 32 :: c) := by
  simp [spaced, Lib.join, List.intercalate]
theorem spaced2 (a b : List UInt8) : spaced [⟨a.toArray⟩, ⟨b.toArray⟩] = a ++ 32 :: b := by
  simp [spaced, Lib.join, List.intercalate]
/-- What Text hands back. -/
def TxPost (ea : Nat → Addr) (ep : Int) (L : List Fl) (w : World) (e : Ending) (w' : World) : Prop :=
  match checkOf ep L with
  | some f => ∃ t a, e = .returned (.tuple #[.string ⟨#[]⟩, .iface t (.pointer (some a))]) ∧ IsErr ea w' f t a ∧ Below w.heap.size w w'
  | none => e = .returned (.tuple #[.string ⟨(textOf ep L).toArray⟩, .nilIface]) ∧ Below w.heap.size w w'
set_option maxRecDepth 100000 in
set_option maxHeartbeats 1000000 in
theorem text_bad (ea : Nat → Addr) (ep : Int) (A : Option Addr) (c B : Nat) (xs : List Fl) (f : Flt) (w : World) (hE : ErrsK ea w) (hr : Reads w B 3 A xs.length (flsC xs)) (hB : B ≤ w.heap.size) (hs : ∀ x ∈ xs, x.host.size ≤ maxLen) (hu : ∀ x ∈ xs, U64 x.key) (hf : checkOf ep xs = some f) :
    Calls Tryz.prog 7 #[.int .i64 ep, .slice A xs.length c] w (TxPost ea ep xs w) := by
  have HC := carCheck_any ea ep A c B xs w hE hr hB hs hu
  unfold TxPost
  rw [hf] at HC ⊢
  have HC' := Lib.hid HC
  unfold CkPost ErrPost at HC'
  clear HC hf hE hr hs hu
  go_enter Tryz.func7, Tryz.ntmps7
  go_wp2_with fail
  refine HC'.out.mono ?_
  rintro e w1 ⟨t, a, rfl, h1, h2⟩
  go_wp2
  go_ret2
  exact ⟨t, a, rfl, h1, h2⟩
theorem flat_succ {L : List Fl} {i : Nat} (h : i < L.length) : ((L.take (i + 1)).map flowLine).flatMap (fun l => l ++ [10]) = ((L.take i).map flowLine).flatMap (fun l => l ++ [10]) ++ (flowLine L[i] ++ [10]) := by
  rw [List.take_succ_eq_append_getElem h, List.map_append, List.flatMap_append]
  simp
theorem flat_len {L : List Fl} (h : ∀ x ∈ L, FlOk x) (hk : ∀ x ∈ L, x.key < 18446744073709551616) (i : Nat) : (((L.take i).map flowLine).flatMap fun l => l ++ [10]).length ≤ 45 * L.length := by
  have h1 := lines_len (L := L.take i) (fun x hx => h x (List.mem_of_mem_take hx)) (fun x hx => hk x (List.mem_of_mem_take hx))
  have : (L.take i).length ≤ L.length := by rw [List.length_take]; omega
  omega
/-- Three words in a new list. -/
theorem cells_three (w : World) (t : TypeId) (a b c : ByteArray) : ∀ (j : Nat) x, [a, b, c][j]? = some x → (w.alloc (.cells #[.string a, .string b, .string c] t)).cell? ⟨w.heap.size, 0 + j, none⟩ = some (.string x) := by
  intro j x hx
  rw [Nat.zero_add, World.cell?_alloc_new]
  match j, hx with
  | 0, hx => simp at hx; subst hx; rfl
  | 1, hx => simp at hx; subst hx; rfl
  | 2, hx => simp at hx; subst hx; rfl
theorem cells_two (w : World) (t : TypeId) (a b : ByteArray) : ∀ (j : Nat) x, [a, b][j]? = some x → (w.alloc (.cells #[.string a, .string b] t)).cell? ⟨w.heap.size, 0 + j, none⟩ = some (.string x) := by
  intro j x hx
  rw [Nat.zero_add, World.cell?_alloc_new]
  match j, hx with
  | 0, hx => simp at hx; subst hx; rfl
  | 1, hx => simp at hx; subst hx; rfl
set_option maxRecDepth 100000 in
set_option maxHeartbeats 2000000 in
theorem text_good (ea : Nat → Addr) (ep : Int) (A : Option Addr) (c B : Nat) (xs : List Fl) (w : World) (hW : CarW w) (hE : ErrsK ea w) (hr : Reads w B 3 A xs.length (flsC xs)) (hB : B ≤ w.heap.size) (hs : ∀ x ∈ xs, x.host.size ≤ maxLen) (hu : ∀ x ∈ xs, U64 x.key) (hf : checkOf ep xs = none) :
    Calls Tryz.prog 7 #[.int .i64 ep, .slice A xs.length c] w (TxPost ea ep xs w) := by
  have HC := carCheck_any ea ep A c B xs w hE hr hB hs hu
  have hk := checkOf_none hf
  have he0 := hk.e0
  have he1 := hk.e1
  have hn := hk.n
  have HK := Lib.hid hk.l
  have HU := Lib.hid hu
  have HR := Lib.hid hr
  have HW := Lib.hid hW
  have hbl := body_len hk hu
  unfold TxPost
  rw [hf] at HC ⊢
  have HC' := Lib.hid HC
  unfold CkPost at HC'
  clear HC hf hE hr hs hu hW hk
  go_enter Tryz.func7, Tryz.ntmps7
  go_wp2_with fail
  refine HC'.out.mono ?_
  rintro e w1 ⟨rfl, hb1⟩
  have HB1 := Lib.hid hb1
  have hP2 := Pg.made w1
  have hb2 := (Below.refl w1.heap.size w1).alloc (Nat.le_refl _) (.cells #[.pointer none, .slice none 0 0] 53)
  clear hb1 HC'
  go_wp2_with fail
  generalize hW2 : w1.alloc (.cells #[.pointer none, .slice none 0 0] 53) = W2 at *
  clear hW2
  have hB2 := hb2.size
  have HWb : Hid (∀ W, Below w1.heap.size w1 W → CarW W) := Lib.hid fun W hw => HW.out.below (HB1.out.trans (hw.mono HB1.out.size))
  refine (itoa_any ep (by omega) (by omega) W2 (HWb.out _ hb2).num).mono ?_
  rintro e w3 ⟨rfl, hb3⟩
  have hb13 := hb2.trans (hb3.mono hb2.size)
  have hP3 := hP2.below hb3
  clear hb2 hb3 hP2
  go_wp2_with fail
  refine (itoa_any (xs.length : Int) (by omega) (by omega) w3 (HWb.out _ hb13).num).mono ?_
  rintro e w4 ⟨rfl, hb4⟩
  have hb14 := hb13.trans (hb4.mono hb13.size)
  have hP4 := hP3.below hb4
  clear hb13 hb4 hP3
  have hb15 := hb14.alloc hb14.size (.cells #[.string ⟨wFlows.toArray⟩, .string ⟨(Lib.itoa ep).toArray⟩, .string ⟨(Lib.itoa (xs.length : Int)).toArray⟩] 9)
  have hl1 := itoa_len he0 (by omega)
  have hl2 := itoa_len (n := (xs.length : Int)) (by omega) (by omega)
  have HL := line_any w1.heap.size w1.heap.size w4.heap.size [] [⟨wFlows.toArray⟩, ⟨(Lib.itoa ep).toArray⟩, ⟨(Lib.itoa (xs.length : Int)).toArray⟩] _ (hP4.below ((Below.refl _ _).alloc (Nat.le_refl _) _)) hb15.size (cells_three w4 9 _ _ _) (by simp) (by simp) (by simp) (by rw [spaced3]; unfold wFlows; simp only [List.length_append, List.length_cons, List.length_nil]; omega)
  rw [spaced3] at HL
  have HL' := Lib.hid HL
  unfold Lined at HL'
  clear HL hP4 hb14 hl1 hl2
  go_wp2_with fail
  refine HL'.out.mono ?_
  rintro e w6 ⟨rfl, hP6, hb6⟩
  have HB6 := Lib.hid (hb15.trans (hb6.mono (Nat.le_refl _)))
  have HP6 : Hid (Pg w1.heap.size w1.heap.size (headLine ep xs.length ++ [10] ++ ((xs.take 0).map flowLine).flatMap fun l => l ++ [10]) w6) := Lib.hid (by simpa [headLine] using hP6)
  clear HL' hP6 hb6 hb15
  go_wp2_with fail
  go_loopw [28] (fun iv wr => ∃ i : Nat, i ≤ xs.length ∧ iv = .int .i64 (i : Int) ∧ Hid (Pg w1.heap.size w1.heap.size (headLine ep xs.length ++ [10] ++ ((xs.take i).map flowLine).flatMap fun l => l ++ [10]) wr) ∧ Hid (Below w1.heap.size w1 wr)) (fun iv _ => xs.length + 1 - (intOf iv).toNat)
  case atStart => exact ⟨0, Nat.zero_le _, rfl, HP6, HB6⟩
  case round =>
    obtain ⟨i, hi, rfl, hP, hb⟩ := hrel
    by_cases hil : i < xs.length
    · have hil2 : (i : Int) < xs.length := by omega
      obtain ⟨ad, rfl, a0, a1, a2⟩ := cellsA (HR.out.keep fun p hp => (HB1.out.trans (hb.out.mono HB1.out.size)).cell (by omega)) hil
      have hFl := HK.out _ (List.getElem_mem hil)
      have hU := HU.out _ (List.getElem_mem hil)
      have hfs := flat_succ hil
      have hfl := flat_len HK.out HU.out i
      generalize xs[i] = x at *
      have hxl := flowLine_len hFl hU
      have ht0 := hFl.2.1
      have ht1 := hFl.2.2
      have hB1 := Blk.new wr 45 #[.int .u64 (x.key : Int), .string x.host, .int .i64 x.til]
      have hb7 := (Below.refl wr.heap.size wr).alloc (Nat.le_refl _) (.cells #[.int .u64 (x.key : Int), .string x.host, .int .i64 x.til] 45)
      have hlb := hb.out.size
      have HX : Hid (∀ W, Below wr.heap.size wr W → Calls Tryz.prog 19 #[.int .u64 (x.key : Int), .int .i64 16] W fun e w' => e = .returned (.string ⟨(Hex.text x.key 16).toArray⟩) ∧ Below W.heap.size W w') := Lib.hid fun W hw => hex_any x.key 16 hU (Hex.wr_len 15 _ hU) (by omega) W (HWb.out _ (hb.out.trans (hw.mono hlb))).hex
      have HI : Hid (∀ W, Below wr.heap.size wr W → Calls Tryz.prog 18 #[.int .i64 x.til] W fun e w' => e = .returned (.string ⟨(Lib.itoa x.til).toArray⟩) ∧ Below W.heap.size W w') := Lib.hid fun W hw => itoa_any x.til (by omega) (by omega) W (HWb.out _ (hb.out.trans (hw.mono hlb))).num
      have HL : Hid (∀ W, Below wr.heap.size wr W → Calls Tryz.prog 17 #[.pointer (some ⟨w1.heap.size, 0, none⟩), .slice (some ⟨W.heap.size, 0, none⟩) 3 3] (W.alloc (.cells #[.string ⟨(Hex.text x.key 16).toArray⟩, .string x.host, .string ⟨(Lib.itoa x.til).toArray⟩] 9)) fun e w' => e = .returned (.tuple #[]) ∧ Hid (Pg w1.heap.size w1.heap.size (headLine ep xs.length ++ [10] ++ ((xs.take (i + 1)).map flowLine).flatMap fun l => l ++ [10]) w') ∧ Hid (Below w1.heap.size w1 w')) := Lib.hid fun W hw => by
        have hw2 := hw.alloc hw.size (.cells #[.string ⟨(Hex.text x.key 16).toArray⟩, .string x.host, .string ⟨(Lib.itoa x.til).toArray⟩] 9)
        have e1 : spaced [⟨(Hex.text x.key 16).toArray⟩, x.host, ⟨(Lib.itoa x.til).toArray⟩] = flowLine x := spaced3 _ x.host.data.toList _
        have hh : (headLine ep xs.length).length ≤ 33 := by
          have g1 := itoa_len he0 (by omega)
          have g2 := itoa_len (n := (xs.length : Int)) (by omega) (by omega)
          unfold headLine wFlows
          simp only [List.length_append, List.length_cons, List.length_nil]
          omega
        have h := line_any w1.heap.size w1.heap.size W.heap.size _ [⟨(Hex.text x.key 16).toArray⟩, x.host, ⟨(Lib.itoa x.til).toArray⟩] _ (hP.out.below hw2) (Nat.le_trans hlb hw2.size) (cells_three W 9 _ _ _) (by simp) (by simp) (by simp only [List.length_append, List.length_singleton]; omega) (by rw [e1]; omega)
        rw [e1, List.append_assoc _ _ (flowLine x ++ [10]), ← hfs] at h
        refine h.mono ?_
        rintro e w' ⟨h1, h2, h3⟩
        exact ⟨h1, Lib.hid h2, Lib.hid ((hb.out.trans (hw2.mono hlb)).trans h3)⟩
      clear hfs hfl hxl ht0 ht1 hFl hP
      go_wp2_with fail
      generalize wr.alloc (.cells #[.int .u64 (x.key : Int), .string x.host, .int .i64 x.til] 45) = W7 at *
      have hb7d := bl_drew hb7
      have hB7d : Blk W7.drew wr.heap.size 45 #[.int .u64 (x.key : Int), .string x.host, .int .i64 x.til] := hB1
      have q0 : W7.cell? ⟨wr.heap.size, 0, none⟩ = some (.int .u64 (x.key : Int)) := hB1.cell 0
      have q1 : W7.cell? ⟨wr.heap.size, 1, none⟩ = some (.string x.host) := hB1.cell 1
      have q2 : W7.cell? ⟨wr.heap.size, 2, none⟩ = some (.int .i64 x.til) := hB1.cell 2
      have t0 : W7.drew.cell? ⟨wr.heap.size, 0, none⟩ = some (.int .u64 (x.key : Int)) := hB7d.cell 0
      have t1 : W7.drew.cell? ⟨wr.heap.size, 1, none⟩ = some (.string x.host) := hB7d.cell 1
      have t2 : W7.drew.cell? ⟨wr.heap.size, 2, none⟩ = some (.int .i64 x.til) := hB7d.cell 2
      clear a0 a1 a2
      go_region_with (first
        | (go_at_call 19
           refine (HX.out _ hb7d).mono ?_
           rintro e w8 ⟨rfl, hb8⟩
           have hB8 := hB7d.below hb8 hB7d.lt
           have hb78 := below_two hb7d hb8
           have u0 : w8.cell? ⟨wr.heap.size, 0, none⟩ = some (.int .u64 (x.key : Int)) := hB8.cell 0
           have u1 : w8.cell? ⟨wr.heap.size, 1, none⟩ = some (.string x.host) := hB8.cell 1
           have u2 : w8.cell? ⟨wr.heap.size, 2, none⟩ = some (.int .i64 x.til) := hB8.cell 2)
        | (go_at_call 18
           refine (HI.out _ hb78).mono ?_
           rintro e w9 ⟨rfl, hb9⟩
           have hB9 := hB8.below hb9 hB8.lt
           have hb79 := below_two hb78 hb9
           have v1 : w9.cell? ⟨wr.heap.size, 1, none⟩ = some (.string x.host) := hB9.cell 1)
        | (go_at_call 17
           refine (HL.out _ hb79).mono ?_
           rintro e w10 ⟨rfl, hP10, hb10⟩))
      all_goals
        go_wp2_with fail
        go_roundw
        case rel => exact ⟨i + 1, by omega, by go_num, hP10, hb10⟩
        case measure => simp [intOf]; omega
    · obtain rfl : i = xs.length := by omega
      have hge : ¬ (xs.length : Int) < xs.length := by omega
      have hbd : headLine ep xs.length ++ [10] ++ ((xs.take xs.length).map flowLine).flatMap (fun l => l ++ [10]) = bodyOf ep xs := by
        rw [List.take_length]; simp [bodyOf]
      rw [hbd] at hP
      have hbne : bodyOf ep xs ≠ [] := by simp [bodyOf]
      have hT : Hid (textOf ep xs = bodyOf ep xs ++ (sumLine (Crc.sum (bodyOf ep xs)) ++ [10])) := Lib.hid rfl
      have hbs := Crc.sum_lt (bodyOf ep xs)
      have hGS := fun W (h : Pg w1.heap.size w1.heap.size (bodyOf ep xs) W) => getString_any w1.heap.size w1.heap.size (bodyOf ep xs) W h hbne
      have hSM : ∀ W, Calls Tryz.prog 20 #[.string ⟨(bodyOf ep xs).toArray⟩] W fun e w' => e = .returned (.int .u64 (Crc.sum (bodyOf ep xs) : Int)) ∧ W = w' := fun W => sum_any ⟨(bodyOf ep xs).toArray⟩ W (by unfold maxLen; simp only [ByteArray.size, List.size_toArray]; omega)
      have HGS := Lib.hid hGS
      have HSM := Lib.hid hSM
      clear hGS hSM hbd
      generalize bodyOf ep xs = body at *
      have HWc : Hid (∀ W, Below w1.heap.size w1 W → HexW W) := Lib.hid fun W hw => (HWb.out _ hw).hex
      go_wp2_with fail
      refine (HGS.out _ hP.out).mono ?_
      rintro e w7 ⟨rfl, hP7, hb7⟩
      have hb17 := hb.out.trans hb7
      clear hP hb7
      go_wp2_with fail
      refine (HSM.out _).mono ?_
      rintro e w8 ⟨rfl, rfl⟩
      generalize Crc.sum body = n at *
      go_wp2_with fail
      refine (hex_any n 8 (by omega) (Hex.wr_len 7 _ (by omega)) (by omega) w7 (HWc.out _ hb17)).mono ?_
      rintro e w9 ⟨rfl, hb9⟩
      have hP9 := hP7.below hb9
      have hb19 := hb17.trans (hb9.mono hb17.size)
      have hb20 := hb19.alloc hb19.size (.cells #[.string ⟨#[115, 117, 109]⟩, .string ⟨(Hex.text n 8).toArray⟩] 9)
      have hn8 := Hex.text_len n 8 (Hex.wr_len 7 _ (by omega))
      have e1 : spaced [⟨#[115, 117, 109]⟩, ⟨(Hex.text n 8).toArray⟩] = sumLine n := spaced2 [115, 117, 109] _
      have hsl := sumLine_len hbs
      have HL := line_any w1.heap.size w1.heap.size w9.heap.size body [⟨#[115, 117, 109]⟩, ⟨(Hex.text n 8).toArray⟩] _ (hP9.below ((Below.refl _ _).alloc (Nat.le_refl _) _)) hb20.size (cells_two w9 9 _ _) (by simp) (by simp) (by omega) (by rw [e1]; omega)
      rw [e1] at HL
      have HL' := Lib.hid HL
      unfold Lined at HL'
      clear HL hP7 hP9 hb9 hb17 hb19 e1 HGS HSM
      go_wp2_with fail
      refine HL'.out.mono ?_
      rintro e w10 ⟨rfl, hP10, hb10⟩
      have HBf := Lib.hid (hb20.trans hb10)
      rw [← hT.out] at hP10
      have hbne2 : textOf ep xs ≠ [] := by rw [hT.out]; simp
      clear HL' hb10 hb20
      go_wp2_with fail
      refine (getString_any w1.heap.size w1.heap.size _ w10 hP10 hbne2).mono ?_
      rintro e w11 ⟨rfl, hP11, hb11⟩
      have HBg := Lib.hid (HB1.out.trans ((HBf.out.trans hb11).mono HB1.out.size))
      clear hP11 hP10 hb11 HBf
      go_wp2
      go_ret2
      exact ⟨rfl, HBg.out⟩
theorem text_any (ea : Nat → Addr) (ep : Int) (A : Option Addr) (c B : Nat) (xs : List Fl) (w : World) (hW : CarW w) (hE : ErrsK ea w) (hr : Reads w B 3 A xs.length (flsC xs)) (hB : B ≤ w.heap.size) (hs : ∀ x ∈ xs, x.host.size ≤ maxLen) (hu : ∀ x ∈ xs, U64 x.key) :
    Calls Tryz.prog 7 #[.int .i64 ep, .slice A xs.length c] w (TxPost ea ep xs w) := by
  cases hf : checkOf ep xs with
  | some f => exact text_bad ea ep A c B xs f w hE hr hB hs hu hf
  | none => exact text_good ea ep A c B xs w hW hE hr hB hs hu hf
end Go.Proofs.YtalfjaogpbndeaaGreatDoor
