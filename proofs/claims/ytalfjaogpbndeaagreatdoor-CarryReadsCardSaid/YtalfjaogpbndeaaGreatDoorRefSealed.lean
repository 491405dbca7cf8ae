/-
  The walks of the reference's Seal and CarryText.
  The walk of the reference's SameFlows.
-/
import Derived.Test.YtalfjaogpbndeaaGreatDoorRefDigits
import Derived.Test.YtalfjaogpbndeaaGreatDoorRefCrc
import Derived.Test.YtalfjaogpbndeaaGreatDoorCarLaws
import Derived.Test.YtalfjaogpbndeaaGreatDoorFlCells
import Derived.Test.YtalfjaogpbndeaaGreatDoorTurn
import Derived.BigQuiet
import Derived.Deep.RegionHeld3
import Derived.Deep.QuietTactic
namespace Go.Proofs.YtalfjaogpbndeaaGreatDoor
open Go.RowKit

/-- A text, sealed. -/
def sealOf (l : List UInt8) : List UInt8 := l ++ (sumLine (Crc.sum l) ++ [10])
set_option maxHeartbeats 1000000 in
theorem seal_any (l : List UInt8) (hl : l.length ≤ 100000) (w : World) :
    Calls Tryz.prog 14 #[.string ⟨l.toArray⟩] w fun e w' => e = .returned (.string ⟨(sealOf l).toArray⟩) ∧ w = w' := by
  have hs := Crc.sum_lt l
  have hsz : (⟨l.toArray⟩ : ByteArray).size = l.length := by simp [ByteArray.size]
  have HC : Hid (∀ W, Calls Tryz.prog 33 #[.string ⟨l.toArray⟩] W fun e w' => e = .returned (.int .u64 (Crc.sum l : Int)) ∧ W = w') := Lib.hid fun W => refCrc_any ⟨l.toArray⟩ W (by rw [hsz]; unfold maxLen; omega)
  have HH := Lib.hid (fun W => refHex_any (Crc.sum l) 8 (by omega) (by omega) (by omega) (by omega) W)
  have hlen := Hex.text_len (Crc.sum l) 8 (Hex.wr_len 7 _ (by omega))
  have HT : Hid (sealOf l = l ++ wSum ++ Hex.text (Crc.sum l) 8 ++ [10]) := Lib.hid (by simp [sealOf, sumLine])
  generalize sealOf l = S at *
  generalize Hex.text (Crc.sum l) 8 = t at *
  generalize Crc.sum l = n at *
  go_enter Tryz.func14, Tryz.ntmps14
  go_wp2_with (first
    | (refine (HC.out _).mono ?_; rintro e w1 ⟨rfl, rfl⟩)
    | (refine (HH.out _).mono ?_; rintro e w1 ⟨rfl, rfl⟩))
  have e : (⟨l.toArray⟩ : ByteArray) ++ ⟨#[115, 117, 109, 32]⟩ ++ ⟨t.toArray⟩ ++ ⟨#[10]⟩ = ⟨S.toArray⟩ := by
    rw [show (⟨#[115, 117, 109, 32]⟩ : ByteArray) = ⟨wSum.toArray⟩ from rfl, show (⟨#[10]⟩ : ByteArray) = ⟨([10] : List UInt8).toArray⟩ from rfl, ba_app, ba_app, ba_app, HT.out]
  go_ret
  exact ⟨congrArg (fun x => Ending.returned (.string x)) e, rfl⟩
theorem flat_succ2 {L : List Fl} {i : Nat} (h : i < L.length) : ((L.take (i + 1)).map flowLine).flatMap (fun l => l ++ [10]) = ((L.take i).map flowLine).flatMap (fun l => l ++ [10]) ++ (flowLine L[i] ++ [10]) := by
  rw [List.take_succ_eq_append_getElem h, List.map_append, List.flatMap_append]
  simp
theorem flat_len2 {L : List Fl} (h : ∀ x ∈ L, FlOk x) (hk : ∀ x ∈ L, x.key < 18446744073709551616) (i : Nat) : (((L.take i).map flowLine).flatMap fun l => l ++ [10]).length ≤ 45 * L.length := by
  have h1 := lines_len (L := L.take i) (fun x hx => h x (List.mem_of_mem_take hx)) (fun x hx => hk x (List.mem_of_mem_take hx))
  have : (L.take i).length ≤ L.length := by rw [List.length_take]; omega
  omega
theorem line_bytes (s h d : List UInt8) (x : ByteArray) : (⟨s.toArray⟩ : ByteArray) ++ ⟨h.toArray⟩ ++ ⟨#[32]⟩ ++ x ++ ⟨#[32]⟩ ++ ⟨d.toArray⟩ ++ ⟨#[10]⟩ = ⟨(s ++ (h ++ 32 :: (x.data.toList ++ 32 :: d) ++ [10])).toArray⟩ := by
  apply ByteArray.ext
  simp only [ByteArray.data_append]
  apply Array.ext'
  simp
set_option maxRecDepth 100000 in
set_option maxHeartbeats 2000000 in
theorem refText_any (ep : Int) (A : Option Addr) (c B : Nat) (xs : List Fl) (w : World) (hr : Reads w B 3 A xs.length (flsC xs)) (hB : B ≤ w.heap.size) (hk : COk ep xs) (hu : ∀ x ∈ xs, U64 x.key) :
    Calls Tryz.prog 12 #[.int .i64 ep, .slice A xs.length c] w fun e w' => e = .returned (.string ⟨(textOf ep xs).toArray⟩) ∧ Below w.heap.size w w' := by
  have he0 := hk.e0
  have he1 := hk.e1
  have hn := hk.n
  have HK := Lib.hid hk.l
  have HU := Lib.hid hu
  have HR := Lib.hid hr
  have hbl := body_len hk hu
  obtain ⟨e, rfl⟩ := Int.eq_ofNat_of_zero_le he0
  have HD := Lib.hid (fun W => decimal_any e (by omega) W)
  have HN := Lib.hid (fun W => decimal_any xs.length (by omega) W)
  have hl1 := itoa_len (n := (e : Int)) (by omega) (by omega)
  have hl2 := itoa_len (n := (xs.length : Int)) (by omega) (by omega)
  have hh : (headLine (e : Int) xs.length).length ≤ 33 := by
    unfold headLine wFlows
    simp only [List.length_append, List.length_cons, List.length_nil]
    omega
  have HH : Hid ((⟨#[102, 108, 111, 119, 115, 32]⟩ : ByteArray) ++ ⟨(Lib.itoa (e : Int)).toArray⟩ ++ ⟨#[32]⟩ ++ ⟨(Lib.itoa (xs.length : Int)).toArray⟩ ++ ⟨#[10]⟩ = ⟨(headLine (e : Int) xs.length ++ [10] ++ ((xs.take 0).map flowLine).flatMap fun l => l ++ [10]).toArray⟩) := Lib.hid (by
    apply ByteArray.ext
    simp only [ByteArray.data_append]
    apply Array.ext'
    simp [headLine, wFlows])
  have HF : Hid (∀ W, Calls Tryz.prog 14 #[.string ⟨(headLine (e : Int) xs.length ++ [10] ++ ((xs.take xs.length).map flowLine).flatMap fun l => l ++ [10]).toArray⟩] W fun r w' => r = .returned (.string ⟨(textOf (e : Int) xs).toArray⟩) ∧ W = w') := Lib.hid fun W => by
    have hbd : headLine (e : Int) xs.length ++ [10] ++ ((xs.take xs.length).map flowLine).flatMap (fun l => l ++ [10]) = bodyOf (e : Int) xs := by
      rw [List.take_length]; simp [bodyOf]
    rw [hbd]
    exact seal_any _ (by omega) W
  clear hr hu hk
  go_enter Tryz.func12, Tryz.ntmps12
  go_wp2_with fail
  refine (HD.out _).mono ?_
  rintro r w1 ⟨rfl, hb1⟩
  go_wp2_with fail
  refine (HN.out _).mono ?_
  rintro r w2 ⟨rfl, hb2⟩
  have hb12 := Lib.hid (below_two hb1 hb2)
  clear hb1 hb2
  go_wp2_with fail
  go_loopw [5, 6] (fun sv iv wr => ∃ i : Nat, i ≤ xs.length ∧ iv = .int .i64 (i : Int) ∧ sv = .string ⟨(headLine (e : Int) xs.length ++ [10] ++ ((xs.take i).map flowLine).flatMap fun l => l ++ [10]).toArray⟩ ∧ Hid (Below w.heap.size w wr)) (fun _ iv _ => xs.length + 1 - (intOf iv).toNat)
  case atStart => exact ⟨0, Nat.zero_le _, rfl, congrArg Value.string HH.out, hb12⟩
  case round =>
    obtain ⟨i, hi, rfl, rfl, hb⟩ := hrel
    clear HD HN HH hl1 hl2
    by_cases hil : i < xs.length
    · have hil2 : (i : Int) < xs.length := by omega
      obtain ⟨ad, rfl, a0, a1, a2⟩ := cellsA (HR.out.keep fun p hp => hb.out.cell (by omega)) hil
      have hlt := World.block_lt_of_cell? _ _ a0
      have hFl := HK.out _ (List.getElem_mem hil)
      have hU := HU.out _ (List.getElem_mem hil)
      have hfs := flat_succ2 hil
      have hfl := flat_len2 HK.out HU.out i
      generalize xs[i] = x at *
      have ht0 := hFl.2.1
      have ht1 := hFl.2.2
      obtain ⟨k, ho, tl⟩ := x
      simp only at ht0 ht1 a0 a1 a2 hU
      obtain ⟨t, rfl⟩ := Int.eq_ofNat_of_zero_le ht0
      have HX := Lib.hid (fun W => refHex_any k 16 hU (by omega) (by omega) hU W)
      have HD := Lib.hid (fun W => decimal_any t (by omega) W)
      have hl16 := Hex.text_len k 16 (Hex.wr_len 15 _ hU)
      have hl13 := itoa_len (n := (t : Int)) (by omega) (by omega)
      have hnm := name_len hFl.1
      have hnm2 : ho.size ≤ 12 := by simpa using hnm
      have HT : Hid (∀ s : List UInt8, (⟨s.toArray⟩ : ByteArray) ++ ⟨(Hex.text k 16).toArray⟩ ++ ⟨#[32]⟩ ++ ho ++ ⟨#[32]⟩ ++ ⟨(Lib.itoa (t : Int)).toArray⟩ ++ ⟨#[10]⟩ = ⟨(s ++ (flowLine ⟨k, ho, (t : Int)⟩ ++ [10])).toArray⟩) := Lib.hid fun s => line_bytes s _ _ ho
      have hacc : (headLine (e : Int) xs.length ++ [10] ++ ((xs.take i).map flowLine).flatMap fun l => l ++ [10]).length ≤ 9100 := by
        simp only [List.length_append, List.length_singleton]
        omega
      have HS : Hid (headLine (e : Int) xs.length ++ [10] ++ ((xs.take (i + 1)).map flowLine).flatMap (fun l => l ++ [10]) = headLine (e : Int) xs.length ++ [10] ++ ((xs.take i).map flowLine).flatMap (fun l => l ++ [10]) ++ (flowLine ⟨k, ho, (t : Int)⟩ ++ [10])) := Lib.hid (by rw [hfs]; simp only [List.append_assoc])
      clear hfs hfl hFl hnm
      generalize headLine (e : Int) xs.length ++ [10] ++ ((xs.take i).map flowLine).flatMap (fun l => l ++ [10]) = acc at *
      generalize Hex.text k 16 = hx at *
      generalize Lib.itoa (t : Int) = dt at *
      have s1 : ¬ 9223372036854775807 < acc.length + 16 := by omega
      have s2 : ¬ 9223372036854775807 < acc.length + 16 + 1 := by omega
      have s3 : ¬ 9223372036854775807 < acc.length + 16 + 1 + ho.size := by omega
      have s4 : ¬ 9223372036854775807 < acc.length + 16 + 1 + ho.size + 1 := by omega
      have s5 : ¬ 9223372036854775807 < acc.length + 16 + 1 + ho.size + 1 + dt.length := by omega
      have s6 : ¬ 9223372036854775807 < acc.length + 16 + 1 + ho.size + 1 + dt.length + 1 := by omega
      have HKP : Hid (∀ W, Below wr.heap.size wr W → Below wr.heap.size wr W ∧ W.cell? (ad.add (i * 3)) = some (.int .u64 (k : Int)) ∧ W.cell? ⟨(ad.add (i * 3)).block, (ad.add (i * 3)).off + 1, none⟩ = some (.string ho) ∧ W.cell? ⟨(ad.add (i * 3)).block, (ad.add (i * 3)).off + 2, none⟩ = some (.int .i64 (t : Int))) := Lib.hid fun W hw => ⟨hw, (hw.cell hlt).trans a0, (hw.cell (p := ⟨(ad.add (i * 3)).block, (ad.add (i * 3)).off + 1, none⟩) hlt).trans a1, (hw.cell (p := ⟨(ad.add (i * 3)).block, (ad.add (i * 3)).off + 2, none⟩) hlt).trans a2⟩
      go_wp2_with fail
      go_region_held3 (fun W => Below wr.heap.size wr W ∧ W.cell? (ad.add (i * 3)) = some (.int .u64 (k : Int)) ∧ W.cell? ⟨(ad.add (i * 3)).block, (ad.add (i * 3)).off + 1, none⟩ = some (.string ho) ∧ W.cell? ⟨(ad.add (i * 3)).block, (ad.add (i * 3)).off + 2, none⟩ = some (.int .i64 (t : Int))) (first | exact HKP.out _ hb9 | exact HKP.out _ (bl_drew (Below.refl _ _)) | exact HKP.out _ (Below.refl _ _) | go_keep) (first
        | (go_at_call 32
           refine (HX.out _).mono ?_
           rintro r w8 ⟨rfl, rfl⟩)
        | (go_at_call 31
           refine (HD.out _).mono ?_
           rintro r w9 ⟨rfl, hb9'⟩
           have hb9 := below_two (bl_drew (Below.refl wr.heap.size wr)) hb9'))
      all_goals
        go_wp2_with fail
        go_roundw
        case rel => exact ⟨i + 1, by omega, by go_num, (congrArg Value.string (HT.out acc)).trans (by rw [HS.out]), Lib.hid (hb.out.trans (hb9.mono hb.out.size))⟩
        case measure => simp [intOf]; omega
    · obtain rfl : i = xs.length := by omega
      have hge : ¬ (xs.length : Int) < xs.length := by omega
      generalize headLine (e : Int) xs.length ++ [10] ++ ((xs.take xs.length).map flowLine).flatMap (fun l => l ++ [10]) = acc at *
      go_wp2_with fail
      refine (HF.out _).mono ?_
      rintro r w3 ⟨rfl, rfl⟩
      go_wp2
      go_ret
      exact ⟨rfl, hb.out⟩
end Go.Proofs.YtalfjaogpbndeaaGreatDoor

namespace Go.Proofs.YtalfjaogpbndeaaGreatDoor
open Go.RowKit

set_option maxRecDepth 100000 in
set_option maxHeartbeats 1000000 in
/-- Of the same flows it says yes. -/
theorem same_any (A1 A2 : Option Addr) (c1 c2 B1 B2 : Nat) (xs : List Fl) (w : World) (h1 : Reads w B1 3 A1 xs.length (flsC xs)) (hB1 : B1 ≤ w.heap.size) (h2 : Reads w B2 3 A2 xs.length (flsC xs)) (hB2 : B2 ≤ w.heap.size) (hl : xs.length ≤ maxLen) :
    Calls Tryz.prog 13 #[.slice A1 xs.length c1, .slice A2 xs.length c2] w fun e w' => e = .returned (.bool true) ∧ Below w.heap.size w w' := by
  unfold maxLen at hl
  have H1 := Lib.hid h1
  have H2 := Lib.hid h2
  clear h1 h2
  go_enter Tryz.func13, Tryz.ntmps13
  go_wp2
  go_loopw [5] (fun iv wr => ∃ i : Nat, i ≤ xs.length ∧ iv = .int .i64 (i : Int) ∧ Hid (Below w.heap.size w wr)) (fun iv _ => xs.length - (intOf iv).toNat)
  case atStart => exact ⟨0, Nat.zero_le _, rfl, Lib.hid (Below.refl _ _)⟩
  case round =>
    obtain ⟨i, hi, rfl, hb⟩ := hrel
    by_cases hil : i < xs.length
    · have hil2 : (i : Int) < xs.length := by omega
      obtain ⟨ad1, rfl, a0, a1, a2⟩ := cellsA (H1.out.keep fun p hp => hb.out.cell (p := p) (by omega)) hil
      obtain ⟨ad2, rfl, b0, b1, b2⟩ := cellsA (H2.out.keep fun p hp => hb.out.cell (p := p) (by omega)) hil
      generalize xs[i] = x at *
      go_wp2_with fail
      go_quiet (fail)
      go_wp2_with fail
      exact ⟨⟨i + 1, by omega, by norm_cast, Lib.hid (below_drewN hb.out _)⟩, by simp [intOf]; omega⟩
    · obtain rfl : i = xs.length := by omega
      have hge : ¬ (xs.length : Int) < xs.length := by omega
      go_wp2
      go_ret
      exact ⟨rfl, hb.out⟩
end Go.Proofs.YtalfjaogpbndeaaGreatDoor
