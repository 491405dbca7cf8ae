/-
  The walks of the reference's Byte, below, Decimal: a number in tens.
  The walk of the reference's hex: a number in sixteens.
-/
import Derived.Test.YtalfjaogpbndeaaGreatDoorBase
import Derived.Lib.ItoaMem
import Derived.Laws.IdiomStrings
import Derived.Test.YtalfjaogpbndeaaGreatDoorHexLaws
namespace Go.Proofs.YtalfjaogpbndeaaGreatDoor
open Go.RowKit

theorem ba_app (a b : List UInt8) : (⟨a.toArray⟩ : ByteArray) ++ ⟨b.toArray⟩ = ⟨(a ++ b).toArray⟩ := by
  apply ByteArray.ext
  rw [ByteArray.data_append]
  simp
theorem byte_any (m : Nat) (hm : m < 256) (w : World) :
    Calls Tryz.prog 73 #[.int .i64 (m : Int)] w fun e w' => e = .returned (.string ⟨#[UInt8.ofNat m]⟩) ∧ Below w.heap.size w w' := by
  have h2 : (m : Int) % 256 = (m : Int) := by omega
  have hu : (UInt8.ofNat m).toNat = m := by rw [UInt8.toNat_ofNat']; omega
  have kb := run_convert_bytes_back (P := Tryz.prog) (w.alloc (.cells #[.int .u8 (m : Int)] 5)) 49 9 5 ⟨w.heap.size, 0, none⟩ 1 [UInt8.ofNat m] Tryz.underlying49 Tryz.underlying5 Tryz.underlying9 (fun j hj => by
    simp only [List.length_singleton] at hj
    obtain rfl : j = 0 := by omega
    show (w.alloc _).cell? ⟨w.heap.size, 0, none⟩ = _
    rw [World.cell?_alloc_new]
    simp only [List.getElem_singleton, hu]
    rfl)
  have kb' : (convert 49 9 (.slice (some ⟨w.heap.size, 0, none⟩) 1 1)).run Tryz.prog (w.alloc (.cells #[.int .u8 (m : Int)] 5)) = .ok (.string ⟨#[UInt8.ofNat m]⟩) (w.alloc (.cells #[.int .u8 (m : Int)] 5)) := kb
  have hb := (Below.refl w.heap.size w).alloc (Nat.le_refl _) (.cells #[.int .u8 (m : Int)] 5)
  clear kb hu
  go_enter Tryz.func73, Tryz.ntmps73
  go_wp2
  go_ret
  exact ⟨rfl, hb⟩
theorem dec_len2 : ∀ (d n : Nat), n < 10 ^ (d + 1) → (Lib.decDigits n).length ≤ d + 1
  | 0, n, h => by rw [Lib.decDigits, dif_pos (by omega)]; simp
  | d + 1, n, h => by
    by_cases hn : n < 10
    · rw [Lib.decDigits, dif_pos hn]; simp
    · rw [Lib.decDigits, dif_neg hn, List.length_append, List.length_singleton]
      have := dec_len2 d (n / 10) (by rw [Nat.pow_succ] at h; omega)
      omega
theorem below_digits (m : Nat) (hm : m ≤ 4000000000000) : ∀ w : World, Calls Tryz.prog 50 #[.int .i64 (-(m : Int))] w fun e w' => e = .returned (.string ⟨(Lib.decDigits m).toArray⟩) ∧ Below w.heap.size w w' := by
  induction m using Nat.strongRecOn with
  | _ m ih =>
    intro w
    by_cases h : m < 10
    · have HB : Hid (∀ W, Calls Tryz.prog 73 #[.int .i64 (48 + (m : Int))] W fun e w' => e = .returned (.string ⟨#[UInt8.ofNat (48 + m)]⟩) ∧ Below W.heap.size W w') := Lib.hid fun W => by
        have := byte_any (48 + m) (by omega) W
        rwa [show ((48 + m : Nat) : Int) = 48 + (m : Int) by omega] at this
      have hd : Lib.decDigits m = [UInt8.ofNat (48 + m)] := Lib.decDigits_one h
      rw [hd]
      have d1 : decide (-(m : Int) > -10) = true := by simp; omega
      clear ih hd
      generalize UInt8.ofNat (48 + m) = y at *
      go_enter Tryz.func50, Tryz.ntmps50
      go_wp2_with fail
      refine (HB.out _).mono ?_
      rintro e w1 ⟨rfl, hb1⟩
      go_wp2
      go_ret
      exact ⟨rfl, hb1⟩
    · have HI : Hid (∀ W, Calls Tryz.prog 50 #[.int .i64 (-((m : Int) / 10))] W fun e w' => e = .returned (.string ⟨(Lib.decDigits (m / 10)).toArray⟩) ∧ Below W.heap.size W w') := Lib.hid fun W => by
        have := ih (m / 10) (by omega) (by omega) W
        rwa [show (((m / 10 : Nat)) : Int) = (m : Int) / 10 by omega] at this
      have HB : Hid (∀ W, Calls Tryz.prog 73 #[.int .i64 (48 + (m : Int) % 10)] W fun e w' => e = .returned (.string ⟨#[UInt8.ofNat (48 + m % 10)]⟩) ∧ Below W.heap.size W w') := Lib.hid fun W => by
        have := byte_any (48 + m % 10) (by omega) W
        rwa [show ((48 + m % 10 : Nat) : Int) = 48 + (m : Int) % 10 by omega] at this
      have hd : Lib.decDigits m = Lib.decDigits (m / 10) ++ [UInt8.ofNat (48 + m % 10)] := by rw [Lib.decDigits, dif_neg h]
      rw [hd]
      have hl : (Lib.decDigits (m / 10)).length ≤ 13 := dec_len2 12 (m / 10) (by omega)
      clear hd
      generalize UInt8.ofNat (48 + m % 10) = y at *
      generalize Lib.decDigits (m / 10) = D at *
      have d1 : decide (-(m : Int) > -10) = false := by simp; omega
      clear ih
      go_enter Tryz.func50, Tryz.ntmps50
      go_wp2_with fail
      refine (HI.out _).mono ?_
      rintro e w1 ⟨rfl, hb1⟩
      go_wp2_with fail
      refine (HB.out _).mono ?_
      rintro e w2 ⟨rfl, hb2⟩
      go_wp2
      go_ret
      exact ⟨congrArg (fun x => Ending.returned (.string x)) (ba_app D [y]), below_two hb1 hb2⟩
theorem decimal_any (m : Nat) (hm : m ≤ 4000000000000) (w : World) : Calls Tryz.prog 31 #[.int .i64 (m : Int)] w fun e w' => e = .returned (.string ⟨(Lib.itoa (m : Int)).toArray⟩) ∧ Below w.heap.size w w' := by
  have HB := Lib.hid (below_digits m hm w)
  rw [Lib.itoa_nonneg]
  have d1 : decide ((m : Int) < 0) = false := by simp
  generalize Lib.decDigits m = D at *
  go_enter Tryz.func31, Tryz.ntmps31
  go_wp2_with fail
  refine HB.out.mono ?_
  rintro e w1 ⟨rfl, hb1⟩
  go_wp2
  go_ret
  exact ⟨rfl, hb1⟩
end Go.Proofs.YtalfjaogpbndeaaGreatDoor

namespace Go.Proofs.YtalfjaogpbndeaaGreatDoor
open Go.RowKit

/-- The last digits of a number. -/
def lowd (n : Nat) : Nat → List UInt8
  | 0 => []
  | i + 1 => Hex.hd (n / 16 ^ i % 16) :: lowd n i
theorem lowd_snoc (n : Nat) : ∀ i, lowd n (i + 1) = lowd (n / 16) i ++ [Hex.hd (n % 16)]
  | 0 => by simp [lowd]
  | i + 1 => by
    rw [lowd, lowd_snoc n i, lowd, Nat.div_div_eq_div_mul, ← Nat.pow_succ']
    rfl
theorem lowd_text : ∀ (d n : Nat), n < 16 ^ (d + 1) → lowd n (d + 1) = Hex.text n (d + 1)
  | 0, n, h => by
    have h1 : n < 16 := by simpa using h
    rw [lowd_snoc, lowd, Hex.text, Hex.wr_lo h1, Nat.mod_eq_of_lt h1]
    rfl
  | d + 1, n, h => by
    rw [lowd_snoc, lowd_text d (n / 16) (by rw [Nat.pow_succ] at h; omega)]
    unfold Hex.text
    by_cases h1 : n < 16
    · rw [Hex.wr_lo h1, Nat.div_eq_of_lt h1, Hex.wr_lo (by omega : 0 < 16), Nat.mod_eq_of_lt h1]
      simp only [List.length_singleton, Nat.add_sub_cancel]
      rw [List.replicate_succ']
      rfl
    · rw [Hex.wr_hi h1, List.length_append, List.length_singleton, ← List.append_assoc]
      congr 3
      omega
theorem lowd_len (n : Nat) : ∀ i, (lowd n i).length = i
  | 0 => rfl
  | i + 1 => by rw [lowd, List.length_cons, lowd_len n i]
theorem digit_cut (r : Nat) (h : r < 16) : (⟨#[48, 49, 50, 51, 52, 53, 54, 55, 56, 57, 97, 98, 99, 100, 101, 102]⟩ : ByteArray).extract r (r + 1) = ⟨#[Hex.hd r]⟩ := by
  have := (by decide : ∀ i : Fin 16, (⟨#[48, 49, 50, 51, 52, 53, 54, 55, 56, 57, 97, 98, 99, 100, 101, 102]⟩ : ByteArray).extract i.val (i.val + 1) = ⟨#[Hex.hd i.val]⟩)
  exact this ⟨r, h⟩
set_option maxHeartbeats 1000000 in
theorem refHex_low (n d : Nat) (hn : n < 18446744073709551616) (hd : d ≤ 16) (w : World) :
    Calls Tryz.prog 32 #[.int .u64 (n : Int), .int .i64 (d : Int)] w fun e w' => e = .returned (.string ⟨(lowd n d).toArray⟩) ∧ w = w' := by
  go_enter Tryz.func32, Tryz.ntmps32
  go_wp2
  go_loop [0, 5, 6, 7] (fun nv sv iv _ => ∃ i : Nat, i ≤ d ∧ iv = .int .i64 (i : Int) ∧ nv = .int .u64 ((n / 16 ^ i : Nat) : Int) ∧ sv = .string ⟨(lowd n i).toArray⟩) (fun _ _ iv _ => d - (intOf iv).toNat)
  case atStart => exact ⟨0, Nat.zero_le _, rfl, by simp, rfl⟩
  case round =>
    obtain ⟨i, hi, rfl, rfl, rfl⟩ := hrel
    by_cases hlt : i < d
    · have hlt2 : (i : Int) < d := by omega
      have hs : lowd n (i + 1) = Hex.hd (n / 16 ^ i % 16) :: lowd n i := rfl
      have hn1 : n / 16 ^ (i + 1) = n / 16 ^ i / 16 := by rw [Nat.pow_succ, Nat.div_div_eq_div_mul]
      have hq64 : n / 16 ^ i < 18446744073709551616 := Nat.lt_of_le_of_lt (Nat.div_le_self _ _) hn
      have hll := lowd_len n i
      generalize n / 16 ^ i = q at *
      have hdig := digit_cut (q % 16) (Nat.mod_lt _ (by decide))
      generalize lowd n i = D at *
      have hm16 : q % 16 < 16 := Nat.mod_lt _ (by decide)
      have HS := Lib.hid hs
      have HN := Lib.hid hn1
      clear hs hn1
      go_wp2
      refine ⟨⟨i + 1, by omega, by norm_cast, ?_, ?_⟩, by simp [intOf]; omega⟩
      · rw [HN.out]
        exact congrArg (Value.int .u64) (by omega)
      · rw [HS.out]
        exact congrArg Value.string (ba_app [Hex.hd (q % 16)] D)
    · obtain rfl : i = d := by omega
      have hge : ¬ (i : Int) < i := by omega
      go_wp2
      go_ret
      exact ⟨rfl, rfl⟩
theorem refHex_any (n d : Nat) (hn : n < 18446744073709551616) (hd : d ≤ 16) (h0 : 0 < d) (hnd : n < 16 ^ d) (w : World) :
    Calls Tryz.prog 32 #[.int .u64 (n : Int), .int .i64 (d : Int)] w fun e w' => e = .returned (.string ⟨(Hex.text n d).toArray⟩) ∧ w = w' := by
  obtain ⟨k, rfl⟩ : ∃ k, d = k + 1 := ⟨d - 1, by omega⟩
  have := refHex_low n (k + 1) hn hd w
  rwa [lowd_text k n hnd] at this
end Go.Proofs.YtalfjaogpbndeaaGreatDoor
