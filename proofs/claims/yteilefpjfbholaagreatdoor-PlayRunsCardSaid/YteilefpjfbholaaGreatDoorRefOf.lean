/-
  The walks of the reference's Byte, below, Decimal: a number in tens.   The walk of the reference's hex: a number in sixteens.
  The walk of the reference's CRC.
  The walks of the reference's Seal and CarryText.   The walk of the reference's SameFlows.
  The walk of the reference's CarryFault.
  The walk of the reference's cut: a text cut by a byte.
  The reference's numbers and keys, in plain words.
  The walks of the reference's numberOf and hexOf.
  The walk of the reference's hexOf.
  The walk of the reference's CarryOf.
-/
import Derived.Test.YteilefpjfbholaaGreatDoorBase
import Derived.Lib.ItoaMem
import Derived.Laws.IdiomStrings
import Derived.Test.YteilefpjfbholaaGreatDoorHexNum
import Derived.Test.YteilefpjfbholaaGreatDoorCarLaws
import Derived.Test.YteilefpjfbholaaGreatDoorFlowPlain
import Derived.Test.YteilefpjfbholaaGreatDoorTurn
import Derived.BigQuiet
import Derived.Deep.RegionHeld3
import Derived.Deep.QuietTactic
import Derived.Test.YteilefpjfbholaaGreatDoorRefFault
import Derived.Test.YteilefpjfbholaaGreatDoorCarReads
namespace Go.Proofs.YteilefpjfbholaaGreatDoor
open Go.RowKit

theorem ba_app (a b : List UInt8) : (⟨a.toArray⟩ : ByteArray) ++ ⟨b.toArray⟩ = ⟨(a ++ b).toArray⟩ := by
  apply ByteArray.ext
  rw [ByteArray.data_append]
  simp
theorem byte_any (m : Nat) (hm : m < 256) (w : World) :
    Calls Tryz.prog 248 #[.int .i64 (m : Int)] w fun e w' => e = .returned (.string ⟨#[UInt8.ofNat m]⟩) ∧ Below w.heap.size w w' := by
  have h2 : (m : Int) % 256 = (m : Int) := by omega
  have hu : (UInt8.ofNat m).toNat = m := by rw [UInt8.toNat_ofNat']; omega
  have kb := run_convert_bytes_back (P := Tryz.prog) (w.alloc (.cells #[.int .u8 (m : Int)] 5)) 150 9 5 ⟨w.heap.size, 0, none⟩ 1 [UInt8.ofNat m] Tryz.underlying150 Tryz.underlying5 Tryz.underlying9 (fun j hj => by
    simp only [List.length_singleton] at hj
    obtain rfl : j = 0 := by omega
    show (w.alloc _).cell? ⟨w.heap.size, 0, none⟩ = _
    rw [World.cell?_alloc_new]
    simp only [List.getElem_singleton, hu]
    rfl)
  have kb' : (convert 150 9 (.slice (some ⟨w.heap.size, 0, none⟩) 1 1)).run Tryz.prog (w.alloc (.cells #[.int .u8 (m : Int)] 5)) = .ok (.string ⟨#[UInt8.ofNat m]⟩) (w.alloc (.cells #[.int .u8 (m : Int)] 5)) := kb
  have hb := (Below.refl w.heap.size w).alloc (Nat.le_refl _) (.cells #[.int .u8 (m : Int)] 5)
  clear kb hu
  go_enter Tryz.func248, Tryz.ntmps248
  go_wp2
  go_ret
  exact ⟨rfl, hb⟩
theorem dec_len2 : ∀ (d n : Nat), n < 10 ^ (d + 1) → (Lib.decDigits n).length ≤ d + 1
  | 0, n, h => by rw [Lib.decDigits, dif_pos (by omega)]; simp
  | d + 1, n, h => by
    by_cases hn : n < 10
    · rw [Lib.decDigits, dif_pos hn]; simp
    · rw [Lib.decDigits, dif_neg hn, List.length_append, List.length_singleton]
      have := dec_len2 d (n / 10) (by rw [Nat.pow_succ] at h; omega)
      omega
theorem below_digits (m : Nat) (hm : m ≤ 4000000000000) : ∀ w : World, Calls Tryz.prog 220 #[.int .i64 (-(m : Int))] w fun e w' => e = .returned (.string ⟨(Lib.decDigits m).toArray⟩) ∧ Below w.heap.size w w' := by
  induction m using Nat.strongRecOn with
  | _ m ih =>
    intro w
    by_cases h : m < 10
    · have HB : Hid (∀ W, Calls Tryz.prog 248 #[.int .i64 (48 + (m : Int))] W fun e w' => e = .returned (.string ⟨#[UInt8.ofNat (48 + m)]⟩) ∧ Below W.heap.size W w') := Lib.hid fun W => by
        have := byte_any (48 + m) (by omega) W
        rwa [show ((48 + m : Nat) : Int) = 48 + (m : Int) by omega] at this
      have hd : Lib.decDigits m = [UInt8.ofNat (48 + m)] := Lib.decDigits_one h
      rw [hd]
      have d1 : decide (-(m : Int) > -10) = true := by simp; omega
      clear ih hd
      generalize UInt8.ofNat (48 + m) = y at *
      go_enter Tryz.func220, Tryz.ntmps220
      go_wp2_with fail
      refine (HB.out _).mono ?_
      rintro e w1 ⟨rfl, hb1⟩
      go_wp2
      go_ret
      exact ⟨rfl, hb1⟩
    · have HI : Hid (∀ W, Calls Tryz.prog 220 #[.int .i64 (-((m : Int) / 10))] W fun e w' => e = .returned (.string ⟨(Lib.decDigits (m / 10)).toArray⟩) ∧ Below W.heap.size W w') := Lib.hid fun W => by
        have := ih (m / 10) (by omega) (by omega) W
        rwa [show (((m / 10 : Nat)) : Int) = (m : Int) / 10 by omega] at this
      have HB : Hid (∀ W, Calls Tryz.prog 248 #[.int .i64 (48 + (m : Int) % 10)] W fun e w' => e = .returned (.string ⟨#[UInt8.ofNat (48 + m % 10)]⟩) ∧ Below W.heap.size W w') := Lib.hid fun W => by
        have := byte_any (48 + m % 10) (by omega) W
        rwa [show ((48 + m % 10 : Nat) : Int) = 48 + (m : Int) % 10 by omega] at this
      have hd : Lib.decDigits m = Lib.decDigits (m / 10) ++ [UInt8.ofNat (48 + m % 10)] := by rw [Lib.decDigits, dif_neg h]
      rw [hd]
      have hl : (Lib.decDigits (m / 10)).length ≤ 13 := dec_len2 12 (m / 10) (by omega)
      clear hd
      generalize UInt8.ofNat (48 + m % 10) = y at *
      generalize Lib.decDigits (m / 10) = D at *
      have d1 : decide (-(m : Int) > -10) = false := by simp; omega
      clear ih
      go_enter Tryz.func220, Tryz.ntmps220
      go_wp2_with fail
      refine (HI.out _).mono ?_
      rintro e w1 ⟨rfl, hb1⟩
      go_wp2_with fail
      refine (HB.out _).mono ?_
      rintro e w2 ⟨rfl, hb2⟩
      go_wp2
      go_ret
      exact ⟨congrArg (fun x => Ending.returned (.string x)) (ba_app D [y]), below_two hb1 hb2⟩
theorem decimal_any (m : Nat) (hm : m ≤ 4000000000000) (w : World) : Calls Tryz.prog 188 #[.int .i64 (m : Int)] w fun e w' => e = .returned (.string ⟨(Lib.itoa (m : Int)).toArray⟩) ∧ Below w.heap.size w w' := by
  have HB := Lib.hid (below_digits m hm w)
  rw [Lib.itoa_nonneg]
  have d1 : decide ((m : Int) < 0) = false := by simp
  generalize Lib.decDigits m = D at *
  go_enter Tryz.func188, Tryz.ntmps188
  go_wp2_with fail
  refine HB.out.mono ?_
  rintro e w1 ⟨rfl, hb1⟩
  go_wp2
  go_ret
  exact ⟨rfl, hb1⟩
end Go.Proofs.YteilefpjfbholaaGreatDoor

namespace Go.Proofs.YteilefpjfbholaaGreatDoor
open Go.RowKit

/-- The last digits of a number. -/
def lowd (n : Nat) : Nat → List UInt8
  | 0 => []
  | i + 1 => Hex.hd (n / 16 ^ i % 16) :: lowd n i
theorem lowd_snoc (n : Nat) : ∀ i, lowd n (i + 1) = lowd (n / 16) i ++ [Hex.hd (n % 16)]
  | 0 => by simp [lowd]
  | i + 1 => by
    rw [lowd, lowd_snoc n i, lowd, Nat.div_div_eq_div_mul, ← Nat.pow_succ']
    rfl
theorem lowd_text : ∀ (d n : Nat), n < 16 ^ (d + 1) → lowd n (d + 1) = Hex.text n (d + 1)
  | 0, n, h => by
    have h1 : n < 16 := by simpa using h
    rw [lowd_snoc, lowd, Hex.text, Hex.wr_lo h1, Nat.mod_eq_of_lt h1]
    rfl
  | d + 1, n, h => by
    rw [lowd_snoc, lowd_text d (n / 16) (by rw [Nat.pow_succ] at h; omega)]
    unfold Hex.text
    by_cases h1 : n < 16
    · rw [Hex.wr_lo h1, Nat.div_eq_of_lt h1, Hex.wr_lo (by omega : 0 < 16), Nat.mod_eq_of_lt h1]
      simp only [List.length_singleton, Nat.add_sub_cancel]
      rw [List.replicate_succ']
      rfl
    · rw [Hex.wr_hi h1, List.length_append, List.length_singleton, ← List.append_assoc]
      congr 3
      omega
theorem lowd_len (n : Nat) : ∀ i, (lowd n i).length = i
  | 0 => rfl
  | i + 1 => by rw [lowd, List.length_cons, lowd_len n i]
theorem digit_cut (r : Nat) (h : r < 16) : (⟨#[48, 49, 50, 51, 52, 53, 54, 55, 56, 57, 97, 98, 99, 100, 101, 102]⟩ : ByteArray).extract r (r + 1) = ⟨#[Hex.hd r]⟩ := by
  have := (by decide : ∀ i : Fin 16, (⟨#[48, 49, 50, 51, 52, 53, 54, 55, 56, 57, 97, 98, 99, 100, 101, 102]⟩ : ByteArray).extract i.val (i.val + 1) = ⟨#[Hex.hd i.val]⟩)
  exact this ⟨r, h⟩
set_option maxHeartbeats 1000000 in
theorem refHex_low (n d : Nat) (hn : n < 18446744073709551616) (hd : d ≤ 16) (w : World) :
    Calls Tryz.prog 189 #[.int .u64 (n : Int), .int .i64 (d : Int)] w fun e w' => e = .returned (.string ⟨(lowd n d).toArray⟩) ∧ w = w' := by
  go_enter Tryz.func189, Tryz.ntmps189
  go_wp2
  go_loop [0, 5, 6, 7] (fun nv sv iv _ => ∃ i : Nat, i ≤ d ∧ iv = .int .i64 (i : Int) ∧ nv = .int .u64 ((n / 16 ^ i : Nat) : Int) ∧ sv = .string ⟨(lowd n i).toArray⟩) (fun _ _ iv _ => d - (intOf iv).toNat)
  case atStart => exact ⟨0, Nat.zero_le _, rfl, by simp, rfl⟩
  case round =>
    obtain ⟨i, hi, rfl, rfl, rfl⟩ := hrel
    by_cases hlt : i < d
    · have hlt2 : (i : Int) < d := by omega
      have hs : lowd n (i + 1) = Hex.hd (n / 16 ^ i % 16) :: lowd n i := rfl
      have hn1 : n / 16 ^ (i + 1) = n / 16 ^ i / 16 := by rw [Nat.pow_succ, Nat.div_div_eq_div_mul]
      have hq64 : n / 16 ^ i < 18446744073709551616 := Nat.lt_of_le_of_lt (Nat.div_le_self _ _) hn
      have hll := lowd_len n i
      generalize n / 16 ^ i = q at *
      have hdig := digit_cut (q % 16) (Nat.mod_lt _ (by decide))
      generalize lowd n i = D at *
      have hm16 : q % 16 < 16 := Nat.mod_lt _ (by decide)
      have HS := Lib.hid hs
      have HN := Lib.hid hn1
      clear hs hn1
      go_wp2
      refine ⟨⟨i + 1, by omega, by norm_cast, ?_, ?_⟩, by simp [intOf]; omega⟩
      · rw [HN.out]
        exact congrArg (Value.int .u64) (by omega)
      · rw [HS.out]
        exact congrArg Value.string (ba_app [Hex.hd (q % 16)] D)
    · obtain rfl : i = d := by omega
      have hge : ¬ (i : Int) < i := by omega
      go_wp2
      go_ret
      exact ⟨rfl, rfl⟩
theorem refHex_any (n d : Nat) (hn : n < 18446744073709551616) (hd : d ≤ 16) (h0 : 0 < d) (hnd : n < 16 ^ d) (w : World) :
    Calls Tryz.prog 189 #[.int .u64 (n : Int), .int .i64 (d : Int)] w fun e w' => e = .returned (.string ⟨(Hex.text n d).toArray⟩) ∧ w = w' := by
  obtain ⟨k, rfl⟩ : ∃ k, d = k + 1 := ⟨d - 1, by omega⟩
  have := refHex_low n (k + 1) hn hd w
  rwa [lowd_text k n hnd] at this
end Go.Proofs.YteilefpjfbholaaGreatDoor

namespace Go.Proofs.YteilefpjfbholaaGreatDoor
open Go.RowKit

/-- The reference's sum behind k bits of a byte. -/
def half (c : BitVec 32) (b : Nat) (k : Nat) : BitVec 32 := Crc.steps k (c ^^^ BitVec.ofNat 32 b) ^^^ BitVec.ofNat 32 (b / 2 ^ k)
theorem half_zero (c : BitVec 32) (b : Nat) : half c b 0 = c := by
  unfold half
  rw [show b / 2 ^ 0 = b by simp]
  show (c ^^^ BitVec.ofNat 32 b) ^^^ BitVec.ofNat 32 b = c
  rw [BitVec.xor_assoc, BitVec.xor_self, BitVec.xor_zero]
theorem half_end (c : BitVec 32) (b : UInt8) : half c b.toNat 8 = Crc.byte c b := by
  unfold half Crc.byte
  have := b.toNat_lt
  rw [Nat.div_eq_of_lt (by omega)]
  simp
theorem half_bit (c : BitVec 32) (b k : Nat) (hb : b < 256) : (half c b k).toNat ^^^ (b / 2 ^ k) = (Crc.steps k (c ^^^ BitVec.ofNat 32 b)).toNat := by
  have hlt : b / 2 ^ k < 4294967296 := Nat.lt_of_le_of_lt (Nat.div_le_self _ _) (by omega)
  have e : b / 2 ^ k = (BitVec.ofNat 32 (b / 2 ^ k)).toNat := by rw [BitVec.toNat_ofNat, Nat.mod_eq_of_lt hlt]
  rw [e, ← BitVec.toNat_xor]
  unfold half
  rw [BitVec.xor_assoc, BitVec.xor_self, BitVec.xor_zero]
theorem half_next (c : BitVec 32) (b k : Nat) (hb : b < 256) : half c b (k + 1) = (half c b k >>> 1) ^^^ (0xEDB88320#32 * (Crc.steps k (c ^^^ BitVec.ofNat 32 b) &&& 1#32)) := by
  have hlt : b / 2 ^ k < 4294967296 := Nat.lt_of_le_of_lt (Nat.div_le_self _ _) (by omega)
  have e : BitVec.ofNat 32 (b / 2 ^ (k + 1)) = BitVec.ofNat 32 (b / 2 ^ k) >>> 1 := by
    apply BitVec.eq_of_toNat_eq
    rw [BitVec.toNat_ushiftRight, BitVec.toNat_ofNat, BitVec.toNat_ofNat, Nat.mod_eq_of_lt hlt, Nat.shiftRight_eq_div_pow, Nat.pow_succ, ← Nat.div_div_eq_div_mul, Nat.mod_eq_of_lt (by omega)]
  unfold half
  rw [e, BitVec.ushiftRight_xor_distrib]
  show Crc.step _ ^^^ _ = _
  unfold Crc.step
  generalize Crc.steps k (c ^^^ BitVec.ofNat 32 b) = s
  generalize BitVec.ofNat 32 (b / 2 ^ k) = t
  rw [BitVec.xor_assoc, BitVec.xor_assoc, BitVec.xor_comm (t >>> 1)]
theorem half_even (c : BitVec 32) (b k : Nat) (hb : b < 256) (h : ((half c b k).toNat ^^^ (b / 2 ^ k)) % 2 = 0) : (half c b (k + 1)).toNat = (half c b k).toNat / 2 := by
  rw [half_bit c b k hb] at h
  rw [half_next c b k hb]
  have e : Crc.steps k (c ^^^ BitVec.ofNat 32 b) &&& 1#32 = 0#32 := by
    apply BitVec.eq_of_toNat_eq
    rw [BitVec.toNat_and]
    show _ &&& 1 = _
    rw [Nat.and_one_is_mod, h]
    rfl
  rw [e]
  simp [Nat.shiftRight_eq_div_pow]
theorem half_odd (c : BitVec 32) (b k : Nat) (hb : b < 256) (h : ((half c b k).toNat ^^^ (b / 2 ^ k)) % 2 = 1) : (half c b (k + 1)).toNat = ((half c b k).toNat / 2) ^^^ 3988292384 := by
  rw [half_bit c b k hb] at h
  rw [half_next c b k hb]
  have e : Crc.steps k (c ^^^ BitVec.ofNat 32 b) &&& 1#32 = 1#32 := by
    apply BitVec.eq_of_toNat_eq
    rw [BitVec.toNat_and]
    show _ &&& 1 = _
    rw [Nat.and_one_is_mod, h]
    rfl
  rw [e, BitVec.toNat_xor, BitVec.toNat_ushiftRight, Nat.shiftRight_eq_div_pow]
  rfl
theorem xor64 (a b : Nat) (ha : a < 4294967296) (hb : b < 4294967296) : bits .xor .i64 (a : Int) (b : Int) = ((a ^^^ b : Nat) : Int) := by
  have h : a ^^^ b < 2 ^ 32 := Nat.xor_lt_two_pow (by omega) (by omega)
  have e3 : (BitVec.ofNat 64 a ^^^ BitVec.ofNat 64 b : BitVec 64).toNat = a ^^^ b := by
    rw [BitVec.toNat_xor, BitVec.toNat_ofNat, BitVec.toNat_ofNat, Nat.mod_eq_of_lt (by omega), Nat.mod_eq_of_lt (by omega)]
  have e1 : BitVec.ofInt 64 (a : Int) = BitVec.ofNat 64 a := by simp
  have e2 : BitVec.ofInt 64 (b : Int) = BitVec.ofNat 64 b := by simp
  simp only [bits, IntKind.bits, e1, e2]
  show IntKind.i64.wrap (((BitVec.ofNat 64 a ^^^ BitVec.ofNat 64 b : BitVec 64).toNat : Nat) : Int) = _
  rw [e3]
  exact IntWalk.i64_in _ (by omega)
set_option maxHeartbeats 1000000 in
theorem refCrc_any (s : ByteArray) (w : World) (hs : s.size ≤ maxLen) :
    Calls Tryz.prog 183 #[.string s] w fun e w' => e = .returned (.int .u64 (Crc.sum s.data.toList : Int)) ∧ w = w' := by
  unfold maxLen at hs
  go_enter Tryz.func183, Tryz.ntmps183
  go_wp2
  go_loop [3, 4, 5, 6] (fun cv iv _ _ => ∃ (i : Nat) (c : BitVec 32), i ≤ s.size ∧ iv = .int .i64 (i : Int) ∧ Hid (c = Crc.crc (s.data.toList.take i)) ∧ cv = .int .i64 (c.toNat : Int)) (fun _ iv _ _ => s.size - (intOf iv).toNat)
  case atStart => exact ⟨0, 0xFFFFFFFF#32, Nat.zero_le _, rfl, Lib.hid rfl, rfl⟩
  case round =>
    obtain ⟨i, c, hi, rfl, hc, rfl⟩ := hrel
    by_cases hlt : i < s.size
    · have hlt2 : (i : Int) < s.size := by omega
      have hsn := Lib.hid (take_snocB s i hlt)
      have hb8 := s[i].toNat_lt
      go_wp2
      go_loop [3, 5, 6] (fun cv jv _ => ∃ j : Nat, j ≤ 8 ∧ jv = .int .i64 (j : Int) ∧ cv = .int .i64 ((half c s[i].toNat j).toNat : Int)) (fun _ jv _ => 8 - (intOf jv).toNat)
      case atStart => exact ⟨0, Nat.zero_le _, rfl, by rw [half_zero]⟩
      case round =>
        obtain ⟨j, hj, rfl, rfl⟩ := hrel
        by_cases hl8 : j < 8
        · have hl8' : (j : Int) < 8 := by omega
          have hA := (half c s[i].toNat j).isLt
          have hBd : s[i].toNat / 2 ^ j < 4294967296 := Nat.lt_of_le_of_lt (Nat.div_le_self _ _) (by omega)
          have kx := xor64 (half c s[i].toNat j).toNat (s[i].toNat / 2 ^ j) hA hBd
          rw [show ((s[i].toNat / 2 ^ j : Nat) : Int) = (s[i].toNat : Int) / 2 ^ j by push_cast; rfl] at kx
          have ky := xor64 ((half c s[i].toNat j).toNat / 2) 3988292384 (by omega) (by omega)
          rw [show (((half c s[i].toNat j).toNat / 2 : Nat) : Int) = ((half c s[i].toNat j).toNat : Int) / 2 by omega] at ky
          have KX := Lib.hid kx
          have KY := Lib.hid ky
          have HE := Lib.hid (half_even c s[i].toNat j hb8)
          have HO := Lib.hid (half_odd c s[i].toNat j hb8)
          clear kx ky hA hBd
          go_wp2
          · rename_i hh
            rw [KX.out, beq_iff_eq, Int.tmod_eq_emod_of_nonneg (Int.natCast_nonneg _)] at hh
            have h1 := HO.out (by omega)
            refine ⟨⟨j + 1, by omega, by norm_cast, ?_⟩, by simp [intOf]; omega⟩
            rw [h1]
            exact congrArg (Value.int .i64) KY.out
          · rename_i hh
            rw [KX.out, Int.tmod_eq_emod_of_nonneg (Int.natCast_nonneg _)] at hh
            have hh2 := ne_of_beq_false hh
            have h1 := HE.out (by omega)
            refine ⟨⟨j + 1, by omega, by norm_cast, ?_⟩, by simp [intOf]; omega⟩
            rw [h1]
            exact congrArg (Value.int .i64) (by omega)
        · have hl8' : ¬ (j : Int) < 8 := by omega
          obtain rfl : j = 8 := by omega
          go_wp2
          refine ⟨⟨i + 1, half c s[i].toNat 8, by omega, by norm_cast, ?_, rfl⟩, by simp [intOf]; omega⟩
          exact Lib.hid (by rw [hsn.out, crc_snoc, ← hc.out, half_end])
    · have hge : ¬ (i : Int) < s.size := by omega
      have hk := hc.out
      rw [List.take_of_length_le (by simpa using (by omega : s.size ≤ i))] at hk
      have hcl := c.isLt
      have ky := Lib.hid (xor64 c.toNat 4294967295 hcl (by omega))
      have hnot : c.toNat ^^^ 4294967295 = (~~~ c).toNat := by
        have : (4294967295#32 ^^^ c) = ~~~ c := BitVec.allOnes_xor
        rw [← this, BitVec.toNat_xor, Nat.xor_comm]
        rfl
      have hl2 := (~~~ c).isLt
      have HS : Hid (((c.toNat ^^^ 4294967295 : Nat) : Int) = (Crc.sum s.data.toList : Int)) := Lib.hid (by rw [hnot, hk]; rfl)
      have hsl := Crc.sum_lt s.data.toList
      clear hnot hl2 hk hc
      go_wp2
      refine bodyPost_ret (by simp [results, Tryz.results183, go_sem]; rfl) rfl ⟨ret_u64c ?_, rfl⟩
      have e1 := ky.out.trans HS.out
      rw [show ((4294967295 : Nat) : Int) = 4294967295 from rfl] at e1
      rw [e1]
      simp [IntKind.wrap, IntKind.bits, IntKind.signed]
      omega
end Go.Proofs.YteilefpjfbholaaGreatDoor

namespace Go.Proofs.YteilefpjfbholaaGreatDoor
open Go.RowKit

/-- A text, sealed. -/
def sealOf (l : List UInt8) : List UInt8 := l ++ (sumLine (Crc.sum l) ++ [10])
set_option maxHeartbeats 1000000 in
theorem seal_any (l : List UInt8) (hl : l.length ≤ 100000) (w : World) :
    Calls Tryz.prog 190 #[.string ⟨l.toArray⟩] w fun e w' => e = .returned (.string ⟨(sealOf l).toArray⟩) ∧ w = w' := by
  have hs := Crc.sum_lt l
  have hsz : (⟨l.toArray⟩ : ByteArray).size = l.length := by simp [ByteArray.size]
  have HC : Hid (∀ W, Calls Tryz.prog 183 #[.string ⟨l.toArray⟩] W fun e w' => e = .returned (.int .u64 (Crc.sum l : Int)) ∧ W = w') := Lib.hid fun W => refCrc_any ⟨l.toArray⟩ W (by rw [hsz]; unfold maxLen; omega)
  have HH := Lib.hid (fun W => refHex_any (Crc.sum l) 8 (by omega) (by omega) (by omega) (by omega) W)
  have hlen := Hex.text_len (Crc.sum l) 8 (Hex.wr_len 7 _ (by omega))
  have HT : Hid (sealOf l = l ++ wSum ++ Hex.text (Crc.sum l) 8 ++ [10]) := Lib.hid (by simp [sealOf, sumLine])
  generalize sealOf l = S at *
  generalize Hex.text (Crc.sum l) 8 = t at *
  generalize Crc.sum l = n at *
  go_enter Tryz.func190, Tryz.ntmps190
  go_wp2_with (first
    | (refine (HC.out _).mono ?_; rintro e w1 ⟨rfl, rfl⟩)
    | (refine (HH.out _).mono ?_; rintro e w1 ⟨rfl, rfl⟩))
  have e : (⟨l.toArray⟩ : ByteArray) ++ ⟨#[115, 117, 109, 32]⟩ ++ ⟨t.toArray⟩ ++ ⟨#[10]⟩ = ⟨S.toArray⟩ := by
    rw [show (⟨#[115, 117, 109, 32]⟩ : ByteArray) = ⟨wSum.toArray⟩ from rfl, show (⟨#[10]⟩ : ByteArray) = ⟨([10] : List UInt8).toArray⟩ from rfl, ba_app, ba_app, ba_app, HT.out]
  go_ret
  exact ⟨congrArg (fun x => Ending.returned (.string x)) e, rfl⟩
theorem flat_succ2 {L : List Fl} {i : Nat} (h : i < L.length) : ((L.take (i + 1)).map flowLine).flatMap (fun l => l ++ [10]) = ((L.take i).map flowLine).flatMap (fun l => l ++ [10]) ++ (flowLine L[i] ++ [10]) := by
  rw [List.take_succ_eq_append_getElem h, List.map_append, List.flatMap_append]
  simp
theorem flat_len2 {L : List Fl} (h : ∀ x ∈ L, FlOk x) (hk : ∀ x ∈ L, x.key < 18446744073709551616) (i : Nat) : (((L.take i).map flowLine).flatMap fun l => l ++ [10]).length ≤ 45 * L.length := by
  have h1 := lines_len (L := L.take i) (fun x hx => h x (List.mem_of_mem_take hx)) (fun x hx => hk x (List.mem_of_mem_take hx))
  have : (L.take i).length ≤ L.length := by rw [List.length_take]; omega
  omega
theorem line_bytes (s h d : List UInt8) (x : ByteArray) : (⟨s.toArray⟩ : ByteArray) ++ ⟨h.toArray⟩ ++ ⟨#[32]⟩ ++ x ++ ⟨#[32]⟩ ++ ⟨d.toArray⟩ ++ ⟨#[10]⟩ = ⟨(s ++ (h ++ 32 :: (x.data.toList ++ 32 :: d) ++ [10])).toArray⟩ := by
  apply ByteArray.ext
  simp only [ByteArray.data_append]
  apply Array.ext'
  simp
set_option maxRecDepth 100000 in
set_option maxHeartbeats 2000000 in
theorem refText_any (ep : Int) (A : Option Addr) (c B : Nat) (xs : List Fl) (w : World) (hr : Reads w B 3 A xs.length (flsC xs)) (hB : B ≤ w.heap.size) (hk : COk ep xs) (hu : ∀ x ∈ xs, U64 x.key) :
    Calls Tryz.prog 149 #[.int .i64 ep, .slice A xs.length c] w fun e w' => e = .returned (.string ⟨(textOf ep xs).toArray⟩) ∧ Below w.heap.size w w' := by
  have he0 := hk.e0
  have he1 := hk.e1
  have hn := hk.n
  have HK := Lib.hid hk.l
  have HU := Lib.hid hu
  have HR := Lib.hid hr
  have hbl := body_len hk hu
  obtain ⟨e, rfl⟩ := Int.eq_ofNat_of_zero_le he0
  have HD := Lib.hid (fun W => decimal_any e (by omega) W)
  have HN := Lib.hid (fun W => decimal_any xs.length (by omega) W)
  have hl1 := itoa_len (n := (e : Int)) (by omega) (by omega)
  have hl2 := itoa_len (n := (xs.length : Int)) (by omega) (by omega)
  have hh : (headLine (e : Int) xs.length).length ≤ 33 := by
    unfold headLine wFlows
    simp only [List.length_append, List.length_cons, List.length_nil]
    omega
  have HH : Hid ((⟨#[102, 108, 111, 119, 115, 32]⟩ : ByteArray) ++ ⟨(Lib.itoa (e : Int)).toArray⟩ ++ ⟨#[32]⟩ ++ ⟨(Lib.itoa (xs.length : Int)).toArray⟩ ++ ⟨#[10]⟩ = ⟨(headLine (e : Int) xs.length ++ [10] ++ ((xs.take 0).map flowLine).flatMap fun l => l ++ [10]).toArray⟩) := Lib.hid (by
    apply ByteArray.ext
    simp only [ByteArray.data_append]
    apply Array.ext'
    simp [headLine, wFlows])
  have HF : Hid (∀ W, Calls Tryz.prog 190 #[.string ⟨(headLine (e : Int) xs.length ++ [10] ++ ((xs.take xs.length).map flowLine).flatMap fun l => l ++ [10]).toArray⟩] W fun r w' => r = .returned (.string ⟨(textOf (e : Int) xs).toArray⟩) ∧ W = w') := Lib.hid fun W => by
    have hbd : headLine (e : Int) xs.length ++ [10] ++ ((xs.take xs.length).map flowLine).flatMap (fun l => l ++ [10]) = bodyOf (e : Int) xs := by
      rw [List.take_length]; simp [bodyOf]
    rw [hbd]
    exact seal_any _ (by omega) W
  clear hr hu hk
  go_enter Tryz.func149, Tryz.ntmps149
  go_wp2_with fail
  refine (HD.out _).mono ?_
  rintro r w1 ⟨rfl, hb1⟩
  go_wp2_with fail
  refine (HN.out _).mono ?_
  rintro r w2 ⟨rfl, hb2⟩
  have hb12 := Lib.hid (below_two hb1 hb2)
  clear hb1 hb2
  go_wp2_with fail
  go_loopw [5, 6] (fun sv iv wr => ∃ i : Nat, i ≤ xs.length ∧ iv = .int .i64 (i : Int) ∧ sv = .string ⟨(headLine (e : Int) xs.length ++ [10] ++ ((xs.take i).map flowLine).flatMap fun l => l ++ [10]).toArray⟩ ∧ Hid (Below w.heap.size w wr)) (fun _ iv _ => xs.length + 1 - (intOf iv).toNat)
  case atStart => exact ⟨0, Nat.zero_le _, rfl, congrArg Value.string HH.out, hb12⟩
  case round =>
    obtain ⟨i, hi, rfl, rfl, hb⟩ := hrel
    clear HD HN HH hl1 hl2
    by_cases hil : i < xs.length
    · have hil2 : (i : Int) < xs.length := by omega
      obtain ⟨ad, rfl, a0, a1, a2⟩ := cellsA (HR.out.keep fun p hp => hb.out.cell (by omega)) hil
      have hlt := World.block_lt_of_cell? _ _ a0
      have hFl := HK.out _ (List.getElem_mem hil)
      have hU := HU.out _ (List.getElem_mem hil)
      have hfs := flat_succ2 hil
      have hfl := flat_len2 HK.out HU.out i
      generalize xs[i] = x at *
      have ht0 := hFl.2.1
      have ht1 := hFl.2.2
      obtain ⟨k, ho, tl⟩ := x
      simp only at ht0 ht1 a0 a1 a2 hU
      obtain ⟨t, rfl⟩ := Int.eq_ofNat_of_zero_le ht0
      have HX := Lib.hid (fun W => refHex_any k 16 hU (by omega) (by omega) hU W)
      have HD := Lib.hid (fun W => decimal_any t (by omega) W)
      have hl16 := Hex.text_len k 16 (Hex.wr_len 15 _ hU)
      have hl13 := itoa_len (n := (t : Int)) (by omega) (by omega)
      have hnm := name_len hFl.1
      have hnm2 : ho.size ≤ 12 := by simpa using hnm
      have HT : Hid (∀ s : List UInt8, (⟨s.toArray⟩ : ByteArray) ++ ⟨(Hex.text k 16).toArray⟩ ++ ⟨#[32]⟩ ++ ho ++ ⟨#[32]⟩ ++ ⟨(Lib.itoa (t : Int)).toArray⟩ ++ ⟨#[10]⟩ = ⟨(s ++ (flowLine ⟨k, ho, (t : Int)⟩ ++ [10])).toArray⟩) := Lib.hid fun s => line_bytes s _ _ ho
      have hacc : (headLine (e : Int) xs.length ++ [10] ++ ((xs.take i).map flowLine).flatMap fun l => l ++ [10]).length ≤ 9100 := by
        simp only [List.length_append, List.length_singleton]
        omega
      have HS : Hid (headLine (e : Int) xs.length ++ [10] ++ ((xs.take (i + 1)).map flowLine).flatMap (fun l => l ++ [10]) = headLine (e : Int) xs.length ++ [10] ++ ((xs.take i).map flowLine).flatMap (fun l => l ++ [10]) ++ (flowLine ⟨k, ho, (t : Int)⟩ ++ [10])) := Lib.hid (by rw [hfs]; simp only [List.append_assoc])
      clear hfs hfl hFl hnm
      generalize headLine (e : Int) xs.length ++ [10] ++ ((xs.take i).map flowLine).flatMap (fun l => l ++ [10]) = acc at *
      generalize Hex.text k 16 = hx at *
      generalize Lib.itoa (t : Int) = dt at *
      have s1 : ¬ 9223372036854775807 < acc.length + 16 := by omega
      have s2 : ¬ 9223372036854775807 < acc.length + 16 + 1 := by omega
      have s3 : ¬ 9223372036854775807 < acc.length + 16 + 1 + ho.size := by omega
      have s4 : ¬ 9223372036854775807 < acc.length + 16 + 1 + ho.size + 1 := by omega
      have s5 : ¬ 9223372036854775807 < acc.length + 16 + 1 + ho.size + 1 + dt.length := by omega
      have s6 : ¬ 9223372036854775807 < acc.length + 16 + 1 + ho.size + 1 + dt.length + 1 := by omega
      have HKP : Hid (∀ W, Below wr.heap.size wr W → Below wr.heap.size wr W ∧ W.cell? (ad.add (i * 3)) = some (.int .u64 (k : Int)) ∧ W.cell? ⟨(ad.add (i * 3)).block, (ad.add (i * 3)).off + 1, none⟩ = some (.string ho) ∧ W.cell? ⟨(ad.add (i * 3)).block, (ad.add (i * 3)).off + 2, none⟩ = some (.int .i64 (t : Int))) := Lib.hid fun W hw => ⟨hw, (hw.cell hlt).trans a0, (hw.cell (p := ⟨(ad.add (i * 3)).block, (ad.add (i * 3)).off + 1, none⟩) hlt).trans a1, (hw.cell (p := ⟨(ad.add (i * 3)).block, (ad.add (i * 3)).off + 2, none⟩) hlt).trans a2⟩
      go_wp2_with fail
      go_region_held3 (fun W => Below wr.heap.size wr W ∧ W.cell? (ad.add (i * 3)) = some (.int .u64 (k : Int)) ∧ W.cell? ⟨(ad.add (i * 3)).block, (ad.add (i * 3)).off + 1, none⟩ = some (.string ho) ∧ W.cell? ⟨(ad.add (i * 3)).block, (ad.add (i * 3)).off + 2, none⟩ = some (.int .i64 (t : Int))) (first | exact HKP.out _ hb9 | exact HKP.out _ (bl_drew (Below.refl _ _)) | exact HKP.out _ (Below.refl _ _) | go_keep) (first
        | (go_at_call 189
           refine (HX.out _).mono ?_
           rintro r w8 ⟨rfl, rfl⟩)
        | (go_at_call 188
           refine (HD.out _).mono ?_
           rintro r w9 ⟨rfl, hb9'⟩
           have hb9 := below_two (bl_drew (Below.refl wr.heap.size wr)) hb9'))
      all_goals
        go_wp2_with fail
        go_roundw
        case rel => exact ⟨i + 1, by omega, by go_num, (congrArg Value.string (HT.out acc)).trans (by rw [HS.out]), Lib.hid (hb.out.trans (hb9.mono hb.out.size))⟩
        case measure => simp [intOf]; omega
    · obtain rfl : i = xs.length := by omega
      have hge : ¬ (xs.length : Int) < xs.length := by omega
      generalize headLine (e : Int) xs.length ++ [10] ++ ((xs.take xs.length).map flowLine).flatMap (fun l => l ++ [10]) = acc at *
      go_wp2_with fail
      refine (HF.out _).mono ?_
      rintro r w3 ⟨rfl, rfl⟩
      go_wp2
      go_ret
      exact ⟨rfl, hb.out⟩
end Go.Proofs.YteilefpjfbholaaGreatDoor

namespace Go.Proofs.YteilefpjfbholaaGreatDoor
open Go.RowKit

end Go.Proofs.YteilefpjfbholaaGreatDoor

namespace Go.Proofs.YteilefpjfbholaaGreatDoor
open Go.RowKit

theorem seen_succ {xs : List Fl} {i : Nat} {S : List Nat} (hS : ∀ k, k ∈ S ↔ ∃ j, ∃ h : j < xs.length, j < i ∧ xs[j].key = k) (h : i < xs.length) : ∀ k, k ∈ xs[i].key :: S ↔ ∃ j, ∃ h : j < xs.length, j < i + 1 ∧ xs[j].key = k := by
  intro k
  rw [List.mem_cons, hS k]
  constructor
  · rintro (rfl | ⟨j, hj, h1, h2⟩)
    · exact ⟨i, h, by omega, rfl⟩
    · exact ⟨j, hj, by omega, h2⟩
  · rintro ⟨j, hj, h1, h2⟩
    rcases Nat.lt_succ_iff_lt_or_eq.1 h1 with h3 | rfl
    · exact .inr ⟨j, hj, h3, h2⟩
    · exact .inl h2.symm
set_option maxRecDepth 100000 in
set_option maxHeartbeats 2000000 in
theorem refCarFault_any (ep : Int) (A : Option Addr) (c B : Nat) (xs : List Fl) (w : World) (hr : Reads w B 3 A xs.length (flsC xs)) (hB : B ≤ w.heap.size) (hl : xs.length ≤ maxLen) (hs : ∀ x ∈ xs, x.host.size ≤ maxLen) :
    Calls Tryz.prog 184 #[.int .i64 ep, .slice A xs.length c] w (FaultPost (checkOf ep xs) w) := by
  have hl' := hl
  unfold maxLen at hl'
  by_cases h : ep < 0 ∨ 1099511627776 < ep ∨ 200 < xs.length
  · have HF : Hid (checkOf ep xs = some ⟨2, none⟩) := Lib.hid (by unfold checkOf; rw [if_pos h])
    rcases ck_ways h with d1 | ⟨d1, d2⟩ | ⟨d1, d2, d3⟩
    all_goals
      clear h
      go_enter Tryz.func184, Tryz.ntmps184
      go_wp2_with fail
      refine (bare_any _ _).mono ?_
      rintro e w1 ⟨rfl, hb1⟩
      have hB1 : Blk w1 w.heap.size 87 _ := (Blk.new w 87 #[.int .i64 0, .int .i64 0]).below hb1 (by simp)
      have c0 := hB1.cell 0
      have c1 := hB1.cell 1
      have f0 := hB1.frozen 0
      have f1 := hB1.frozen 1
      have hz : w.heap.size < w1.heap.size := hB1.lt
      have hbb : Below w.heap.size w w1 := ((Below.refl _ _).alloc (Nat.le_refl _) _).trans (hb1.mono (by simp))
      have HB := Lib.hid hbb
      clear hbb hB1
      simp at c0 c1
      go_wp2
      refine bodyPost_ret (v := retFault (some ⟨2, none⟩)) (by simp [results, Tryz.results184, go_sem, retFault, fCode, fAt, c0, c1]) rfl (faultPost_of HF.out rfl ?_)
      exact (HB.out.setCell (p := ⟨w.heap.size, 0, none⟩) (Nat.le_refl _) _).setCell (p := ⟨w.heap.size, 1, none⟩) (Nat.le_refl _) _
  · have d1 : decide (ep < 0) = false := by simp; omega
    have d2 : decide (ep > 1099511627776) = false := by simp; omega
    have d3 : decide ((xs.length : Int) > 200) = false := by simp; omega
    have HF : Hid (checkOf ep xs = ckGo [] 0 xs) := Lib.hid (by unfold checkOf; rw [if_neg h])
    have HR := Lib.hid (hr.alloc hB (.cells #[.int .i64 0, .int .i64 0] 87))
    have HS := Lib.hid hs
    have hn : xs.length ≤ 200 := by omega
    obtain ⟨W, hW⟩ : ∃ W, W = w.alloc (.cells #[.int .i64 0, .int .i64 0] 87) := ⟨_, rfl⟩
    have HB := Lib.hid (show Below w.heap.size w W by rw [hW]; exact (Below.refl _ _).alloc (Nat.le_refl _) _)
    have hBk : Blk W w.heap.size 87 #[.int .i64 0, .int .i64 0] := by rw [hW]; exact Blk.new _ _ _
    have c0 : W.cell? ⟨w.heap.size, 0, none⟩ = some (.int .i64 0) := hBk.cell 0
    have c1 : W.cell? ⟨w.heap.size, 1, none⟩ = some (.int .i64 0) := hBk.cell 1
    have f0 := hBk.frozen 0
    have f1 := hBk.frozen 1
    rw [← hW] at HR
    clear h hs hr
    go_enter Tryz.func184, Tryz.ntmps184
    go_wp2_with fail
    rw [← hW]
    clear c0 c1 f0 f1
    have HBk := Lib.hid hBk
    clear hBk hW
    go_loopw [5, 6, 7] (fun iv _ _ wr => ∃ (i : Nat) (S : List Nat), i ≤ xs.length ∧ iv = .int .i64 (i : Int) ∧ Hid (checkOf ep xs = ckGo S i (xs.drop i)) ∧ Hid (∀ k, k ∈ S ↔ ∃ j, ∃ h : j < xs.length, j < i ∧ xs[j].key = k) ∧ Hid (Below W.heap.size W wr)) (fun iv _ _ _ => xs.length - (intOf iv).toNat)
    case atStart => exact ⟨0, [], Nat.zero_le _, rfl, HF, Lib.hid fun k => ⟨fun h => (by cases h), fun ⟨j, _, h, _⟩ => absurd h (by omega)⟩, Lib.hid (Below.refl _ _)⟩
    case round =>
      obtain ⟨i, S, hi, rfl, hG, hSS, hb⟩ := hrel
      have hBr := HBk.out.below hb.out HBk.out.lt
      have c0 : wr.cell? ⟨w.heap.size, 0, none⟩ = some (.int .i64 0) := hBr.cell 0
      have c1 : wr.cell? ⟨w.heap.size, 1, none⟩ = some (.int .i64 0) := hBr.cell 1
      have f0 := hBr.frozen 0
      have f1 := hBr.frozen 1
      have hlt := hBr.lt
      have HBr := Lib.hid (HB.out.trans (hb.out.mono HB.out.size))
      clear hBr
      by_cases hil : i < xs.length
      · have hil2 : (i : Int) < xs.length := by omega
        have HRr := Lib.hid (HR.out.keep fun p hp => hb.out.cell (p := p) (by have := HB.out.size; omega))
        obtain ⟨ad, hA, a0, a1, a2⟩ := cellsA HRr.out hil
        subst hA
        have HN := Lib.hid (isName_any xs[i].host wr (HS.out _ (List.getElem_mem hil)))
        have HH := Lib.hid (fun c => ckGo_hit (S := S) (c := c) hil)
        have HT := Lib.hid (ckGo_step (S := S) hil)
        have HSU := Lib.hid (seen_succ hSS.out hil)
        have HME := Lib.hid (hSS.out xs[i].key)
        have hway := ckOne_ways S xs[i]
        unfold NameQ at HN
        rcases hway with ⟨h1, hk⟩ | ⟨h1, d4, hk⟩ | ⟨h1, d4, d5, hk⟩ | ⟨h1, d4, d5, d6, hk⟩ | ⟨h1, d4, d5, d6, hk⟩
        · have HQ := Lib.hid (HH.out _ hk (by decide))
          rw [h1] at HN
          clear h1 hk HH HT HSU HME hSS HRr
          generalize xs[i] = x at *
          go_wp2_with fail
          refine HN.out.mono ?_
          rintro e w1 ⟨rfl, rfl⟩
          go_wp2
          refine bodyPost_ret (v := retFault (some ⟨4, some i⟩)) (by simp [results, Tryz.results184, go_sem, retFault, fCode, fAt, c0, c1]) rfl (faultPost_of (hG.out.trans HQ.out) rfl ?_)
          exact (HBr.out.setCell (p := ⟨w.heap.size, 0, none⟩) (Nat.le_refl _) _).setCell (p := ⟨w.heap.size, 1, none⟩) (Nat.le_refl _) _
        · have HQ := Lib.hid (HH.out _ hk (by decide))
          rw [h1] at HN
          clear h1 hk HH HT HSU HME hSS HRr
          generalize xs[i] = x at *
          go_wp2_with fail
          refine HN.out.mono ?_
          rintro e w1 ⟨rfl, rfl⟩
          go_wp2
          refine bodyPost_ret (v := retFault (some ⟨2, some i⟩)) (by simp [results, Tryz.results184, go_sem, retFault, fCode, fAt, c0, c1]) rfl (faultPost_of (hG.out.trans HQ.out) rfl ?_)
          exact (HBr.out.setCell (p := ⟨w.heap.size, 0, none⟩) (Nat.le_refl _) _).setCell (p := ⟨w.heap.size, 1, none⟩) (Nat.le_refl _) _
        · have HQ := Lib.hid (HH.out _ hk (by decide))
          rw [h1] at HN
          clear h1 hk HH HT HSU HME hSS HRr
          generalize xs[i] = x at *
          go_wp2_with fail
          refine HN.out.mono ?_
          rintro e w1 ⟨rfl, rfl⟩
          go_wp2
          refine bodyPost_ret (v := retFault (some ⟨2, some i⟩)) (by simp [results, Tryz.results184, go_sem, retFault, fCode, fAt, c0, c1]) rfl (faultPost_of (hG.out.trans HQ.out) rfl ?_)
          exact (HBr.out.setCell (p := ⟨w.heap.size, 0, none⟩) (Nat.le_refl _) _).setCell (p := ⟨w.heap.size, 1, none⟩) (Nat.le_refl _) _
        · rw [h1] at HN
          have hil3 : i < 200 := by omega
          have HQ := Lib.hid (HH.out _ hk (by decide))
          have HX : Hid (∃ j, ∃ h : j < xs.length, j < i ∧ xs[j].key = xs[i].key) := Lib.hid (HME.out.1 (by simpa using d6))
          clear h1 hk HH HT HSU HME hSS d6
          have HA0 := Lib.hid (fun (wk : World) (hk : Below W.heap.size W wk) => cellsA (HR.out.keep fun p hp => hk.cell (p := p) (by have := HB.out.size; omega)) hil)
          have HAK := Lib.hid (fun (wk : World) (hk : Below W.heap.size W wk) (k : Nat) (hkl : k < xs.length) => cellsA (HR.out.keep fun p hp => hk.cell (p := p) (by have := HB.out.size; omega)) hkl)
          clear HRr c0 c1 f0 f1
          go_wp2_with fail
          refine HN.out.mono ?_
          rintro e w1 ⟨rfl, rfl⟩
          go_wp2_with fail
          clear a0 a1 a2 HN d4 d5
          go_loopw [7] (fun kv wk => ∃ k : Nat, k ≤ i ∧ kv = .int .i64 (k : Int) ∧ Hid (∀ j (h : j < xs.length), j < k → xs[j].key ≠ xs[i].key) ∧ Hid (Below W.heap.size W wk)) (fun kv _ => i - (intOf kv).toNat)
          case atStart => exact ⟨0, Nat.zero_le _, rfl, Lib.hid fun j _ h => absurd h (by omega), hb⟩
          case round =>
            obtain ⟨k, hki, rfl, hne, hbk⟩ := hrel
            by_cases hlk : k < i
            · have hlk2 : (k : Int) < (i : Int) := by omega
              have hkl : k < xs.length := by omega
              have hkl2 : (k : Int) < xs.length := by omega
              obtain ⟨ad0, hA0, a0, _, _⟩ := HA0.out _ hbk.out
              cases hA0
              obtain ⟨ad1, hA1, b0, _, _⟩ := HAK.out _ hbk.out k hkl
              cases hA1
              have hBr := HBk.out.below hbk.out HBk.out.lt
              by_cases hkey : xs[k].key = xs[i].key
              · have HBr2 := Lib.hid (HB.out.trans (hbk.out.mono HB.out.size))
                have c0 : wr.cell? ⟨w.heap.size, 0, none⟩ = some (.int .i64 0) := hBr.cell 0
                have c1 : wr.cell? ⟨w.heap.size, 1, none⟩ = some (.int .i64 0) := hBr.cell 1
                have c0' : ∀ n, (wr.drewN n).cell? ⟨w.heap.size, 0, none⟩ = some (.int .i64 0) := fun _ => c0
                have c1' : ∀ n, (wr.drewN n).cell? ⟨w.heap.size, 1, none⟩ = some (.int .i64 0) := fun _ => c1
                have f0 := hBr.frozen 0
                have f1 := hBr.frozen 1
                have hlt3 := hBr.lt
                rw [hkey] at b0
                have hbe : ((xs[i].key : Int) == (xs[i].key : Int)) = true := beq_self_eq_true _
                clear hBr hne HX hkey HA0 HAK
                generalize xs[i].key = ky at *
                go_wp2_with fail
                go_quiet (fail)
                go_wp2
                refine bodyPost_ret (v := retFault (some ⟨6, some i⟩)) (by simp [results, Tryz.results184, go_sem, retFault, fCode, fAt, c0', c1']) rfl (faultPost_of (hG.out.trans HQ.out) rfl ?_)
                exact ((below_drewN HBr2.out _).setCell (p := ⟨w.heap.size, 0, none⟩) (Nat.le_refl _) _).setCell (p := ⟨w.heap.size, 1, none⟩) (Nat.le_refl _) _
              · have hbe : ((xs[k].key : Int) == (xs[i].key : Int)) = false := beq_false_of_ne (by omega)
                have hbe2 : ¬ (xs[k].key : Int) = (xs[i].key : Int) := by omega
                have HN2 : Hid (∀ j (h : j < xs.length), j < k + 1 → xs[j].key ≠ xs[i].key) := Lib.hid fun j hj h => by
                  rcases Nat.lt_succ_iff_lt_or_eq.1 h with h1 | rfl
                  · exact hne.out j hj h1
                  · exact hkey
                clear hBr hne hkey HA0 HAK
                generalize xs[k].key = kk at *
                go_wp2_with fail
                go_quiet (fail)
                go_wp2_with fail
                go_roundw
                case rel => exact ⟨k + 1, by omega, by go_num, HN2, Lib.hid (below_drewN hbk.out _)⟩
                case measure => simp [intOf]; omega
            · obtain rfl : k = i := by omega
              have hge : ¬ (k : Int) < k := by omega
              obtain ⟨j, hj, h1, h2⟩ := HX.out
              exact absurd h2 (hne.out j hj h1)
        · rw [h1] at HN
          have hil3 : i < 200 := by omega
          have HQ := Lib.hid (hG.out.trans (HT.out hk))
          have HX : Hid (¬ ∃ j, ∃ h : j < xs.length, j < i ∧ xs[j].key = xs[i].key) := Lib.hid (fun h => by have := HME.out.2 h; simp [this] at d6)
          clear h1 hk HH HT HME hSS d6
          have HA0 := Lib.hid (fun (wk : World) (hk : Below W.heap.size W wk) => cellsA (HR.out.keep fun p hp => hk.cell (p := p) (by have := HB.out.size; omega)) hil)
          have HAK := Lib.hid (fun (wk : World) (hk : Below W.heap.size W wk) (k : Nat) (hkl : k < xs.length) => cellsA (HR.out.keep fun p hp => hk.cell (p := p) (by have := HB.out.size; omega)) hkl)
          clear HRr c0 c1 f0 f1
          go_wp2_with fail
          refine HN.out.mono ?_
          rintro e w1 ⟨rfl, rfl⟩
          go_wp2_with fail
          clear a0 a1 a2 HN d4 d5
          go_loopw [7] (fun kv wk => ∃ k : Nat, k ≤ i ∧ kv = .int .i64 (k : Int) ∧ Hid (∀ j (h : j < xs.length), j < k → xs[j].key ≠ xs[i].key) ∧ Hid (Below W.heap.size W wk)) (fun kv _ => i - (intOf kv).toNat)
          case atStart => exact ⟨0, Nat.zero_le _, rfl, Lib.hid fun j _ h => absurd h (by omega), hb⟩
          case round =>
            obtain ⟨k, hki, rfl, hne, hbk⟩ := hrel
            by_cases hlk : k < i
            · have hlk2 : (k : Int) < (i : Int) := by omega
              have hkl : k < xs.length := by omega
              have hkl2 : (k : Int) < xs.length := by omega
              obtain ⟨ad0, hA0, a0, _, _⟩ := HA0.out _ hbk.out
              cases hA0
              obtain ⟨ad1, hA1, b0, _, _⟩ := HAK.out _ hbk.out k hkl
              cases hA1
              have hBr := HBk.out.below hbk.out HBk.out.lt
              by_cases hkey : xs[k].key = xs[i].key
              · exact absurd ⟨k, hkl, hlk, hkey⟩ HX.out
              · have hbe : ((xs[k].key : Int) == (xs[i].key : Int)) = false := beq_false_of_ne (by omega)
                have hbe2 : ¬ (xs[k].key : Int) = (xs[i].key : Int) := by omega
                have HN2 : Hid (∀ j (h : j < xs.length), j < k + 1 → xs[j].key ≠ xs[i].key) := Lib.hid fun j hj h => by
                  rcases Nat.lt_succ_iff_lt_or_eq.1 h with h1 | rfl
                  · exact hne.out j hj h1
                  · exact hkey
                clear hBr hne hkey HA0 HAK
                generalize xs[k].key = kk at *
                go_wp2_with fail
                go_quiet (fail)
                go_wp2_with fail
                go_roundw
                case rel => exact ⟨k + 1, by omega, by go_num, HN2, Lib.hid (below_drewN hbk.out _)⟩
                case measure => simp [intOf]; omega
            · obtain rfl : k = i := by omega
              have hge : ¬ (k : Int) < k := by omega
              go_wp2_with fail
              go_roundw
              case rel => exact ⟨k + 1, xs[k].key :: S, by omega, by go_num, HQ, HSU, hbk⟩
              case measure => simp [intOf]; omega
      · obtain rfl : i = xs.length := by omega
        have hge : ¬ (xs.length : Int) < xs.length := by omega
        have HQ := Lib.hid (hG.out.trans ckGo_end)
        clear hG hSS
        go_wp2_with fail
        refine (fine_any _).mono ?_
        rintro e w1 ⟨rfl, hb1⟩
        have hB1 : Blk w1 w.heap.size 87 #[.int .i64 0, .int .i64 0] := (HBk.out.below hb.out HBk.out.lt).below hb1 hlt
        have e0 : w1.cell? ⟨w.heap.size, 0, none⟩ = some (.int .i64 0) := hB1.cell 0
        have e1 : w1.cell? ⟨w.heap.size, 1, none⟩ = some (.int .i64 0) := hB1.cell 1
        have g0 := hB1.frozen 0
        have g1 := hB1.frozen 1
        have hz := hB1.lt
        have HB1 := Lib.hid (HBr.out.trans (hb1.mono HBr.out.size))
        clear hB1 hb1 c0 c1 f0 f1
        go_wp2
        refine bodyPost_ret (v := retFault none) (by simp [results, Tryz.results184, go_sem, retFault, fCode, fAt, e0, e1]) rfl (faultPost_of HQ.out rfl ?_)
        exact (HB1.out.setCell (p := ⟨w.heap.size, 0, none⟩) (Nat.le_refl _) _).setCell (p := ⟨w.heap.size, 1, none⟩) (Nat.le_refl _) _
end Go.Proofs.YteilefpjfbholaaGreatDoor

namespace Go.Proofs.YteilefpjfbholaaGreatDoor
open Go.RowKit

def glueHead (w : List UInt8) : List (List UInt8) → List (List UInt8)
  | [] => [w]
  | a :: t => (w ++ a) :: t
theorem glueHead_nil (c : UInt8) (l : List UInt8) : glueHead [] (cuts c l) = cuts c l := by
  cases h : cuts c l with
  | nil => exact absurd h (cuts_ne c l)
  | cons a t => rfl
theorem glueHead_same {c : UInt8} {r w : List UInt8} : glueHead w (cuts c (c :: r)) = w :: cuts c r := by
  rw [cuts, if_pos rfl, glueHead, List.append_nil]
theorem glueHead_other {c x : UInt8} {r w : List UInt8} (h : ¬ x = c) : glueHead w (cuts c (x :: r)) = glueHead (w ++ [x]) (cuts c r) := by
  rw [cuts, if_neg h]
  cases hc : cuts c r with
  | nil => exact absurd hc (cuts_ne c r)
  | cons a t => simp [glueHead]
/-- Texts as values. -/
def txV (l : List (List UInt8)) : List Value := l.map fun t => Value.string ⟨t.toArray⟩
theorem info_strR : (Tryz.prog.info? 9).map (fun i => (i.zero, i.size, i.bytes)) = some (some (.string ⟨#[]⟩), 1, 16) := by kernel_rfl
def CutIs (cs : List (List UInt8)) (w : World) (e : Ending) (w' : World) : Prop := ∃ v, e = .returned v ∧ w'.ownsRow w.heap.size 9 1 v cs.length (txV cs) ∧ Below w.heap.size w w'
set_option maxRecDepth 100000 in
set_option maxHeartbeats 2000000 in
theorem cut_any (s : ByteArray) (c : UInt8) (hs : s.size ≤ 30000) (w : World) :
    Calls Tryz.prog 180 #[.string s, .int .u8 (c.toNat : Int)] w (CutIs (cuts c s.data.toList) w) := by
  obtain ⟨i0, hi0, hz0, hz1, hz2⟩ := info_parts info_strR
  have hls : s.data.toList.length = s.size := by simp
  obtain ⟨cs, hcs⟩ : ∃ cs, cs = cuts c s.data.toList := ⟨_, rfl⟩
  have HC := Lib.hid hcs
  rw [← hcs]
  clear hcs
  go_enter Tryz.func180, Tryz.ntmps180
  go_wp2
  go_loopw [5, 6, 7] (fun ov sv iv wr => ∃ (i : Nat) (out : List (List UInt8)) (t : List UInt8), i ≤ s.size ∧ iv = .int .i64 (i : Int) ∧ sv = .string ⟨t.toArray⟩ ∧ t.length ≤ i ∧ out.length ≤ i ∧ Hid (cs = out ++ glueHead t (cuts c (s.data.toList.drop i)) ∧ wr.ownsRow w.heap.size 9 1 ov out.length (txV out)) ∧ Hid (Below w.heap.size w wr)) (fun _ _ iv _ => s.size + 1 - (intOf iv).toNat)
  case atStart => exact ⟨0, [], [], Nat.zero_le _, rfl, rfl, Nat.le_refl _, Nat.le_refl _, Lib.hid ⟨by rw [HC.out, glueHead_nil]; rfl, World.ownsRow_nil _ _ _ _⟩, Lib.hid (Below.refl _ _)⟩
  case round =>
    obtain ⟨i, out, t, hi, rfl, rfl, ht, ho, hG, hb⟩ := hrel
    have HO := Lib.hid (fun W (hW : Below wr.heap.size wr W) => own_below hG.out.2 hW)
    have HB1 := Lib.hid ((Below.refl wr.heap.size wr).alloc (Nat.le_refl _) (.cells #[.string ⟨t.toArray⟩] 9))
    have HB2 := Lib.hid (hb.out.trans (HB1.out.mono hb.out.size))
    have hbs := hb.out.size
    by_cases hlt : i < s.size
    · have hlt2 : (i : Int) < s.size := by omega
      have hdr : s.data.toList.drop i = s[i] :: s.data.toList.drop (i + 1) := by rw [List.drop_eq_getElem_cons (by omega)]; rfl
      have hG1 := hG.out.1
      rw [hdr] at hG1
      have hx8 := s[i].toNat_lt
      by_cases hx : s[i] = c
      · rw [hx, glueHead_same] at hG1
        have HG1 : Hid (cs = (out ++ [t]) ++ glueHead [] (cuts c (s.data.toList.drop (i + 1)))) := Lib.hid (by rw [glueHead_nil, hG1]; simp)
        have hxn : s[i].toNat = c.toNat := by rw [hx]
        clear hG1 hdr hG hx
        go_wp2_with (first
          | (at_builtin
             go_must (refine wpList_append_own _ rfl _ _ 24 rfl w.heap.size 9 i0 (.string ⟨#[]⟩) 1 16 Tryz.underlying24 hi0 hz0 hz1 hz2 rfl (by decide) _ out.length (txV out) rfl (HO.out _ HB1.out) ⟨wr.heap.size, 0, none⟩ 1 1 [.string ⟨t.toArray⟩] rfl rfl (cell_one_new _ _ _) (by simp [Value.oneCell']) ?h1 ?h2 ?h3 ?_)
             case h1 => simp only [maxLen]; omega
             case h2 => omega
             case h3 => simp; omega
             intro v6 w6 hown6 hg6 _)
          | fail)
        have hown7 : w6.ownsRow w.heap.size 9 1 v6 (out ++ [t]).length (txV (out ++ [t])) := by
          rw [List.length_append, List.length_singleton]
          simpa [txV] using hown6
        have hb6 := HB2.out.grown hg6 HB2.out.size (fun g e => ((HO.out _ HB1.out).lt g e).1)
        refine ⟨⟨i + 1, out ++ [t], [], by omega, by norm_cast, rfl, Nat.zero_le _, by simp; omega, Lib.hid ⟨HG1.out, hown7⟩, Lib.hid hb6⟩, by simp [intOf]; omega⟩
      · rw [glueHead_other hx] at hG1
        have HG1 := Lib.hid hG1
        have hxn : ¬ s[i].toNat = c.toNat := fun e => hx (UInt8.toNat_inj.1 e)
        have HE : Hid ((⟨t.toArray⟩ : ByteArray) ++ s.extract i (i + 1) = ⟨(t ++ [s[i]]).toArray⟩) := Lib.hid (by
          have e : s.extract i (i + 1) = ⟨([s[i]] : List UInt8).toArray⟩ := by
            apply ByteArray.ext
            rw [ByteArray.data_extract]
            apply Array.ext'
            rw [Array.toList_extract, List.extract_eq_take_drop, show i + 1 - i = 1 by omega, hdr]
            rfl
          rw [e, ba_app])
        have HGo := Lib.hid hG.out.2
        have hsz : t.length + 1 ≤ 40000 := by omega
        clear hG1 hdr hG hx
        go_wp2
        refine ⟨⟨i + 1, out, t ++ [s[i]], by omega, by norm_cast, congrArg Value.string HE.out, by simp; omega, by omega, Lib.hid ⟨HG1.out, HGo.out⟩, hb⟩, by simp [intOf]; omega⟩
    · obtain rfl : i = s.size := by omega
      have hge : ¬ (s.size : Int) < s.size := by omega
      have hG1 := hG.out.1
      rw [List.drop_of_length_le (by omega)] at hG1
      have HG1 : Hid (cs = out ++ [t]) := Lib.hid (by rw [hG1]; simp [cuts, glueHead])
      clear hG1 hG
      go_wp2_with (first
        | (at_builtin
           go_must (refine wpList_append_own _ rfl _ _ 24 rfl w.heap.size 9 i0 (.string ⟨#[]⟩) 1 16 Tryz.underlying24 hi0 hz0 hz1 hz2 rfl (by decide) _ out.length (txV out) rfl (HO.out _ HB1.out) ⟨wr.heap.size, 0, none⟩ 1 1 [.string ⟨t.toArray⟩] rfl rfl (cell_one_new _ _ _) (by simp [Value.oneCell']) ?h1 ?h2 ?h3 ?_)
           case h1 => simp only [maxLen]; omega
           case h2 => omega
           case h3 => simp; omega
           intro v6 w6 hown6 hg6 _)
        | fail)
      have hown7 : w6.ownsRow w.heap.size 9 1 v6 cs.length (txV cs) := by
        rw [HG1.out, List.length_append, List.length_singleton]
        simpa [txV] using hown6
      have hb6 := HB2.out.grown hg6 HB2.out.size (fun g e => ((HO.out _ HB1.out).lt g e).1)
      go_ret
      exact ⟨v6, rfl, hown7, hb6⟩
/-- Where cut's texts lie. -/
theorem tx_cells {w : World} {B : Nat} {v : Value} {cs : List (List UInt8)} (h : w.ownsRow B 9 1 v cs.length (txV cs)) (hn : 0 < cs.length) :
    ∃ g cap, v = .slice (some ⟨g, 0, none⟩) cs.length cap ∧ cs.length ≤ cap ∧ g < w.heap.size ∧ B ≤ g ∧ ∀ j t, cs[j]? = some t → w.cell? ⟨g, j, none⟩ = some (.string ⟨t.toArray⟩) := by
  obtain ⟨A, cap, hv, hr, hcap, _⟩ := own_slice h
  obtain ⟨g, cap', hv2, hB, hlt⟩ := h.form hn
  rw [hv] at hv2
  injection hv2 with h1 _ h3
  subst h1
  refine ⟨g, cap, hv, hcap, hlt, hB, fun j t hj => ?_⟩
  obtain ⟨ad, hA, _, hc⟩ := hr.2 hn
  cases hA
  have := hc j (.string ⟨t.toArray⟩) (by simp [txV, hj])
  rwa [add_zero_] at this
end Go.Proofs.YteilefpjfbholaaGreatDoor

namespace Go.Proofs.YteilefpjfbholaaGreatDoor

/-- A digit. -/
def IsD (c : UInt8) : Prop := 48 ≤ c.toNat ∧ c.toNat ≤ 57
/-- The value of digits. -/
def dv (l : List UInt8) : Nat := l.foldl (fun a c => 10 * a + (c.toNat - 48)) 0
theorem dv_snoc (l : List UInt8) (c : UInt8) : dv (l ++ [c]) = 10 * dv l + (c.toNat - 48) := by simp [dv, List.foldl_append]
theorem dd_aux : ∀ (n : Nat) (l : List UInt8), l.length = n + 1 → (∀ c ∈ l, IsD c) → (l.headD 0 ≠ 48 ∨ n = 0) → Lib.decDigits (dv l) = l ∧ (l.headD 0 ≠ 48 → 1 ≤ dv l)
  | 0, l, hl, hd, _ => by
    match l, hl with
    | [c], _ =>
      have hc := hd c List.mem_cons_self
      have h1 : c.toNat - 48 < 10 := by have := hc.2; omega
      have e : dv [c] = c.toNat - 48 := by simp [dv]
      rw [e, Lib.decDigits_one h1]
      refine ⟨?_, fun h => ?_⟩
      · rw [show 48 + (c.toNat - 48) = c.toNat by have := hc.1; omega, UInt8.ofNat_toNat]
      · have : c.toNat ≠ 48 := fun e => h (UInt8.toNat_inj.1 e)
        have := hc.1
        omega
  | n + 1, l, hl, hd, h0 => by
    rcases List.eq_nil_or_concat l with rfl | ⟨l', c, rfl⟩
    · simp at hl
    · rw [List.concat_eq_append] at hl hd h0 ⊢
      have hl' : l'.length = n + 1 := by simpa using hl
      have hh : (l' ++ [c]).headD 0 = l'.headD 0 := by
        cases l' with
        | nil => simp at hl'
        | cons a t => rfl
      rw [hh] at h0 ⊢
      have h48 : l'.headD 0 ≠ 48 := h0.resolve_right (by omega)
      obtain ⟨h1, h2⟩ := dd_aux n l' hl' (fun x hx => hd x (List.mem_append_left _ hx)) (.inl h48)
      have h3 := h2 h48
      have hc := hd c (List.mem_append_right _ List.mem_cons_self)
      have hc2 := hc.2
      have hc1 := hc.1
      rw [dv_snoc]
      refine ⟨?_, fun _ => by omega⟩
      rw [Lib.decDigits, dif_neg (by omega), show (10 * dv l' + (c.toNat - 48)) / 10 = dv l' by omega, h1, show (10 * dv l' + (c.toNat - 48)) % 10 = c.toNat - 48 by omega, show 48 + (c.toNat - 48) = c.toNat by omega, UInt8.ofNat_toNat]
theorem dv_lt : ∀ (n : Nat) (l : List UInt8), l.length = n → (∀ c ∈ l, IsD c) → dv l < 10 ^ n
  | 0, l, hl, _ => by
    have := List.length_eq_zero_iff.1 hl
    subst this
    decide
  | n + 1, l, hl, hd => by
    rcases List.eq_nil_or_concat l with rfl | ⟨l', c, rfl⟩
    · simp at hl
    · rw [List.concat_eq_append] at hl hd ⊢
      have h1 := dv_lt n l' (by simpa using hl) (fun x hx => hd x (List.mem_append_left _ hx))
      have hc := (hd c (List.mem_append_right _ List.mem_cons_self)).2
      rw [dv_snoc, Nat.pow_succ]
      omega
theorem num_yes {l : List UInt8} (h1 : 1 ≤ l.length) (h14 : l.length ≤ 14) (hd : ∀ c ∈ l, IsD c) (h0 : l.headD 0 ≠ 48 ∨ l.length = 1) : numOf l = some (dv l) := by
  have h := (dd_aux (l.length - 1) l (by omega) hd (h0.imp id (fun e => by omega))).1
  have hlt := dv_lt l.length l rfl hd
  have h2 : (10 : Nat) ^ l.length ≤ 10 ^ 14 := Nat.pow_le_pow_right (by decide) h14
  have := numOf_digits (dv l) (by omega) (by rw [h]; exact h14)
  rwa [h] at this
theorem dec_head0 : ∀ (n : Nat) (r : List UInt8), Lib.decDigits n = 48 :: r → n = 0
  | n, r, h => by
    by_cases hn : n < 10
    · rw [Lib.decDigits_one hn] at h
      have h1 := congrArg UInt8.toNat (List.cons.inj h).1
      rw [tenth n hn] at h1
      have e : (48 : UInt8).toNat = 48 := rfl
      omega
    · rw [Lib.decDigits, dif_neg hn] at h
      obtain ⟨c, t, hc, _⟩ := digits_head (n / 10)
      rw [hc] at h
      have h1 := (List.cons.inj h).1
      subst h1
      have := dec_head0 (n / 10) t hc
      omega
termination_by n => n
theorem num_no {l : List UInt8} (h : l.length < 1 ∨ 14 < l.length ∨ (1 < l.length ∧ l.headD 0 = 48) ∨ ∃ c ∈ l, ¬ IsD c) : numOf l = none := by
  cases hn : numOf l with
  | none => rfl
  | some n =>
    obtain ⟨h1, h2⟩ := numOf_some hn
    exfalso
    rcases h with h | h | ⟨h, h3⟩ | ⟨c, hc, h3⟩
    · obtain ⟨c, r, e, _⟩ := digits_head n
      rw [h1, e] at h
      simp at h
    · omega
    · cases hl : l with
      | nil => rw [hl] at h; simp at h
      | cons a t =>
        rw [hl] at h3
        have ha : a = 48 := h3
        subst ha
        have h0 := dec_head0 n t (h1.symm.trans hl)
        rw [h1, h0, Lib.decDigits_one (by decide)] at h
        simp at h
    · rw [h1] at hc
      exact h3 (dec_byte n c hc)
/-- A letter of sixteen. -/
def IsX (c : UInt8) : Prop := (48 ≤ c.toNat ∧ c.toNat ≤ 57) ∨ (97 ≤ c.toNat ∧ c.toNat ≤ 102)
def xd (c : UInt8) : Nat := if c.toNat ≤ 57 then c.toNat - 48 else c.toNat - 87
def xv (l : List UInt8) : Nat := l.foldl (fun a c => 16 * a + xd c) 0
theorem xv_snoc (l : List UInt8) (c : UInt8) : xv (l ++ [c]) = 16 * xv l + xd c := by simp [xv, List.foldl_append]
theorem xd_lt {c : UInt8} (h : IsX c) : xd c < 16 := by
  unfold xd
  rcases h with ⟨h1, h2⟩ | ⟨h1, h2⟩
  · rw [if_pos h2]; omega
  · rw [if_neg (by omega)]; omega
theorem hd_xd {c : UInt8} (h : IsX c) : Hex.hd (xd c) = c := by
  unfold xd Hex.hd
  rcases h with ⟨h1, h2⟩ | ⟨h1, h2⟩
  · rw [if_pos h2, if_pos (by omega), show 48 + (c.toNat - 48) = c.toNat by omega, UInt8.ofNat_toNat]
  · have e : (if c.toNat ≤ 57 then c.toNat - 48 else c.toNat - 87) = c.toNat - 87 := if_neg (by omega)
    rw [e, if_neg (by omega), show 87 + (c.toNat - 87) = c.toNat by omega, UInt8.ofNat_toNat]
theorem low_hi : ∀ i : Fin 6, Hex.low (UInt8.ofNat (97 + i.val)) = 97 + i.val := by decide
theorem dig_xd {c : UInt8} (h : IsX c) : Hex.dig c = some (xd c) := by
  unfold xd Hex.dig
  rcases h with ⟨h1, h2⟩ | ⟨h1, h2⟩
  · rw [if_pos ⟨h1, h2⟩, if_pos h2]
  · rw [if_neg (by omega), if_neg (by omega : ¬ c.toNat ≤ 57)]
    have hl := low_hi ⟨c.toNat - 97, by omega⟩
    simp only [show 97 + (c.toNat - 97) = c.toNat by omega, UInt8.ofNat_toNat] at hl
    rw [hl, if_pos (by omega)]
theorem xv_all : ∀ (n : Nat) (l : List UInt8), l.length = n → (∀ c ∈ l, IsX c) → xv l < 16 ^ n ∧ lowd (xv l) n = l ∧ (n ≤ 16 → Hex.rd 0 l = .ok (xv l))
  | 0, l, hl, _ => by
    have := List.length_eq_zero_iff.1 hl
    subst this
    exact ⟨by decide, rfl, fun _ => rfl⟩
  | n + 1, l, hl, hd => by
    rcases List.eq_nil_or_concat l with rfl | ⟨l', c, rfl⟩
    · simp at hl
    · rw [List.concat_eq_append] at hl hd ⊢
      obtain ⟨h1, h2, h3⟩ := xv_all n l' (by simpa using hl) (fun x hx => hd x (List.mem_append_left _ hx))
      have hc := hd c (List.mem_append_right _ List.mem_cons_self)
      have hx := xd_lt hc
      refine ⟨?_, ?_, fun hn => ?_⟩
      · rw [xv_snoc, Nat.pow_succ]; omega
      · rw [lowd_snoc, xv_snoc, show (16 * xv l' + xd c) / 16 = xv l' by omega, show (16 * xv l' + xd c) % 16 = xd c by omega, h2, hd_xd hc]
      · rw [Hex.rd_append _ _ 0 _ (h3 (by omega)), Hex.rd, dig_xd hc]
        simp only
        have h4 : (16 : Nat) ^ n ≤ 16 ^ 15 := Nat.pow_le_pow_right (by decide) (by omega)
        rw [if_neg (by omega), Hex.rd, xv_snoc]
        congr 1
        omega
theorem key_yes {l : List UInt8} {d : Nat} (h1 : 1 ≤ d) (h16 : d ≤ 16) (hl : l.length = d) (hx : ∀ c ∈ l, IsX c) : Hex.keyOf l d = some (xv l) := by
  obtain ⟨a1, a2, a3⟩ := xv_all d l hl hx
  obtain ⟨k, rfl⟩ : ∃ k, d = k + 1 := ⟨d - 1, by omega⟩
  have ht := lowd_text k (xv l) a1
  unfold Hex.keyOf Hex.read
  rw [if_neg (by rintro rfl; simp at hl), a3 h16]
  simp only
  rw [if_pos ⟨hl, by rw [← ht, a2]⟩]
theorem hd_isX : ∀ m : Fin 16, (48 ≤ (Hex.hd m.val).toNat ∧ (Hex.hd m.val).toNat ≤ 57) ∨ (97 ≤ (Hex.hd m.val).toNat ∧ (Hex.hd m.val).toNat ≤ 102) := by decide
theorem wr_isX : ∀ (n : Nat) (c : UInt8), c ∈ Hex.wr n → IsX c
  | n, c, h => by
    by_cases hn : n < 16
    · rw [Hex.wr_lo hn] at h
      have := List.mem_singleton.1 h
      subst this
      exact hd_isX ⟨n, hn⟩
    · rw [Hex.wr_hi hn, List.mem_append] at h
      rcases h with h | h
      · exact wr_isX (n / 16) c h
      · have := List.mem_singleton.1 h
        subst this
        exact hd_isX ⟨n % 16, by omega⟩
termination_by n => n
theorem key_no {l : List UInt8} {d : Nat} (h : l.length ≠ d ∨ ∃ c ∈ l, ¬ IsX c) : Hex.keyOf l d = none := by
  cases hk : Hex.keyOf l d with
  | none => rfl
  | some n =>
    obtain ⟨h1, h2⟩ := Hex.keyOf_some hk
    exfalso
    rcases h with h | ⟨c, hc, h3⟩
    · exact h h2
    · rw [h1, Hex.text, List.mem_append] at hc
      rcases hc with hc | hc
      · have := (List.mem_replicate.1 hc).2
        subst this
        exact h3 (.inl (by decide))
      · exact h3 (wr_isX n c hc)
end Go.Proofs.YteilefpjfbholaaGreatDoor

namespace Go.Proofs.YteilefpjfbholaaGreatDoor
open Go.RowKit

/-- A number, or -1. -/
def numI (l : List UInt8) : Int := match numOf l with | some n => (n : Int) | none => -1
theorem numI_no {l : List UInt8} (h : numOf l = none) : numI l = -1 := by unfold numI; rw [h]
theorem dv_take (s : ByteArray) (k : Nat) (h : k < s.size) : dv (s.data.toList.take (k + 1)) = 10 * dv (s.data.toList.take k) + (s[k].toNat - 48) := by
  rw [List.take_succ_eq_append_getElem (by simpa using h), dv_snoc]; rfl
theorem xv_take (s : ByteArray) (k : Nat) (h : k < s.size) : xv (s.data.toList.take (k + 1)) = 16 * xv (s.data.toList.take k) + xd s[k] := by
  rw [List.take_succ_eq_append_getElem (by simpa using h), xv_snoc]; rfl
theorem all_take {P : UInt8 → Prop} (s : ByteArray) (k : Nat) (h : k < s.size) (h1 : ∀ c ∈ s.data.toList.take k, P c) (h2 : P s[k]) : ∀ c ∈ s.data.toList.take (k + 1), P c := by
  rw [List.take_succ_eq_append_getElem (by simpa using h)]
  intro c hc
  rcases List.mem_append.1 hc with hc | hc
  · exact h1 c hc
  · rw [List.mem_singleton.1 hc]; exact h2
theorem mem_at (s : ByteArray) (k : Nat) (h : k < s.size) : s[k] ∈ s.data.toList := by
  have : s.data.toList[k]'(by simpa using h) = s[k] := rfl
  rw [← this]; exact List.getElem_mem _
theorem headD_get (l : List UInt8) (h : 0 < l.length) : l.headD 0 = l[0] := by
  cases l with
  | nil => simp at h
  | cons a t => rfl
theorem head_at (s : ByteArray) (h : 0 < s.size) : s.data.toList.headD 0 = s[0] := headD_get _ (by simpa using h)
def NumIsR (i : Int) (w : World) (e : Ending) (w' : World) : Prop := e = .returned (.int .i64 i) ∧ w = w'
theorem numIs_of {i j : Int} (h : i = j) (w : World) : NumIsR i w (.returned (.int .i64 j)) w := by subst h; exact ⟨rfl, rfl⟩
theorem num_ways (s : ByteArray) (h : ¬ (1 ≤ s.size ∧ s.size ≤ 14 ∧ (s.size = 1 ∨ s.data.toList.headD 0 ≠ 48))) : decide ((s.size : Int) < 1) = true ∨ (decide ((s.size : Int) < 1) = false ∧ decide ((s.size : Int) > 14) = true) ∨ (decide ((s.size : Int) < 1) = false ∧ decide ((s.size : Int) > 14) = false ∧ decide ((s.size : Int) > 1) = true ∧ s.data.toList.headD 0 = 48) := by
  simp only [decide_eq_true_eq, decide_eq_false_iff_not]
  by_cases h1 : (s.size : Int) < 1
  · exact .inl h1
  · by_cases h2 : (s.size : Int) > 14
    · exact .inr (.inl ⟨h1, h2⟩)
    · refine .inr (.inr ⟨h1, h2, ?_, ?_⟩)
      · by_cases h3 : s.size = 1
        · exact absurd ⟨by omega, by omega, .inl h3⟩ h
        · omega
      · by_cases h5 : s.data.toList.headD 0 = 48
        · exact h5
        · exact absurd ⟨by omega, by omega, .inr h5⟩ h
set_option maxHeartbeats 1000000 in
theorem number_bad (s : ByteArray) (w : World) (hs : s.size ≤ 30000) (h : ¬ (1 ≤ s.size ∧ s.size ≤ 14 ∧ (s.size = 1 ∨ s.data.toList.headD 0 ≠ 48))) :
    Calls Tryz.prog 181 #[.string s] w (NumIsR (numI s.data.toList) w) := by
  have hl : s.data.toList.length = s.size := by simp
  have HN : Hid (numI s.data.toList = -1) := Lib.hid (numI_no (num_no (by
    rcases num_ways s h with h1 | ⟨_, h1⟩ | ⟨_, _, h1, h3⟩
    · exact .inl (by have := of_decide_eq_true h1; omega)
    · exact .inr (.inl (by have := of_decide_eq_true h1; omega))
    · exact .inr (.inr (.inl ⟨by have := of_decide_eq_true h1; omega, h3⟩)))))
  rcases num_ways s h with d1 | ⟨d1, d2⟩ | ⟨d1, d2, d3, h48'⟩
  · clear hl h
    go_enter Tryz.func181, Tryz.ntmps181
    go_wp2
    go_ret
    exact numIs_of HN.out _
  · clear hl h
    go_enter Tryz.func181, Tryz.ntmps181
    go_wp2
    go_ret
    exact numIs_of HN.out _
  · clear hl h
    have h0 : 0 < s.size := by have := of_decide_eq_true d3; omega
    have h48 : s[0].toNat = 48 := by rw [← head_at s h0, h48']; rfl
    have h0' : (0 : Int) < s.size := by omega
    have hbe : ((s[0].toNat : Int) == 48) = true := by rw [h48]; rfl
    clear h48'
    go_enter Tryz.func181, Tryz.ntmps181
    go_wp2
    all_goals (go_ret; exact numIs_of HN.out _)
set_option maxHeartbeats 1000000 in
theorem number_good (s : ByteArray) (w : World) (h1 : 1 ≤ s.size) (h14 : s.size ≤ 14) (h0 : s.size = 1 ∨ s.data.toList.headD 0 ≠ 48) :
    Calls Tryz.prog 181 #[.string s] w (NumIsR (numI s.data.toList) w) := by
  have hl : s.data.toList.length = s.size := by simp
  have h0' : (0 : Int) < s.size := by omega
  have d1 : decide ((s.size : Int) < 1) = false := by simp; omega
  have d2 : decide ((s.size : Int) > 14) = false := by simp; omega
  have HY : Hid ((∀ c ∈ s.data.toList, IsD c) → numI s.data.toList = (dv s.data.toList : Int)) := Lib.hid fun hd => by
    unfold numI
    rw [num_yes (by omega) (by omega) hd (by
      rcases h0 with h0 | h0
      · exact .inr (by omega)
      · exact .inl h0)]
  have HN : Hid (∀ k (h : k < s.size), ¬ IsD s[k] → numI s.data.toList = -1) := Lib.hid fun k h hk => numI_no (num_no (.inr (.inr (.inr ⟨_, mem_at s k h, hk⟩))))
  have hways : (decide ((s.size : Int) > 1) = false) ∨ (decide ((s.size : Int) > 1) = true ∧ ((s[0].toNat : Int) == 48) = false) := by
    rcases h0 with h0 | h0
    · exact .inl (by simp; omega)
    · by_cases h : s.size = 1
      · exact .inl (by simp; omega)
      · exact .inr ⟨by simp; omega, beq_false_of_ne (fun e => h0 (by rw [head_at s (by omega)]; exact UInt8.toNat_inj.1 (by have e2 : (48 : UInt8).toNat = 48 := rfl; omega)))⟩
  clear h0
  rcases hways with d3 | ⟨d3, d4⟩
  all_goals
    go_enter Tryz.func181, Tryz.ntmps181
    go_wp2
    go_loop [3, 4] (fun nv iv => ∃ i : Nat, i ≤ s.size ∧ iv = .int .i64 (i : Int) ∧ nv = .int .i64 (dv (s.data.toList.take i) : Int) ∧ Hid (∀ c ∈ s.data.toList.take i, IsD c)) (fun _ iv => s.size - (intOf iv).toNat)
    case atStart => exact ⟨0, Nat.zero_le _, rfl, rfl, Lib.hid (fun c hc => by simp at hc)⟩
    case round =>
      obtain ⟨i, hi, rfl, rfl, hall⟩ := hrel
      by_cases hlt : i < s.size
      · have hlt2 : (i : Int) < s.size := by omega
        have HT := Lib.hid (dv_take s i hlt)
        have HA := Lib.hid (all_take (P := IsD) s i hlt hall.out)
        have HB := Lib.hid (HN.out i hlt)
        have hb := s[i].toNat_lt
        have hdl := dv_lt i (s.data.toList.take i) (by rw [List.length_take]; omega) hall.out
        have hp : (10 : Nat) ^ i ≤ 10 ^ 14 := Nat.pow_le_pow_right (by decide) (by omega)
        have hdl2 : dv (s.data.toList.take i) < 100000000000000 := by omega
        have HD : Hid (IsD s[i] ↔ 48 ≤ s[i].toNat ∧ s[i].toNat ≤ 57) := Lib.hid Iff.rfl
        clear hdl hp
        generalize dv (s.data.toList.take i) = a at *
        by_cases h48 : s[i].toNat < 48
        · have e1 : decide ((s[i].toNat : Int) < 48) = true := by simp; omega
          have HQ := Lib.hid (HB.out (fun h => by have := (HD.out.1 h).1; omega))
          clear HT HA HB HD
          go_wp2
          exact bodyPost_ret (by simp [results, Tryz.results181, go_sem]) rfl (numIs_of HQ.out _)
        · have e1 : decide ((s[i].toNat : Int) < 48) = false := by simp; omega
          by_cases h57 : 57 < s[i].toNat
          · have e2 : decide ((s[i].toNat : Int) > 57) = true := by simp; omega
            have HQ := Lib.hid (HB.out (fun h => by have := (HD.out.1 h).2; omega))
            clear HT HA HB HD
            go_wp2
            exact bodyPost_ret (by simp [results, Tryz.results181, go_sem]) rfl (numIs_of HQ.out _)
          · have e2 : decide ((s[i].toNat : Int) > 57) = false := by simp; omega
            have HA2 := Lib.hid (HA.out (HD.out.2 ⟨by omega, by omega⟩))
            clear HA HB HD
            go_wp2
            refine ⟨⟨i + 1, by omega, by norm_cast, ?_, HA2⟩, by simp [intOf]; omega⟩
            rw [HT.out]
            exact congrArg (Value.int .i64) (by omega)
      · obtain rfl : i = s.size := by omega
        have hge : ¬ (s.size : Int) < s.size := by omega
        have ht : s.data.toList.take s.size = s.data.toList := List.take_of_length_le (by omega)
        rw [ht] at hall
        have HQ := Lib.hid (HY.out hall.out)
        rw [ht]
        go_wp2
        exact bodyPost_ret (by simp [results, Tryz.results181, go_sem]) rfl (numIs_of HQ.out _)
theorem numberOfR_any (s : ByteArray) (hs : s.size ≤ 30000) (w : World) : Calls Tryz.prog 181 #[.string s] w (NumIsR (numI s.data.toList) w) := by
  by_cases h : 1 ≤ s.size ∧ s.size ≤ 14 ∧ (s.size = 1 ∨ s.data.toList.headD 0 ≠ 48)
  · exact number_good s w h.1 h.2.1 h.2.2
  · exact number_bad s w hs h
end Go.Proofs.YteilefpjfbholaaGreatDoor

namespace Go.Proofs.YteilefpjfbholaaGreatDoor
open Go.RowKit

def KeyOfIs (o : Option Nat) (w : World) (e : Ending) (w' : World) : Prop := e = .returned (.tuple #[.int .u64 ((o.getD 0 : Nat) : Int), .bool o.isSome]) ∧ w = w'
theorem keyIs_no {o : Option Nat} (h : o = none) (w : World) : KeyOfIs o w (.returned (.tuple #[.int .u64 0, .bool false])) w := by subst h; exact ⟨rfl, rfl⟩
theorem keyIs_yes {o : Option Nat} {n : Nat} (h : o = some n) (w : World) : KeyOfIs o w (.returned (.tuple #[.int .u64 (n : Int), .bool true])) w := by subst h; exact ⟨rfl, rfl⟩
theorem x_ways (c : UInt8) : (decide ((c.toNat : Int) ≥ 48) = true ∧ decide ((c.toNat : Int) ≤ 57) = true ∧ IsX c ∧ xd c = c.toNat - 48) ∨
    (decide ((c.toNat : Int) ≥ 48) = true ∧ decide ((c.toNat : Int) ≤ 57) = false ∧ decide ((c.toNat : Int) ≥ 97) = true ∧ decide ((c.toNat : Int) ≤ 102) = true ∧ IsX c ∧ xd c = c.toNat - 97 + 10) ∨
    (decide ((c.toNat : Int) ≥ 48) = true ∧ decide ((c.toNat : Int) ≤ 57) = false ∧ decide ((c.toNat : Int) ≥ 97) = true ∧ decide ((c.toNat : Int) ≤ 102) = false ∧ ¬ IsX c) ∨
    (decide ((c.toNat : Int) ≥ 48) = true ∧ decide ((c.toNat : Int) ≤ 57) = false ∧ decide ((c.toNat : Int) ≥ 97) = false ∧ ¬ IsX c) ∨
    (decide ((c.toNat : Int) ≥ 48) = false ∧ decide ((c.toNat : Int) ≥ 97) = false ∧ ¬ IsX c) := by
  simp only [decide_eq_true_eq, decide_eq_false_iff_not]
  unfold IsX xd
  by_cases h1 : 48 ≤ c.toNat
  · by_cases h2 : c.toNat ≤ 57
    · exact .inl ⟨by omega, by omega, .inl ⟨h1, h2⟩, if_pos h2⟩
    · rw [if_neg h2]
      by_cases h3 : 97 ≤ c.toNat
      · by_cases h4 : c.toNat ≤ 102
        · exact .inr (.inl ⟨by omega, by omega, by omega, by omega, .inr ⟨h3, h4⟩, by omega⟩)
        · exact .inr (.inr (.inl ⟨by omega, by omega, by omega, by omega, by omega⟩))
      · exact .inr (.inr (.inr (.inl ⟨by omega, by omega, by omega, by omega⟩)))
  · exact .inr (.inr (.inr (.inr ⟨by omega, by omega, by omega⟩)))
set_option maxHeartbeats 1000000 in
theorem keyOf_any (s : ByteArray) (d : Nat) (h1 : 1 ≤ d) (h16 : d ≤ 16) (w : World) :
    Calls Tryz.prog 182 #[.string s, .int .i64 (d : Int)] w (KeyOfIs (Hex.keyOf s.data.toList d) w) := by
  have hl : s.data.toList.length = s.size := by simp
  by_cases hd : s.size = d
  · have HY : Hid ((∀ c ∈ s.data.toList, IsX c) → Hex.keyOf s.data.toList d = some (xv s.data.toList)) := Lib.hid fun hx => key_yes h1 h16 (by omega) hx
    have HN : Hid (∀ k (h : k < s.size), ¬ IsX s[k] → Hex.keyOf s.data.toList d = none) := Lib.hid fun k h hk => key_no (.inr ⟨_, mem_at s k h, hk⟩)
    have hd' : (s.size : Int) = (d : Int) := by omega
    have hs16 : s.size ≤ 16 := by omega
    generalize Hex.keyOf s.data.toList d = o at *
    go_enter Tryz.func182, Tryz.ntmps182
    go_wp2
    go_loop [6, 7, 8, 9] (fun nv iv _ _ => ∃ i : Nat, i ≤ s.size ∧ iv = .int .i64 (i : Int) ∧ nv = .int .u64 (xv (s.data.toList.take i) : Int) ∧ Hid (∀ c ∈ s.data.toList.take i, IsX c)) (fun _ iv _ _ => s.size - (intOf iv).toNat)
    case atStart => exact ⟨0, Nat.zero_le _, rfl, rfl, Lib.hid (fun c hc => by simp at hc)⟩
    case round =>
      obtain ⟨i, hi, rfl, rfl, hall⟩ := hrel
      by_cases hlt : i < s.size
      · have hlt2 : (i : Int) < s.size := by omega
        have HT := Lib.hid (xv_take s i hlt)
        have HA := Lib.hid (all_take (P := IsX) s i hlt hall.out)
        have HB := Lib.hid (HN.out i hlt)
        have hb := s[i].toNat_lt
        have hxl := (xv_all i (s.data.toList.take i) (by rw [List.length_take]; omega) hall.out).1
        have hp : (16 : Nat) ^ i ≤ 16 ^ 15 := Nat.pow_le_pow_right (by decide) (by omega)
        have hdl2 : xv (s.data.toList.take i) < 1152921504606846976 := by omega
        have hway := x_ways s[i]
        clear hxl hp
        generalize xv (s.data.toList.take i) = a at *
        rcases hway with ⟨e1, e2, hX, hx⟩ | ⟨e1, e2, e3, e4, hX, hx⟩ | ⟨e1, e2, e3, e4, hX⟩ | ⟨e1, e2, e3, hX⟩ | ⟨e1, e3, hX⟩
        · have HA2 := Lib.hid (HA.out hX)
          have h48 : 48 ≤ s[i].toNat := by have := of_decide_eq_true e1; omega
          have h57 : s[i].toNat ≤ 57 := by have := of_decide_eq_true e2; omega
          have HX := Lib.hid hx
          clear HA HB hX hx
          go_wp2
          refine ⟨⟨i + 1, by omega, by norm_cast, ?_, HA2⟩, by simp [intOf]; omega⟩
          rw [HT.out, HX.out]
          exact congrArg (Value.int .u64) (by omega)
        · have HA2 := Lib.hid (HA.out hX)
          have h97 : 97 ≤ s[i].toNat := by have := of_decide_eq_true e3; omega
          have h102 : s[i].toNat ≤ 102 := by have := of_decide_eq_true e4; omega
          have HX := Lib.hid hx
          clear HA HB hX hx
          go_wp2
          refine ⟨⟨i + 1, by omega, by norm_cast, ?_, HA2⟩, by simp [intOf]; omega⟩
          rw [HT.out, HX.out]
          exact congrArg (Value.int .u64) (by omega)
        all_goals
          have HQ := Lib.hid (HB.out hX)
          clear HA HT HB hX
          go_wp2
          go_ret2
          exact keyIs_no HQ.out _
      · obtain rfl : i = s.size := by omega
        have hge : ¬ (s.size : Int) < s.size := by omega
        have ht : s.data.toList.take s.size = s.data.toList := List.take_of_length_le (by omega)
        rw [ht] at hall
        have HQ := Lib.hid (HY.out hall.out)
        rw [ht]
        generalize xv s.data.toList = n at *
        go_wp2
        go_ret2
        exact keyIs_yes HQ.out _
  · have HQ : Hid (Hex.keyOf s.data.toList d = none) := Lib.hid (key_no (.inl (by omega)))
    have hd' : ¬ (s.size : Int) = (d : Int) := by omega
    go_enter Tryz.func182, Tryz.ntmps182
    go_wp2
    go_ret2
    exact keyIs_no HQ.out _
end Go.Proofs.YteilefpjfbholaaGreatDoor

namespace Go.Proofs.YteilefpjfbholaaGreatDoor
open Go.RowKit

theorem glue_one {c : UInt8} : ∀ (l : List UInt8) {d : List UInt8}, cuts c l = [d] → l = d
  | [], d, h => by simpa [cuts] using h
  | x :: r, d, h => by
    unfold cuts at h
    split at h
    · simp only [List.cons.injEq] at h
      exact absurd h.2 (cuts_ne c r)
    · have hne := cuts_ne c r
      cases hc : cuts c r with
      | nil => exact absurd hc hne
      | cons a t =>
        rw [hc] at h
        simp only [List.headD_cons, List.tail_cons, List.cons.injEq] at h
        obtain ⟨rfl, rfl⟩ := h
        rw [glue_one r hc]
theorem glue_more {c : UInt8} : ∀ (l : List UInt8) {a : List UInt8} {t : List (List UInt8)}, t ≠ [] → cuts c l = a :: t → ∃ r, l = a ++ c :: r ∧ cuts c r = t
  | [], a, t, ht, h => by simp [cuts] at h; exact absurd h.2.symm (fun e => ht e.symm)
  | x :: r, a, t, ht, h => by
    unfold cuts at h
    split at h
    · rename_i hx
      simp only [List.cons.injEq] at h
      obtain ⟨rfl, h2⟩ := h
      exact ⟨r, by rw [hx]; rfl, h2⟩
    · have hne := cuts_ne c r
      cases hc : cuts c r with
      | nil => exact absurd hc hne
      | cons b t2 =>
        rw [hc] at h
        simp only [List.headD_cons, List.tail_cons, List.cons.injEq] at h
        obtain ⟨rfl, rfl⟩ := h
        obtain ⟨r2, h1, h2⟩ := glue_more r ht hc
        exact ⟨r2, by rw [h1]; rfl, h2⟩
theorem sumOf_words {l t : List UInt8} (h : cuts 32 l = [[115, 117, 109], t]) : sumOf l = Hex.keyOf t 8 := by
  obtain ⟨r, rfl, h2⟩ := glue_more l (by simp) h
  obtain rfl := glue_one r h2
  simp [sumOf, wSum]
theorem sumOf_none {l : List UInt8} (h : ¬ ∃ t, cuts 32 l = [[115, 117, 109], t]) : sumOf l = none := by
  cases hs : sumOf l with
  | none => rfl
  | some n =>
    refine absurd ⟨Hex.text n 8, ?_⟩ h
    have e : l = [115, 117, 109] ++ 32 :: Hex.text n 8 := sumOf_some hs
    rw [e, cuts_cons 32 _ _ (by decide), cuts_none 32 _ (not32 (fun b hb => hex_byte hb) (by omega))]
theorem ckGo_pos : ∀ (l : List Fl) (S : List Nat) (i : Nat) {f : Flt}, ckGo S i l = some f → 0 < f.code
  | [], _, _, _, h => by cases h
  | x :: r, S, i, f, h => by
    unfold ckGo at h
    split at h
    · exact ckGo_pos r _ _ h
    · rename_i h0
      cases h
      show 0 < ckOne S x
      omega
theorem checkOf_code' {ep : Int} {L : List Fl} {f : Flt} (h : checkOf ep L = some f) : 0 < fCode (some f) := by
  show 0 < f.code
  unfold checkOf at h
  split at h
  · cases h; decide
  · exact ckGo_pos _ _ _ h
theorem fl_cell1 (w : World) (x : Fl) : ∀ (j : Nat) (u : Value), (flC x)[j]? = some u → (w.alloc (.cells #[.int .u64 (x.key : Int), .string x.host, .int .i64 x.til] 43)).cell? ((⟨w.heap.size, 0, none⟩ : Addr).add j) = some u := by
  intro j u hu
  have hB := Blk.new w 43 #[.int .u64 (x.key : Int), .string x.host, .int .i64 x.til]
  rw [add_zero_]
  refine (hB.cell j).trans ?_
  simpa [flC] using hu
theorem readOf_last {s : List UInt8} (h : ¬ 20000 < s.length) (hn : ¬ (3 ≤ (cuts 10 s).length ∧ (cuts 10 s).getLastD [] = [])) : readOf s = .bad ⟨1, none⟩ := by
  cases hh : headOf ((cuts 10 s).headD []) with
  | none => exact readOf_head h hh
  | some p => exact readOf_shape h hh (fun hc => hn ⟨by omega, hc.2⟩)
theorem headOf_len {a : List UInt8} (h : (cuts 32 a).length ≠ 3) : headOf a = none := by
  unfold headOf
  split
  · rename_i hc; rw [hc] at h; exact absurd rfl h
  · rfl
theorem headOf_flows {a b x y : List UInt8} (hc : cuts 32 a = [b, x, y]) (h : b ≠ wFlows) : headOf a = none := by
  unfold headOf; rw [hc]; simp only; rw [if_neg h]
theorem three_of {α : Type} {l : List α} (h : l.length = 3) : ∃ a b c, l = [a, b, c] := by
  match l, h with
  | [a, b, c], _ => exact ⟨a, b, c, rfl⟩
theorem two_of {α : Type} {l : List α} (h : l.length = 2) : ∃ a b, l = [a, b] := by
  match l, h with
  | [a, b], _ => exact ⟨a, b, rfl⟩
theorem headOf_num {a x y : List UInt8} (hc : cuts 32 a = [wFlows, x, y]) : headOf a = match numOf x, numOf y with | some p, some q => some (p, q) | _, _ => none := by
  simp only [headOf, hc, if_true]
  cases numOf x <;> cases numOf y <;> rfl
theorem flowOf_len {a : List UInt8} (h : (cuts 32 a).length ≠ 3) : flowOf a = none := by
  unfold flowOf
  split
  · rename_i hc; rw [hc] at h; exact absurd rfl h
  · rfl
theorem flowOf_three {a b x y : List UInt8} (hc : cuts 32 a = [b, x, y]) : flowOf a = if x = [] then none else (match Hex.keyOf b 16, numOf y with | some k, some n => some (k, x, n) | _, _ => none) := by
  simp only [flowOf, hc]
  by_cases hx : x = []
  · rw [if_pos hx, if_pos hx]
  · rw [if_neg hx, if_neg hx]
    cases Hex.keyOf b 16 <;> cases numOf y <;> rfl
/-- What CarryOf hands back. -/
def CarOf (r : Rd) (w : World) (e : Ending) (w' : World) : Prop :=
  match r with
  | .bad f => e = .returned (.tuple #[.int .i64 0, .slice none 0 0, retFault (some f)]) ∧ Below w.heap.size w w'
  | .good ep L => ∃ v, e = .returned (.tuple #[.int .i64 (ep : Int), v, retFault none]) ∧ w'.ownsRow w.heap.size 43 3 v L.length (flsC L) ∧ Below w.heap.size w w'
theorem carBad {r : Rd} {f : Flt} {w w' : World} {e : Ending} (h : r = .bad f) (he : e = .returned (.tuple #[.int .i64 0, .slice none 0 0, retFault (some f)])) (hb : Below w.heap.size w w') : CarOf r w e w' := by
  subst h; exact ⟨he, hb⟩
theorem res_of {w W0 : World} (hW0 : W0 = w.alloc (.cells #[.int .i64 0, .int .i64 0] 87)) : ∀ W, Below W0.heap.size W0 W → W.cell? ⟨w.heap.size, 0, none⟩ = some (.int .i64 0) ∧ W.cell? ⟨w.heap.size, 1, none⟩ = some (.int .i64 0) ∧ W.frozen? ⟨w.heap.size, 0, none⟩ = false ∧ W.frozen? ⟨w.heap.size, 1, none⟩ = false ∧ w.heap.size < W.heap.size ∧ Below w.heap.size w W := by
  intro W hW
  have hB : Blk W0 w.heap.size 87 #[.int .i64 0, .int .i64 0] := by rw [hW0]; exact Blk.new _ _ _
  have hb := hB.below hW hB.lt
  have h0 : Below w.heap.size w W0 := by rw [hW0]; exact (Below.refl _ _).alloc (Nat.le_refl _) _
  exact ⟨hb.cell 0, hb.cell 1, hb.frozen 0, hb.frozen 1, hb.lt, h0.trans (hW.mono h0.size)⟩
set_option maxRecDepth 100000 in
theorem of_long (s : ByteArray) (w : World) (h : 20000 < s.size) :
    Calls Tryz.prog 147 #[.string s] w (CarOf (readOf s.data.toList) w) := by
  have HQ := Lib.hid (readOf_long (s := s.data.toList) (by simpa using h))
  have d1 : decide ((s.size : Int) > 20000) = true := by simp; omega
  obtain ⟨W0, hW0⟩ : ∃ W0, W0 = w.alloc (.cells #[.int .i64 0, .int .i64 0] 87) := ⟨_, rfl⟩
  have HBK := Lib.hid (res_of hW0)
  go_enter Tryz.func147, Tryz.ntmps147
  go_wp2_with fail
  rw [← hW0]
  have hb0 := Below.refl W0.heap.size W0
  clear hW0
  refine (bare_any _ _).mono ?_
  rintro e wz ⟨rfl, hbz⟩
  obtain ⟨c0, c1, f0, f1, hz, hbw⟩ := HBK.out _ (below_two hb0 hbz)
  have HBW := Lib.hid hbw
  clear hbw hbz
  go_wp2
  refine bodyPost_ret (v := .tuple #[.int .i64 0, .slice none 0 0, retFault (some ⟨2, none⟩)]) (by simp [results, Tryz.results147, go_sem, retFault, fCode, fAt, c0, c1]) rfl (carBad HQ.out rfl ?_)
  exact (HBW.out.setCell (p := ⟨w.heap.size, 0, none⟩) (Nat.le_refl _) _).setCell (p := ⟨w.heap.size, 1, none⟩) (Nat.le_refl _) _
set_option maxRecDepth 100000 in
set_option maxHeartbeats 4000000 in
theorem of_rest (s : ByteArray) (w : World) (h : ¬ 20000 < s.size) :
    Calls Tryz.prog 147 #[.string s] w (CarOf (readOf s.data.toList) w) := by
  have hlen : s.data.toList.length = s.size := by simp
  have h' : ¬ 20000 < s.data.toList.length := by omega
  have d1 : decide ((s.size : Int) > 20000) = false := by simp; omega
  obtain ⟨W0, hW0⟩ : ∃ W0, W0 = w.alloc (.cells #[.int .i64 0, .int .i64 0] 87) := ⟨_, rfl⟩
  have HBK := Lib.hid (res_of hW0)
  have HC := Lib.hid (fun W => cut_any s 10 (by omega) W)
  have hps : ∀ p ∈ cuts 10 s.data.toList, p.length ≤ 20000 := fun p hp => by have := piece_size hp; omega
  have hcl := cuts_len 10 s.data.toList
  have hcl2 := List.count_le_length (a := (10 : UInt8)) (l := s.data.toList)
  have HL := Lib.hid (readOf_last h')
  have HRH := Lib.hid (readOf_head h')
  have HRS := Lib.hid (fun p => readOf_shape (p := p) h')
  have HRR := Lib.hid (fun a last mid ep => readOf_rest (h := a) (last := last) (mid := mid) (ep := ep) h')
  have HSP := Lib.hid (fun m => split_ends (ls := cuts 10 s.data.toList) (m := m))
  have HGL := Lib.hid (fun ls => glue_ends 10 ls s.data.toList)
  have hne := cuts_ne 10 s.data.toList
  obtain ⟨r, hr⟩ : ∃ r, r = readOf s.data.toList := ⟨_, rfl⟩
  rw [← hr] at HL HRH HRS HRR ⊢
  clear hr
  obtain ⟨cs, hcs⟩ : ∃ cs, cs = cuts 10 s.data.toList := ⟨_, rfl⟩
  rw [← hcs] at HC hps hcl HL HRH HRS HRR HSP HGL hne
  have hn1 : cs.length ≤ 20001 := by omega
  have hn0 : 0 < cs.length := by omega
  clear hcl hcl2 hcs h'
  have HPS := Lib.hid hps
  clear hps
  obtain ⟨a, ra, hra⟩ := List.exists_cons_of_ne_nil hne
  obtain ⟨z, hz⟩ : ∃ z, z = cs.getLastD [] := ⟨_, rfl⟩
  rw [← hz] at HL HRS
  have hza : cs[cs.length - 1]? = some z := by
    rw [hz, List.getLastD_eq_getLast?, ← List.getLast?_eq_getElem?, hra, List.getLast?_cons]; rfl
  have haa : cs[0]? = some a := by rw [hra]; rfl
  have hha : cs.headD [] = a := by rw [hra]; rfl
  rw [hha] at HRH HRS HSP
  have hal : a.length ≤ 20000 := HPS.out a (by rw [hra]; exact List.mem_cons_self)
  have hasz : (⟨a.toArray⟩ : ByteArray).size = a.length := by simp [ByteArray.size]
  have HCA := Lib.hid (fun W => cut_any ⟨a.toArray⟩ 32 (by omega) W)
  rw [show (⟨a.toArray⟩ : ByteArray).data.toList = a from rfl] at HCA
  have HZ := Lib.hid hz
  clear hra hne hha hz hasz
  go_enter Tryz.func147, Tryz.ntmps147
  go_wp2_with fail
  rw [← hW0]
  have hb0 := Below.refl W0.heap.size W0
  refine (HC.out W0).mono ?_
  rintro e w1 ⟨v1, rfl, hv1, hb1⟩
  obtain ⟨g1, cap1, rfl, hcap1, hg1, hgb1, hcell1⟩ := tx_cells hv1 hn0
  have HC1 := Lib.hid hcell1
  have ca := hcell1 0 a haa
  have cz := hcell1 _ z hza
  have hw0s : W0.heap.size = w.heap.size + 1 := by rw [hW0]; simp
  clear hcell1 hv1 hW0 HC haa hza hb0
  generalize hcn : cs.length = n at *
  have HCN := Lib.hid hcn
  clear hcn
  by_cases h3 : n < 3
  · have HQ := Lib.hid (HL.out (fun hc => absurd hc.1 (by omega)))
    have d2 : decide ((n : Int) < 3) = true := by simp; omega
    go_wp2_with fail
    refine (bare_any _ _).mono ?_
    rintro e wz ⟨rfl, hbz⟩
    obtain ⟨c0, c1, f0, f1, hz, hbw⟩ := HBK.out _ (below_two hb1 hbz)
    have HBW := Lib.hid hbw
    clear hbw hbz
    go_wp2
    refine bodyPost_ret (v := .tuple #[.int .i64 0, .slice none 0 0, retFault (some ⟨1, none⟩)]) (by simp [results, Tryz.results147, go_sem, retFault, fCode, fAt, c0, c1]) rfl (carBad HQ.out rfl ?_)
    exact (HBW.out.setCell (p := ⟨w.heap.size, 0, none⟩) (Nat.le_refl _) _).setCell (p := ⟨w.heap.size, 1, none⟩) (Nat.le_refl _) _
  have d2 : decide ((n : Int) < 3) = false := by simp; omega
  have hn3 : (n : Int) - 1 = ((n - 1 : Nat) : Int) := by omega
  have hnn : n - 1 < n := by omega
  by_cases hzz : z = []
  · subst hzz
    clear HL
    go_wp2_with fail
    refine (HCA.out w1).mono ?_
    rintro e w2 ⟨v2, rfl, hv2, hb2⟩
    have hb02 := below_two hb1 hb2
    have HCW : Hid (∀ W, Below w2.heap.size w2 W → ∀ j t, cs[j]? = some t → W.cell? ⟨g1, j, none⟩ = some (.string ⟨t.toArray⟩)) := Lib.hid fun W hW j t hj => (hW.cell (p := ⟨g1, j, none⟩) (Nat.lt_of_lt_of_le hg1 hb2.size)).trans ((hb2.cell (p := ⟨g1, j, none⟩) hg1).trans (HC1.out j t hj))
    have hg1' : g1 < w2.heap.size := Nat.lt_of_lt_of_le hg1 hb2.size
    have HPA := Lib.hid (fun p (hp : p ∈ cuts 32 a) => piece_size hp)
    have HHL := Lib.hid (headOf_len (a := a))
    have HHF := Lib.hid (fun b x y => headOf_flows (a := a) (b := b) (x := x) (y := y))
    have HHN := Lib.hid (fun x y => headOf_num (a := a) (x := x) (y := y))
    have hsne := cuts_ne 32 a
    obtain ⟨hs, hhs⟩ : ∃ hs, hs = cuts 32 a := ⟨_, rfl⟩
    rw [← hhs] at hv2 HPA HHL HHF HHN hsne
    have hsn : 0 < hs.length := by cases hs with | nil => exact absurd rfl hsne | cons => simp
    obtain ⟨g2, cap2, rfl, hcap2, hg2, hgb2, hcell2⟩ := tx_cells hv2 hsn
    clear hv2 hsne hhs HCA HC1 ca cz hb2 hg1
    by_cases hs3 : hs.length = 3
    · obtain ⟨b, x, y, rfl⟩ := three_of hs3
      have cb := hcell2 0 b rfl
      have cx := hcell2 1 x rfl
      have cy := hcell2 2 y rfl
      have hxl := HPA.out x (by simp)
      have hyl := HPA.out y (by simp)
      clear hcell2 hs3 hsn HPA HHL
      by_cases hbf : b = wFlows
      · subst hbf
        have hwf : (wFlows == [102, 108, 111, 119, 115]) = true := by decide
        have HHN2 := Lib.hid (HHN.out x y rfl)
        clear HHF HHN
        have hxs : (⟨x.toArray⟩ : ByteArray).size = x.length := by simp [ByteArray.size]
        have hys : (⟨y.toArray⟩ : ByteArray).size = y.length := by simp [ByteArray.size]
        have HNX := Lib.hid (fun W => numberOfR_any ⟨x.toArray⟩ (by omega) W)
        have HNY := Lib.hid (fun W => numberOfR_any ⟨y.toArray⟩ (by omega) W)
        rw [show (⟨x.toArray⟩ : ByteArray).data.toList = x from rfl] at HNX
        rw [show (⟨y.toArray⟩ : ByteArray).data.toList = y from rfl] at HNY
        unfold NumIsR at HNX HNY
        clear hxs hys
        go_wp2_with fail
        refine (HNX.out w2).mono ?_
        rintro e w3 ⟨rfl, rfl⟩
        go_wp2_with fail
        refine (HNY.out w2).mono ?_
        rintro e w3 ⟨rfl, rfl⟩
        clear cb cx cy HNX HNY
        cases hnx : numOf x with
        | none =>
          have HQ := Lib.hid (HRH.out (by rw [HHN2.out, hnx]))
          rw [numI_no hnx]
          go_wp2_with fail
          refine (bare_any _ _).mono ?_
          rintro e wz ⟨rfl, hbz⟩
          obtain ⟨c0, c1, f0, f1, hz, hbw⟩ := HBK.out _ (below_two hb02 hbz)
          have HBW := Lib.hid hbw
          clear hbw hbz
          go_wp2
          refine bodyPost_ret (v := .tuple #[.int .i64 0, .slice none 0 0, retFault (some ⟨1, none⟩)]) (by simp [results, Tryz.results147, go_sem, retFault, fCode, fAt, c0, c1]) rfl (carBad HQ.out rfl ?_)
          exact (HBW.out.setCell (p := ⟨w.heap.size, 0, none⟩) (Nat.le_refl _) _).setCell (p := ⟨w.heap.size, 1, none⟩) (Nat.le_refl _) _
        | some ex =>
          have hix : numI x = (ex : Int) := by unfold numI; rw [hnx]
          rw [hix]
          cases hny : numOf y with
          | none =>
            have HQ := Lib.hid (HRH.out (by rw [HHN2.out, hnx, hny]))
            rw [numI_no hny]
            go_wp2_with fail
            refine (bare_any _ _).mono ?_
            rintro e wz ⟨rfl, hbz⟩
            obtain ⟨c0, c1, f0, f1, hz, hbw⟩ := HBK.out _ (below_two hb02 hbz)
            have HBW := Lib.hid hbw
            clear hbw hbz
            go_wp2
            refine bodyPost_ret (v := .tuple #[.int .i64 0, .slice none 0 0, retFault (some ⟨1, none⟩)]) (by simp [results, Tryz.results147, go_sem, retFault, fCode, fAt, c0, c1]) rfl (carBad HQ.out rfl ?_)
            exact (HBW.out.setCell (p := ⟨w.heap.size, 0, none⟩) (Nat.le_refl _) _).setCell (p := ⟨w.heap.size, 1, none⟩) (Nat.le_refl _) _
          | some my =>
            have hiy : numI y = (my : Int) := by unfold numI; rw [hny]
            rw [hiy]
            have HHO : Hid (headOf a = some (ex, my)) := Lib.hid (by rw [HHN2.out, hnx, hny])
            clear hix hiy hnx hny HHN2
            by_cases hmn : my + 3 = n
            · have e1 : (my : Int) = (n : Int) - 3 := by omega
              have e2 : ((my : Int) != (n : Int) - 3) = false := by rw [e1]; simp
              have hcl : cs.length = my + 3 := by have := HCN.out; omega
              have hsp := HSP.out my (by omega) HZ.out.symm
              obtain ⟨mid, hmid⟩ : ∃ mid, mid = (cs.drop 1).take my := ⟨_, rfl⟩
              obtain ⟨last, hlast⟩ : ∃ last, last = cs.getD (my + 1) [] := ⟨_, rfl⟩
              rw [← hmid, ← hlast] at hsp
              have hml : mid.length = my := by rw [hmid, List.length_take, List.length_drop, hcl]; omega
              subst hml
              have hsh : cs = a :: (mid ++ [last, []]) := by rw [hsp]; simp
              have HR2 : Hid (r = restOf s.data.toList ex last (flowsOf mid)) := Lib.hid (HRR.out a last mid ex hsh HHO.out)
              have hgl := HGL.out (a :: mid ++ [last]) (by rw [hsp])
              have hsz : s.size = a.length + 1 + (mid.flatMap fun l => l ++ [10]).length + (last.length + 1) := by
                have h1 := congrArg List.length hgl
                rw [hlen, List.flatMap_append] at h1
                simp only [List.flatMap_cons, List.flatMap_nil, List.append_nil, List.length_append, List.length_singleton] at h1
                omega
              have HCM : Hid (∀ k (hk : k < mid.length), cs[k + 1]? = some mid[k]) := Lib.hid fun k hk => by
                rw [hsh, List.getElem?_cons_succ, List.getElem?_append_left hk, List.getElem?_eq_getElem hk]
              have hcl1 : cs[mid.length + 1]? = some last := by
                rw [hsh, List.getElem?_cons_succ, List.getElem?_append_right (Nat.le_refl _), Nat.sub_self]; rfl
              have hc00 : cs[0]? = some a := by rw [hsh]; rfl
              have HPM : Hid (∀ k (hk : k < mid.length), mid[k].length ≤ 20000) := Lib.hid fun k hk => HPS.out _ (by rw [hsh]; exact List.mem_cons_of_mem _ (List.mem_append_left _ (List.getElem_mem hk)))
              have hll : last.length ≤ 20000 := HPS.out last (by rw [hsh]; simp)
              have hn2 : (n : Int) = (mid.length : Int) + 3 := by omega
              have ca2 : w2.cell? ⟨g1, 0, none⟩ = some (.string ⟨a.toArray⟩) := HCW.out w2 (Below.refl _ _) 0 a hc00
              have HLAST : Hid (∀ W, Below w2.heap.size w2 W → W.cell? ⟨g1, mid.length + 1, none⟩ = some (.string ⟨last.toArray⟩)) := Lib.hid fun W hW => HCW.out W hW _ _ hcl1
              have HMID : Hid (∀ W, Below w2.heap.size w2 W → ∀ k (hk : k < mid.length), W.cell? ⟨g1, k + 1, none⟩ = some (.string ⟨mid[k].toArray⟩)) := Lib.hid fun W hW k hk => HCW.out W hW _ _ (HCM.out k hk)
              have HR3 : Hid (∀ i (hi : i < mid.length), flowOf mid[i] = none → r = .bad ⟨1, none⟩) := Lib.hid fun i hi hn => by rw [HR2.out, flowsOf_bad hi hn]; rfl
              have HSU : Hid (∀ i (hi : i < mid.length) L p, flowsOf (mid.take i) = some L → flowOf mid[i] = some p → flowsOf (mid.take (i + 1)) = some (L ++ [⟨p.1, ⟨p.2.1.toArray⟩, (p.2.2 : Int)⟩])) := Lib.hid fun i hi L p h1 h2 => flowsOf_succ hi h1 h2
              have HFL : Hid (∀ i, i ≤ mid.length → ((mid.take i).flatMap fun l => l ++ [10]).length ≤ (mid.flatMap fun l => l ++ [10]).length) := Lib.hid fun i _ => by
                conv => rhs; rw [← List.take_append_drop i mid, List.flatMap_append, List.length_append]
                omega
              have HFS : Hid (∀ i (hi : i < mid.length), ((mid.take (i + 1)).flatMap fun l => l ++ [10]).length = ((mid.take i).flatMap fun l => l ++ [10]).length + mid[i].length + 1) := Lib.hid fun i hi => by
                rw [List.take_succ_eq_append_getElem hi, List.flatMap_append]
                simp only [List.length_append, List.flatMap_cons, List.flatMap_nil, List.append_nil, List.length_singleton]
                omega
              obtain ⟨i0, hi0, hz0, hz1, hz2⟩ := info_parts info_flow
              have HSZ := Lib.hid hsz
              have HGLL := Lib.hid hgl
              clear HRH HRS HRR HSP HGL HPS HZ HCW hsp hmid hlast hsh hgl hcl hcl1 hc00 HHO HCM e1 hmn hsz HCN
              have hn1' : mid.length ≤ 19998 := by omega
              go_wp2_with fail
              clear ca2 e2
              go_loopw [10, 11, 12, 13, 14, 15, 16] (fun ov hv iv _ _ _ _ wr => ∃ (k : Nat) (L : List Fl), k ≤ mid.length ∧ iv = .int .i64 ((k : Int) + 1) ∧ hv = .int .i64 ((a.length + 1 + ((mid.take k).flatMap fun l => l ++ [10]).length : Nat) : Int) ∧ Hid (flowsOf (mid.take k) = some L ∧ L.length = k ∧ wr.ownsRow w2.heap.size 43 3 ov k (flsC L)) ∧ Hid (Below w2.heap.size w2 wr)) (fun _ _ iv _ _ _ _ _ => mid.length + 2 - (intOf iv).toNat)
              case atStart => exact ⟨0, [], Nat.zero_le _, rfl, by simp, Lib.hid ⟨rfl, rfl, World.ownsRow_nil _ _ _ _⟩, Lib.hid (Below.refl _ _)⟩
              case round =>
                obtain ⟨k, L, hk, rfl, rfl, hL, hb⟩ := hrel
                have hbs := hb.out.size
                have hb0r := hb02.trans (hb.out.mono hb02.size)
                by_cases hlt : k < mid.length
                · have hlt2 : (k : Int) + 1 < (n : Int) - 2 := by omega
                  have hkn : (k : Int) + 1 < (n : Int) := by omega
                  have hkt : ((k : Int) + 1).toNat = k + 1 := by omega
                  have cm := HMID.out wr hb.out k hlt
                  have htl := HPM.out k hlt
                  have hfl := HFL.out k hk
                  have HFSk := Lib.hid (HFS.out k hlt)
                  have HR3k := Lib.hid (HR3.out k hlt)
                  have HSUk := Lib.hid (HSU.out k hlt L)
                  have hszo := HSZ.out
                  have hfk : a.length + 1 + ((mid.take k).flatMap fun l => l ++ [10]).length ≤ 20000 := by omega
                  clear hfl hszo
                  generalize hfe : a.length + 1 + ((mid.take k).flatMap fun l => l ++ [10]).length = fk at *
                  have HFE : Hid (a.length + 1 + ((mid.take (k + 1)).flatMap fun l => l ++ [10]).length = fk + mid[k].length + 1) := Lib.hid (by rw [HFSk.out]; omega)
                  generalize mid[k] = t at *
                  have htz : (⟨t.toArray⟩ : ByteArray).size = t.length := by simp [ByteArray.size]
                  have HCT := Lib.hid (cut_any ⟨t.toArray⟩ 32 (by omega) wr)
                  rw [show (⟨t.toArray⟩ : ByteArray).data.toList = t from rfl] at HCT
                  have HPT := Lib.hid (fun p (hp : p ∈ cuts 32 t) => piece_size hp)
                  have HTL := Lib.hid (flowOf_len (a := t))
                  have HTN := Lib.hid (fun b x y => flowOf_three (a := t) (b := b) (x := x) (y := y))
                  have htne := cuts_ne 32 t
                  generalize cuts 32 t = ws at *
                  have hwn : 0 < ws.length := by
                    cases ws with
                    | nil => exact absurd rfl htne
                    | cons => simp
                  clear htz htne HFSk hfe
                  go_wp2_with fail
                  refine HCT.out.mono ?_
                  rintro e w3 ⟨v3, rfl, hv3, hb3⟩
                  obtain ⟨g3, cap3, rfl, hcap3, hg3, hgb3, hcell3⟩ := tx_cells hv3 hwn
                  have hb03 := hb0r.trans (hb3.mono hb0r.size)
                  have hb23 := hb.out.trans (hb3.mono hbs)
                  have HO : Hid (∀ W, Below w3.heap.size w3 W → W.ownsRow w2.heap.size 43 3 u10 L.length (flsC L)) := Lib.hid fun W hW => by
                    have := own_below (own_below hL.out.2.2 hb3) hW
                    rwa [hL.out.2.1]
                  have HLk := Lib.hid hL.out.2.1
                  have HL1 := Lib.hid hL.out.1
                  clear hv3 hL HCT cm
                  by_cases hw3 : ws.length = 3
                  · obtain ⟨b2, x2, y2, rfl⟩ := three_of hw3
                    have cb := hcell3 0 b2 rfl
                    have cx := hcell3 1 x2 rfl
                    have cy := hcell3 2 y2 rfl
                    have hbl := HPT.out b2 (by simp)
                    have hyl := HPT.out y2 (by simp)
                    have HF3 := Lib.hid (HTN.out b2 x2 y2 rfl)
                    clear hcell3 hw3 hwn HPT HTL HTN
                    by_cases hx0 : x2 = []
                    · subst hx0
                      have HQ := Lib.hid (HR3k.out (by rw [HF3.out, if_pos rfl]))
                      clear HF3
                      go_wp2_with fail
                      refine (bare_any _ _).mono ?_
                      rintro e wz ⟨rfl, hbz⟩
                      obtain ⟨c0, c1, f0, f1, hz, hbw⟩ := HBK.out _ (below_two hb03 hbz)
                      have HBW := Lib.hid hbw
                      clear hbw hbz
                      go_wp2
                      refine bodyPost_ret (v := .tuple #[.int .i64 0, .slice none 0 0, retFault (some ⟨1, none⟩)]) (by simp [results, Tryz.results147, go_sem, retFault, fCode, fAt, c0, c1]) rfl (carBad HQ.out rfl ?_)
                      exact (HBW.out.setCell (p := ⟨w.heap.size, 0, none⟩) (Nat.le_refl _) _).setCell (p := ⟨w.heap.size, 1, none⟩) (Nat.le_refl _) _
                    · have hxe : (x2 == []) = false := beq_false_of_ne hx0
                      have hys : (⟨y2.toArray⟩ : ByteArray).size = y2.length := by simp [ByteArray.size]
                      have HKY := Lib.hid (fun W => keyOf_any ⟨b2.toArray⟩ 16 (by omega) (by omega) W)
                      have HNY := Lib.hid (fun W => numberOfR_any ⟨y2.toArray⟩ (by omega) W)
                      rw [show (⟨b2.toArray⟩ : ByteArray).data.toList = b2 from rfl] at HKY
                      rw [show (⟨y2.toArray⟩ : ByteArray).data.toList = y2 from rfl] at HNY
                      unfold NumIsR at HNY
                      unfold KeyOfIs at HKY
                      have HF4 := Lib.hid (HF3.out.trans (if_neg hx0))
                      clear HF3 hys hx0 hbl hyl
                      generalize Hex.keyOf b2 16 = ko at *
                      cases ko with
                      | none =>
                        have HQ := Lib.hid (HR3k.out (by rw [HF4.out]))
                        clear HF4
                        go_wp2_with fail
                        refine (HKY.out w3).mono ?_
                        rintro e w4 ⟨rfl, rfl⟩
                        go_wp2_with fail
                        refine (HNY.out w3).mono ?_
                        rintro e w4 ⟨rfl, rfl⟩
                        go_wp2_with fail
                        refine (bare_any _ _).mono ?_
                        rintro e wz ⟨rfl, hbz⟩
                        obtain ⟨c0, c1, f0, f1, hz, hbw⟩ := HBK.out _ (below_two hb03 hbz)
                        have HBW := Lib.hid hbw
                        clear hbw hbz
                        go_wp2
                        refine bodyPost_ret (v := .tuple #[.int .i64 0, .slice none 0 0, retFault (some ⟨1, none⟩)]) (by simp [results, Tryz.results147, go_sem, retFault, fCode, fAt, c0, c1]) rfl (carBad HQ.out rfl ?_)
                        exact (HBW.out.setCell (p := ⟨w.heap.size, 0, none⟩) (Nat.le_refl _) _).setCell (p := ⟨w.heap.size, 1, none⟩) (Nat.le_refl _) _
                      | some kk =>
                        cases hny : numOf y2 with
                        | none =>
                          have HQ := Lib.hid (HR3k.out (by rw [HF4.out, hny]))
                          rw [numI_no hny] at HNY
                          clear HF4
                          go_wp2_with fail
                          refine (HKY.out w3).mono ?_
                          rintro e w4 ⟨rfl, rfl⟩
                          go_wp2_with fail
                          refine (HNY.out w3).mono ?_
                          rintro e w4 ⟨rfl, rfl⟩
                          go_wp2_with fail
                          refine (bare_any _ _).mono ?_
                          rintro e wz ⟨rfl, hbz⟩
                          obtain ⟨c0, c1, f0, f1, hz, hbw⟩ := HBK.out _ (below_two hb03 hbz)
                          have HBW := Lib.hid hbw
                          clear hbw hbz
                          go_wp2
                          refine bodyPost_ret (v := .tuple #[.int .i64 0, .slice none 0 0, retFault (some ⟨1, none⟩)]) (by simp [results, Tryz.results147, go_sem, retFault, fCode, fAt, c0, c1]) rfl (carBad HQ.out rfl ?_)
                          exact (HBW.out.setCell (p := ⟨w.heap.size, 0, none⟩) (Nat.le_refl _) _).setCell (p := ⟨w.heap.size, 1, none⟩) (Nat.le_refl _) _
                        | some nn =>
                          have hiy : numI y2 = (nn : Int) := by unfold numI; rw [hny]
                          rw [hiy] at HNY
                          have HN := Lib.hid (HSUk.out (kk, x2, nn) HL1.out (by rw [HF4.out, hny]))
                          clear HF4 hny hiy
                          have HB4 := Lib.hid ((Below.refl w3.heap.size w3).alloc (Nat.le_refl _) (.cells #[.int .u64 (kk : Int), .string ⟨x2.toArray⟩, .int .i64 (nn : Int)] 43))
                          have HB24 := Lib.hid (hb23.trans (HB4.out.mono hb23.size))
                          have hs23 := hb23.size
                          have hLn : L.length ≤ 20000 := by have := HLk.out; omega
                          go_wp2_with fail
                          refine (HKY.out w3).mono ?_
                          rintro e w4 ⟨rfl, rfl⟩
                          go_wp2_with fail
                          refine (HNY.out w3).mono ?_
                          rintro e w4 ⟨rfl, rfl⟩
                          clear HKY HNY
                          go_wp2_with (first
                            | (at_builtin
                               go_must (refine wpList_append_own _ rfl _ _ 40 rfl w2.heap.size 43 i0 _ 3 32 Tryz.underlying40 hi0 hz0 hz1 hz2 rfl (by decide) _ L.length (flsC L) rfl (HO.out _ HB4.out) ⟨w3.heap.size, 0, none⟩ 1 1 (flC ⟨kk, ⟨x2.toArray⟩, (nn : Int)⟩) rfl rfl (fl_cell1 w3 ⟨kk, ⟨x2.toArray⟩, (nn : Int)⟩) (flC_oneCell _) ?h1 ?h2 ?h3 ?_)
                               case h1 => simp only [maxLen]; omega
                               case h2 => omega
                               case h3 => simp; omega
                               intro v6 w6 hown6 hg6 _)
                            | fail)
                          have hown7 : w6.ownsRow w2.heap.size 43 3 v6 (k + 1) (flsC (L ++ [⟨kk, ⟨x2.toArray⟩, (nn : Int)⟩])) := by
                            rw [flsC_append, ← HLk.out]
                            simpa [flsC] using hown6
                          have hb6 := HB24.out.grown hg6 HB24.out.size (fun g e => ((HO.out _ HB4.out).lt g e).1)
                          go_roundw
                          case rel => exact ⟨k + 1, L ++ [⟨kk, ⟨x2.toArray⟩, (nn : Int)⟩], by omega, by norm_cast, by rw [HFE.out]; norm_cast, Lib.hid ⟨HN.out, by rw [List.length_append, List.length_singleton, HLk.out], hown7⟩, Lib.hid hb6⟩
                          case measure => simp [intOf]; omega
                  · have HQ := Lib.hid (HR3k.out (HTL.out hw3))
                    have hw3' : ¬ (ws.length : Int) = 3 := by omega
                    clear hcell3 HPT HTL HTN
                    generalize ws.length = wl at *
                    go_wp2_with fail
                    refine (bare_any _ _).mono ?_
                    rintro e wz ⟨rfl, hbz⟩
                    obtain ⟨c0, c1, f0, f1, hz, hbw⟩ := HBK.out _ (below_two hb03 hbz)
                    have HBW := Lib.hid hbw
                    clear hbw hbz
                    go_wp2
                    refine bodyPost_ret (v := .tuple #[.int .i64 0, .slice none 0 0, retFault (some ⟨1, none⟩)]) (by simp [results, Tryz.results147, go_sem, retFault, fCode, fAt, c0, c1]) rfl (carBad HQ.out rfl ?_)
                    exact (HBW.out.setCell (p := ⟨w.heap.size, 0, none⟩) (Nat.le_refl _) _).setCell (p := ⟨w.heap.size, 1, none⟩) (Nat.le_refl _) _
                · have hkm : k = mid.length := by omega
                  subst hkm
                  have hge : ¬ (mid.length : Int) + 1 < (n : Int) - 2 := by omega
                  have cl := HLAST.out wr hb.out
                  obtain ⟨hL1, hL2, hown⟩ := hL.out
                  rw [List.take_length] at hL1
                  have HR5 : Hid (r = restOf s.data.toList ex last (some L)) := Lib.hid (by rw [HR2.out, hL1])
                  obtain ⟨hmk, hLu⟩ := flowsOf_some hL1
                  have HLs : Hid (∀ x ∈ L, x.host.size ≤ maxLen) := Lib.hid fun x hx => by
                    have h1 : flowLine x ∈ mid := by rw [hmk]; exact List.mem_map_of_mem hx
                    obtain ⟨j, hj, hjx⟩ := List.mem_iff_getElem.1 h1
                    have h2 := HPM.out j hj
                    rw [hjx] at h2
                    have h3 := flow_host (x := x) rfl
                    unfold maxLen
                    omega
                  have hLn : L.length ≤ 20000 := by omega
                  have hszo := HSZ.out
                  have hAH : a.length + 1 + ((mid.take mid.length).flatMap fun l => l ++ [10]).length = s.data.toList.length - last.length - 1 := by
                    rw [List.take_length]; omega
                  generalize hfe : a.length + 1 + ((mid.take mid.length).flatMap fun l => l ++ [10]).length = fk at *
                  have hfs : fk ≤ s.size := by omega
                  have HAH := Lib.hid hAH
                  have hlz : (⟨last.toArray⟩ : ByteArray).size = last.length := by simp [ByteArray.size]
                  have HCT := Lib.hid (cut_any ⟨last.toArray⟩ 32 (by omega) wr)
                  rw [show (⟨last.toArray⟩ : ByteArray).data.toList = last from rfl] at HCT
                  have HPT := Lib.hid (fun p (hp : p ∈ cuts 32 last) => piece_size hp)
                  have HSY := Lib.hid (fun t => sumOf_words (l := last) (t := t))
                  have HSN := Lib.hid (sumOf_none (l := last))
                  have htne := cuts_ne 32 last
                  generalize cuts 32 last = ws at *
                  have hwn : 0 < ws.length := by
                    cases ws with
                    | nil => exact absurd rfl htne
                    | cons => simp
                  have HOW := Lib.hid hown
                  have HLU := Lib.hid hLu
                  have HL2 := Lib.hid hL2
                  clear htne hL1 hmk hLu hfe hAH hszo hlz HR2 HR3 HSU HFL HFS HMID HLAST hL2 hown hL
                  go_wp2_with fail
                  refine HCT.out.mono ?_
                  rintro e w3 ⟨v3, rfl, hv3, hb3⟩
                  obtain ⟨g3, cap3, rfl, hcap3, hg3, hgb3, hcell3⟩ := tx_cells hv3 hwn
                  have hb03 := hb0r.trans (hb3.mono hb0r.size)
                  have hb23 := hb.out.trans (hb3.mono hbs)
                  clear hv3 HCT cl
                  by_cases hw2 : ws.length = 2
                  · obtain ⟨b2, t2, rfl⟩ := two_of hw2
                    have cb := hcell3 0 b2 rfl
                    have ct := hcell3 1 t2 rfl
                    have htl := HPT.out t2 (by simp)
                    clear hcell3 hw2 hwn HPT
                    by_cases hbs3 : b2 = [115, 117, 109]
                    · subst hbs3
                      have HS := Lib.hid (HSY.out t2 rfl)
                      have HKY := Lib.hid (fun W => keyOf_any ⟨t2.toArray⟩ 8 (by omega) (by omega) W)
                      rw [show (⟨t2.toArray⟩ : ByteArray).data.toList = t2 from rfl] at HKY
                      unfold KeyOfIs at HKY
                      clear HSY HSN
                      generalize Hex.keyOf t2 8 = ko at *
                      cases ko with
                      | none =>
                        have HQ : Hid (r = .bad ⟨1, none⟩) := Lib.hid (by rw [HR5.out]; simp only [restOf, HS.out])
                        go_wp2_with fail
                        refine (HKY.out w3).mono ?_
                        rintro e w4 ⟨rfl, rfl⟩
                        go_wp2_with fail
                        refine (bare_any _ _).mono ?_
                        rintro e wz ⟨rfl, hbz⟩
                        obtain ⟨c0, c1, f0, f1, hz, hbw⟩ := HBK.out _ (below_two hb03 hbz)
                        have HBW := Lib.hid hbw
                        clear hbw hbz
                        go_wp2
                        refine bodyPost_ret (v := .tuple #[.int .i64 0, .slice none 0 0, retFault (some ⟨1, none⟩)]) (by simp [results, Tryz.results147, go_sem, retFault, fCode, fAt, c0, c1]) rfl (carBad HQ.out rfl ?_)
                        exact (HBW.out.setCell (p := ⟨w.heap.size, 0, none⟩) (Nat.le_refl _) _).setCell (p := ⟨w.heap.size, 1, none⟩) (Nat.le_refl _) _
                      | some v =>
                        obtain ⟨q, hq⟩ : ∃ q, q = Crc.sum (s.data.toList.take (s.data.toList.length - last.length - 1)) := ⟨_, rfl⟩
                        have HR6 : Hid (r = if v = q then (match checkOf (ex : Int) L with | some f => .bad f | none => .good ex L) else .bad ⟨9, none⟩) := Lib.hid (by rw [HR5.out]; simp only [restOf, HS.out]; rw [hq]; cases checkOf (ex : Int) L <;> rfl)
                        have HSM : Hid (∀ W, Calls Tryz.prog 183 #[.string (s.extract 0 fk)] W fun e w' => e = .returned (.int .u64 (q : Int)) ∧ W = w') := Lib.hid fun W => by
                          have h1 := refCrc_any (s.extract 0 fk) W (by rw [ByteArray.size_extract]; unfold maxLen; omega)
                          have h2 : (s.extract 0 fk).data.toList = s.data.toList.take (s.data.toList.length - last.length - 1) := by
                            rw [ByteArray.data_extract, Array.toList_extract, List.extract_eq_take_drop, HAH.out]
                            simp
                          rw [h2, ← hq] at h1
                          exact h1
                        clear HR5 HS hq
                        go_wp2_with fail
                        refine (HKY.out w3).mono ?_
                        rintro e w4 ⟨rfl, rfl⟩
                        clear HKY cb ct
                        go_wp2_with fail
                        refine (HSM.out w3).mono ?_
                        rintro e w4 ⟨rfl, rfl⟩
                        by_cases hvq : v = q
                        · subst hvq
                          have HR7 : Hid (r = match checkOf (ex : Int) L with | some f => .bad f | none => .good ex L) := Lib.hid (by rw [HR6.out, if_pos rfl])
                          have hown3 := own_below HOW.out hb3
                          rw [← HL2.out] at hown3
                          have HO := Lib.hid hown3
                          obtain ⟨A9, cp9, hu10, hrd, _⟩ := own_slice hown3
                          subst hu10
                          have HCF := Lib.hid (refCarFault_any (ex : Int) A9 cp9 w3.heap.size L w3 hrd (Nat.le_refl _) (by unfold maxLen; omega) HLs.out)
                          unfold FaultPost at HCF
                          clear hown3 hrd HSM HR6
                          have hL9 : (L.length : Int) = (mid.length : Int) := by rw [HL2.out]
                          clear hL9
                          cases hco : checkOf (ex : Int) L with
                          | some f =>
                            rw [hco] at HCF
                            have HQ : Hid (r = .bad f) := Lib.hid (by rw [HR7.out, hco])
                            have hfc : 0 < fCode (some f) := (checkOf_code' hco)
                            have HRF : Hid (retFault (some f) = .agg #[.int .i64 (fCode (some f) : Int), .int .i64 (fAt (some f))]) := Lib.hid rfl
                            clear hco
                            generalize fCode (some f) = fc at *
                            generalize fAt (some f) = fa at *
                            go_wp2_with fail
                            refine HCF.out.mono ?_
                            rintro e w5 ⟨rfl, hb5⟩
                            have hb05 := hb03.trans (hb5.mono hb03.size)
                            have hb06 := hb05.alloc hb05.size (.cells #[.int .i64 (fc : Int), .int .i64 fa] 87)
                            obtain ⟨c0, c1, f0, f1, hz, hbw⟩ := HBK.out _ hb06
                            have HBW := Lib.hid hbw
                            clear hbw hb05 hb06 hb5
                            go_wp2_with fail
                            go_region
                            all_goals
                              go_wp2
                              refine bodyPost_ret (v := .tuple #[.int .i64 0, .slice none 0 0, .agg #[.int .i64 (fc : Int), .int .i64 fa]]) (by simp [results, Tryz.results147, go_sem, c0, c1]) rfl (carBad HQ.out (by rw [HRF.out]) ?_)
                              exact bl_drew ((HBW.out.setCell (p := ⟨w.heap.size, 0, none⟩) (Nat.le_refl _) _).setCell (p := ⟨w.heap.size, 1, none⟩) (Nat.le_refl _) _)
                          | none =>
                            rw [hco] at HCF
                            have HQ : Hid (r = .good ex L) := Lib.hid (by rw [HR7.out, hco])
                            clear hco
                            have g0 : (fCode none : Int) = 0 := rfl
                            have g1 : fAt none = -1 := rfl
                            rw [g0, g1] at HCF
                            clear g0 g1
                            go_wp2_with fail
                            refine HCF.out.mono ?_
                            rintro e w5 ⟨rfl, hb5⟩
                            have hb05 := hb03.trans (hb5.mono hb03.size)
                            have hb06 := hb05.alloc hb05.size (.cells #[.int .i64 0, .int .i64 (-1)] 87)
                            obtain ⟨c0, c1, f0, f1, hz, hbw⟩ := HBK.out _ hb06
                            have HBW := Lib.hid hbw
                            have hw2s := (HBK.out _ hb02).2.2.2.2.1
                            have HO5 := Lib.hid (own_below HO.out (hb5.trans (((Below.refl w5.heap.size w5).alloc (Nat.le_refl _) (.cells #[.int .i64 0, .int .i64 (-1)] 87)).mono hb5.size)))
                            clear hbw hb05 hb06 hb5
                            go_wp2_with fail
                            go_region
                            all_goals
                              go_wp2
                              refine bodyPost_ret (v := .tuple #[.int .i64 (ex : Int), .slice A9 L.length cp9, retFault none]) (by simp [results, Tryz.results147, go_sem, retFault, fCode, fAt, c0, c1]) rfl ?_
                              rw [HQ.out]
                              refine ⟨.slice A9 L.length cp9, rfl, own_base ((((Turn.refl [w.heap.size] _).setCell (p := ⟨w.heap.size, 0, none⟩) (.inl (by simp)) _).setCell (p := ⟨w.heap.size, 1, none⟩) (.inl (by simp)) _).drew.own HO5.out (fun g hg => ?_)) (Nat.le_of_lt hw2s), bl_drew ((HBW.out.setCell (p := ⟨w.heap.size, 0, none⟩) (Nat.le_refl _) _).setCell (p := ⟨w.heap.size, 1, none⟩) (Nat.le_refl _) _)⟩
                              have := (HO5.out.lt g hg).1
                              simp
                              omega
                        · have hne : ¬ (v : Int) = (q : Int) := by omega
                          have HQ : Hid (r = .bad ⟨9, none⟩) := Lib.hid (by rw [HR6.out, if_neg hvq])
                          go_wp2_with fail
                          refine (bare_any _ _).mono ?_
                          rintro e wz ⟨rfl, hbz⟩
                          obtain ⟨c0, c1, f0, f1, hz, hbw⟩ := HBK.out _ (below_two hb03 hbz)
                          have HBW := Lib.hid hbw
                          clear hbw hbz
                          go_wp2
                          refine bodyPost_ret (v := .tuple #[.int .i64 0, .slice none 0 0, retFault (some ⟨9, none⟩)]) (by simp [results, Tryz.results147, go_sem, retFault, fCode, fAt, c0, c1]) rfl (carBad HQ.out rfl ?_)
                          exact (HBW.out.setCell (p := ⟨w.heap.size, 0, none⟩) (Nat.le_refl _) _).setCell (p := ⟨w.heap.size, 1, none⟩) (Nat.le_refl _) _
                    · have HQ : Hid (r = .bad ⟨1, none⟩) := Lib.hid (by rw [HR5.out]; simp only [restOf, HSN.out (fun ⟨t, ht⟩ => hbs3 (List.cons.inj ht).1)])
                      have hbb : (b2 == [115, 117, 109]) = false := beq_false_of_ne hbs3
                      clear HSY HSN
                      go_wp2_with fail
                      refine (bare_any _ _).mono ?_
                      rintro e wz ⟨rfl, hbz⟩
                      obtain ⟨c0, c1, f0, f1, hz, hbw⟩ := HBK.out _ (below_two hb03 hbz)
                      have HBW := Lib.hid hbw
                      clear hbw hbz
                      go_wp2
                      refine bodyPost_ret (v := .tuple #[.int .i64 0, .slice none 0 0, retFault (some ⟨1, none⟩)]) (by simp [results, Tryz.results147, go_sem, retFault, fCode, fAt, c0, c1]) rfl (carBad HQ.out rfl ?_)
                      exact (HBW.out.setCell (p := ⟨w.heap.size, 0, none⟩) (Nat.le_refl _) _).setCell (p := ⟨w.heap.size, 1, none⟩) (Nat.le_refl _) _
                  · have HQ : Hid (r = .bad ⟨1, none⟩) := Lib.hid (by rw [HR5.out]; simp only [restOf, HSN.out (fun ⟨t, ht⟩ => hw2 (by rw [ht]; rfl))])
                    have hw2' : ¬ (ws.length : Int) = 2 := by omega
                    clear hcell3 HPT HSY HSN
                    generalize ws.length = wl at *
                    go_wp2_with fail
                    refine (bare_any _ _).mono ?_
                    rintro e wz ⟨rfl, hbz⟩
                    obtain ⟨c0, c1, f0, f1, hz, hbw⟩ := HBK.out _ (below_two hb03 hbz)
                    have HBW := Lib.hid hbw
                    clear hbw hbz
                    go_wp2
                    refine bodyPost_ret (v := .tuple #[.int .i64 0, .slice none 0 0, retFault (some ⟨1, none⟩)]) (by simp [results, Tryz.results147, go_sem, retFault, fCode, fAt, c0, c1]) rfl (carBad HQ.out rfl ?_)
                    exact (HBW.out.setCell (p := ⟨w.heap.size, 0, none⟩) (Nat.le_refl _) _).setCell (p := ⟨w.heap.size, 1, none⟩) (Nat.le_refl _) _
            · have HQ := Lib.hid (HRS.out _ HHO.out (fun hc => hmn (by have := HCN.out; have := hc.1; simp only at this; omega)))
              have e1 : ((my : Int) != (n : Int) - 3) = true := bne_iff_ne.2 (by omega)
              go_wp2_with fail
              refine (bare_any _ _).mono ?_
              rintro e wz ⟨rfl, hbz⟩
              obtain ⟨c0, c1, f0, f1, hz, hbw⟩ := HBK.out _ (below_two hb02 hbz)
              have HBW := Lib.hid hbw
              clear hbw hbz
              go_wp2
              refine bodyPost_ret (v := .tuple #[.int .i64 0, .slice none 0 0, retFault (some ⟨1, none⟩)]) (by simp [results, Tryz.results147, go_sem, retFault, fCode, fAt, c0, c1]) rfl (carBad HQ.out rfl ?_)
              exact (HBW.out.setCell (p := ⟨w.heap.size, 0, none⟩) (Nat.le_refl _) _).setCell (p := ⟨w.heap.size, 1, none⟩) (Nat.le_refl _) _
      · have HQ := Lib.hid (HRH.out (HHF.out b x y rfl hbf))
        have hbb : (b == [102, 108, 111, 119, 115]) = false := beq_false_of_ne hbf
        go_wp2_with fail
        refine (bare_any _ _).mono ?_
        rintro e wz ⟨rfl, hbz⟩
        obtain ⟨c0, c1, f0, f1, hz, hbw⟩ := HBK.out _ (below_two hb02 hbz)
        have HBW := Lib.hid hbw
        clear hbw hbz
        go_wp2
        refine bodyPost_ret (v := .tuple #[.int .i64 0, .slice none 0 0, retFault (some ⟨1, none⟩)]) (by simp [results, Tryz.results147, go_sem, retFault, fCode, fAt, c0, c1]) rfl (carBad HQ.out rfl ?_)
        exact (HBW.out.setCell (p := ⟨w.heap.size, 0, none⟩) (Nat.le_refl _) _).setCell (p := ⟨w.heap.size, 1, none⟩) (Nat.le_refl _) _
    · have HQ := Lib.hid (HRH.out (HHL.out hs3))
      have hs3' : ¬ (hs.length : Int) = 3 := by omega
      clear hcell2 HPA HHL HHF HHN
      generalize hs.length = hl at *
      go_wp2_with fail
      refine (bare_any _ _).mono ?_
      rintro e wz ⟨rfl, hbz⟩
      obtain ⟨c0, c1, f0, f1, hz, hbw⟩ := HBK.out _ (below_two hb02 hbz)
      have HBW := Lib.hid hbw
      clear hbw hbz
      go_wp2
      refine bodyPost_ret (v := .tuple #[.int .i64 0, .slice none 0 0, retFault (some ⟨1, none⟩)]) (by simp [results, Tryz.results147, go_sem, retFault, fCode, fAt, c0, c1]) rfl (carBad HQ.out rfl ?_)
      exact (HBW.out.setCell (p := ⟨w.heap.size, 0, none⟩) (Nat.le_refl _) _).setCell (p := ⟨w.heap.size, 1, none⟩) (Nat.le_refl _) _
  · have HQ := Lib.hid (HL.out (fun hc => hzz hc.2))
    have hzb : (z == []) = false := beq_false_of_ne hzz
    go_wp2_with fail
    refine (bare_any _ _).mono ?_
    rintro e wz ⟨rfl, hbz⟩
    obtain ⟨c0, c1, f0, f1, hz, hbw⟩ := HBK.out _ (below_two hb1 hbz)
    have HBW := Lib.hid hbw
    clear hbw hbz
    go_wp2
    refine bodyPost_ret (v := .tuple #[.int .i64 0, .slice none 0 0, retFault (some ⟨1, none⟩)]) (by simp [results, Tryz.results147, go_sem, retFault, fCode, fAt, c0, c1]) rfl (carBad HQ.out rfl ?_)
    exact (HBW.out.setCell (p := ⟨w.heap.size, 0, none⟩) (Nat.le_refl _) _).setCell (p := ⟨w.heap.size, 1, none⟩) (Nat.le_refl _) _
theorem carryOf_any (s : ByteArray) (w : World) : Calls Tryz.prog 147 #[.string s] w (CarOf (readOf s.data.toList) w) := by
  by_cases h : 20000 < s.size
  · exact of_long s w h
  · exact of_rest s w h
end Go.Proofs.YteilefpjfbholaaGreatDoor
