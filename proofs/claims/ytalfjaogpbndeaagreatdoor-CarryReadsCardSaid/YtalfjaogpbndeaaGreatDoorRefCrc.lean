/-
  The walk of the reference's CRC.
-/
import Derived.Test.YtalfjaogpbndeaaGreatDoorCrcAll
namespace Go.Proofs.YtalfjaogpbndeaaGreatDoor
open Go.RowKit

/-- The reference's sum behind k bits of a byte. -/
def half (c : BitVec 32) (b : Nat) (k : Nat) : BitVec 32 := Crc.steps k (c ^^^ BitVec.ofNat 32 b) ^^^ BitVec.ofNat 32 (b / 2 ^ k)
theorem half_zero (c : BitVec 32) (b : Nat) : half c b 0 = c := by
  unfold half
  rw [show b / 2 ^ 0 = b by simp]
  show (c ^^^ BitVec.ofNat 32 b) ^^^ BitVec.ofNat 32 b = c
  rw [BitVec.xor_assoc, BitVec.xor_self, BitVec.xor_zero]
theorem half_end (c : BitVec 32) (b : UInt8) : half c b.toNat 8 = Crc.byte c b := by
  unfold half Crc.byte
  have := b.toNat_lt
  rw [Nat.div_eq_of_lt (by omega)]
  simp
theorem half_bit (c : BitVec 32) (b k : Nat) (hb : b < 256) : (half c b k).toNat ^^^ (b / 2 ^ k) = (Crc.steps k (c ^^^ BitVec.ofNat 32 b)).toNat := by
  have hlt : b / 2 ^ k < 4294967296 := Nat.lt_of_le_of_lt (Nat.div_le_self _ _) (by omega)
  have e : b / 2 ^ k = (BitVec.ofNat 32 (b / 2 ^ k)).toNat := by rw [BitVec.toNat_ofNat, Nat.mod_eq_of_lt hlt]
  rw [e, ← BitVec.toNat_xor]
  unfold half
  rw [BitVec.xor_assoc, BitVec.xor_self, BitVec.xor_zero]
theorem half_next (c : BitVec 32) (b k : Nat) (hb : b < 256) : half c b (k + 1) = (half c b k >>> 1) ^^^ (0xEDB88320#32 * (Crc.steps k (c ^^^ BitVec.ofNat 32 b) &&& 1#32)) := by
  have hlt : b / 2 ^ k < 4294967296 := Nat.lt_of_le_of_lt (Nat.div_le_self _ _) (by omega)
  have e : BitVec.ofNat 32 (b / 2 ^ (k + 1)) = BitVec.ofNat 32 (b / 2 ^ k) >>> 1 := by
    apply BitVec.eq_of_toNat_eq
    rw [BitVec.toNat_ushiftRight, BitVec.toNat_ofNat, BitVec.toNat_ofNat, Nat.mod_eq_of_lt hlt, Nat.shiftRight_eq_div_pow, Nat.pow_succ, ← Nat.div_div_eq_div_mul, Nat.mod_eq_of_lt (by omega)]
  unfold half
  rw [e, BitVec.ushiftRight_xor_distrib]
  show Crc.step _ ^^^ _ = _
  unfold Crc.step
  generalize Crc.steps k (c ^^^ BitVec.ofNat 32 b) = s
  generalize BitVec.ofNat 32 (b / 2 ^ k) = t
  rw [BitVec.xor_assoc, BitVec.xor_assoc, BitVec.xor_comm (t >>> 1)]
theorem half_even (c : BitVec 32) (b k : Nat) (hb : b < 256) (h : ((half c b k).toNat ^^^ (b / 2 ^ k)) % 2 = 0) : (half c b (k + 1)).toNat = (half c b k).toNat / 2 := by
  rw [half_bit c b k hb] at h
  rw [half_next c b k hb]
  have e : Crc.steps k (c ^^^ BitVec.ofNat 32 b) &&& 1#32 = 0#32 := by
    apply BitVec.eq_of_toNat_eq
    rw [BitVec.toNat_and]
    show _ &&& 1 = _
    rw [Nat.and_one_is_mod, h]
    rfl
  rw [e]
  simp [Nat.shiftRight_eq_div_pow]
theorem half_odd (c : BitVec 32) (b k : Nat) (hb : b < 256) (h : ((half c b k).toNat ^^^ (b / 2 ^ k)) % 2 = 1) : (half c b (k + 1)).toNat = ((half c b k).toNat / 2) ^^^ 3988292384 := by
  rw [half_bit c b k hb] at h
  rw [half_next c b k hb]
  have e : Crc.steps k (c ^^^ BitVec.ofNat 32 b) &&& 1#32 = 1#32 := by
    apply BitVec.eq_of_toNat_eq
    rw [BitVec.toNat_and]
    show _ &&& 1 = _
    rw [Nat.and_one_is_mod, h]
    rfl
  rw [e, BitVec.toNat_xor, BitVec.toNat_ushiftRight, Nat.shiftRight_eq_div_pow]
  rfl
theorem xor64 (a b : Nat) (ha : a < 4294967296) (hb : b < 4294967296) : bits .xor .i64 (a : Int) (b : Int) = ((a ^^^ b : Nat) : Int) := by
  have h : a ^^^ b < 2 ^ 32 := Nat.xor_lt_two_pow (by omega) (by omega)
  have e3 : (BitVec.ofNat 64 a ^^^ BitVec.ofNat 64 b : BitVec 64).toNat = a ^^^ b := by
    rw [BitVec.toNat_xor, BitVec.toNat_ofNat, BitVec.toNat_ofNat, Nat.mod_eq_of_lt (by omega), Nat.mod_eq_of_lt (by omega)]
  have e1 : BitVec.ofInt 64 (a : Int) = BitVec.ofNat 64 a := by simp
  have e2 : BitVec.ofInt 64 (b : Int) = BitVec.ofNat 64 b := by simp
  simp only [bits, IntKind.bits, e1, e2]
  show IntKind.i64.wrap (((BitVec.ofNat 64 a ^^^ BitVec.ofNat 64 b : BitVec 64).toNat : Nat) : Int) = _
  rw [e3]
  exact IntWalk.i64_in _ (by omega)
set_option maxHeartbeats 1000000 in
theorem refCrc_any (s : ByteArray) (w : World) (hs : s.size ≤ maxLen) :
    Calls Tryz.prog 33 #[.string s] w fun e w' => e = .returned (.int .u64 (Crc.sum s.data.toList : Int)) ∧ w = w' := by
  unfold maxLen at hs
  go_enter Tryz.func33, Tryz.ntmps33
  go_wp2
  go_loop [3, 4, 5, 6] (fun cv iv _ _ => ∃ (i : Nat) (c : BitVec 32), i ≤ s.size ∧ iv = .int .i64 (i : Int) ∧ Hid (c = Crc.crc (s.data.toList.take i)) ∧ cv = .int .i64 (c.toNat : Int)) (fun _ iv _ _ => s.size - (intOf iv).toNat)
  case atStart => exact ⟨0, 0xFFFFFFFF#32, Nat.zero_le _, rfl, Lib.hid rfl, rfl⟩
  case round =>
    obtain ⟨i, c, hi, rfl, hc, rfl⟩ := hrel
    by_cases hlt : i < s.size
    · have hlt2 : (i : Int) < s.size := by omega
      have hsn := Lib.hid (take_snocB s i hlt)
      have hb8 := s[i].toNat_lt
      go_wp2
      go_loop [3, 5, 6] (fun cv jv _ => ∃ j : Nat, j ≤ 8 ∧ jv = .int .i64 (j : Int) ∧ cv = .int .i64 ((half c s[i].toNat j).toNat : Int)) (fun _ jv _ => 8 - (intOf jv).toNat)
      case atStart => exact ⟨0, Nat.zero_le _, rfl, by rw [half_zero]⟩
      case round =>
        obtain ⟨j, hj, rfl, rfl⟩ := hrel
        by_cases hl8 : j < 8
        · have hl8' : (j : Int) < 8 := by omega
          have hA := (half c s[i].toNat j).isLt
          have hBd : s[i].toNat / 2 ^ j < 4294967296 := Nat.lt_of_le_of_lt (Nat.div_le_self _ _) (by omega)
          have kx := xor64 (half c s[i].toNat j).toNat (s[i].toNat / 2 ^ j) hA hBd
          rw [show ((s[i].toNat / 2 ^ j : Nat) : Int) = (s[i].toNat : Int) / 2 ^ j by push_cast; rfl] at kx
          have ky := xor64 ((half c s[i].toNat j).toNat / 2) 3988292384 (by omega) (by omega)
          rw [show (((half c s[i].toNat j).toNat / 2 : Nat) : Int) = ((half c s[i].toNat j).toNat : Int) / 2 by omega] at ky
          have KX := Lib.hid kx
          have KY := Lib.hid ky
          have HE := Lib.hid (half_even c s[i].toNat j hb8)
          have HO := Lib.hid (half_odd c s[i].toNat j hb8)
          clear kx ky hA hBd
          go_wp2
          · rename_i hh
            rw [KX.out, beq_iff_eq, Int.tmod_eq_emod_of_nonneg (Int.natCast_nonneg _)] at hh
            have h1 := HO.out (by omega)
            refine ⟨⟨j + 1, by omega, by norm_cast, ?_⟩, by simp [intOf]; omega⟩
            rw [h1]
            exact congrArg (Value.int .i64) KY.out
          · rename_i hh
            rw [KX.out, Int.tmod_eq_emod_of_nonneg (Int.natCast_nonneg _)] at hh
            have hh2 := ne_of_beq_false hh
            have h1 := HE.out (by omega)
            refine ⟨⟨j + 1, by omega, by norm_cast, ?_⟩, by simp [intOf]; omega⟩
            rw [h1]
            exact congrArg (Value.int .i64) (by omega)
        · have hl8' : ¬ (j : Int) < 8 := by omega
          obtain rfl : j = 8 := by omega
          go_wp2
          refine ⟨⟨i + 1, half c s[i].toNat 8, by omega, by norm_cast, ?_, rfl⟩, by simp [intOf]; omega⟩
          exact Lib.hid (by rw [hsn.out, crc_snoc, ← hc.out, half_end])
    · have hge : ¬ (i : Int) < s.size := by omega
      have hk := hc.out
      rw [List.take_of_length_le (by simpa using (by omega : s.size ≤ i))] at hk
      have hcl := c.isLt
      have ky := Lib.hid (xor64 c.toNat 4294967295 hcl (by omega))
      have hnot : c.toNat ^^^ 4294967295 = (~~~ c).toNat := by
        have : (4294967295#32 ^^^ c) = ~~~ c := BitVec.allOnes_xor
        rw [← this, BitVec.toNat_xor, Nat.xor_comm]
        rfl
      have hl2 := (~~~ c).isLt
      have HS : Hid (((c.toNat ^^^ 4294967295 : Nat) : Int) = (Crc.sum s.data.toList : Int)) := Lib.hid (by rw [hnot, hk]; rfl)
      have hsl := Crc.sum_lt s.data.toList
      clear hnot hl2 hk hc
      go_wp2
      refine bodyPost_ret (by simp [results, Tryz.results33, go_sem]; rfl) rfl ⟨ret_u64c ?_, rfl⟩
      have e1 := ky.out.trans HS.out
      rw [show ((4294967295 : Nat) : Int) = 4294967295 from rfl] at e1
      rw [e1]
      simp [IntKind.wrap, IntKind.bits, IntKind.signed]
      omega
end Go.Proofs.YtalfjaogpbndeaaGreatDoor
