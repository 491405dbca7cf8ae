/-
  The walk of carry's sum.
-/
import Derived.Test.YtalfjaogpbndeaaDoorBase
import Derived.Test.YtalfjaogpbndeaaDoorCrcPlain
namespace Go.Proofs.YtalfjaogpbndeaaDoor
open Go.RowKit

theorem wrap_u32 (n : Nat) (h : n < 4294967296) : IntKind.u32.wrap (n : Int) = (n : Int) := by
  simp [IntKind.wrap, IntKind.bits, IntKind.signed]; omega
theorem bw_xor (a b : BitVec 32) : bits .xor .u32 (a.toNat : Int) (b.toNat : Int) = ((a ^^^ b).toNat : Int) := by
  have h := wrap_u32 (a ^^^ b).toNat (a ^^^ b).isLt
  simp [bits, IntKind.bits] at h ⊢
  try exact h
theorem bw_and1 (a : BitVec 32) : bits .and .u32 (a.toNat : Int) 1 = ((a &&& 1#32).toNat : Int) := by
  have h := wrap_u32 (a &&& 1#32).toNat (a &&& 1#32).isLt
  have h2 : (a &&& 1#32).toNat = a.toNat % 2 := by
    rw [BitVec.toNat_and]
    show a.toNat &&& 1 = _
    rw [Nat.and_one_is_mod]
  rw [h2] at h ⊢
  have := (by simp [bits, IntKind.bits] at h ⊢; exact (congrArg (fun n : Nat => IntKind.u32.wrap (n : Int)) h2).trans h : bits .and .u32 (a.toNat : Int) ((1#32).toNat : Int) = ((a.toNat % 2 : Nat) : Int))
  exact this
theorem bw_mul (a : BitVec 32) : IntKind.u32.wrap ((3988292384 : Int) * (a.toNat : Int)) = ((0xEDB88320#32 * a).toNat : Int) := by
  simp [IntKind.wrap, IntKind.bits, IntKind.signed, BitVec.toNat_mul]
theorem bw_shr (a : BitVec 32) : ((a.toNat : Int) / (2 : Int)) = ((a >>> 1).toNat : Int) := by
  rw [BitVec.toNat_ushiftRight, Nat.shiftRight_eq_div_pow]
  omega
theorem bw_byte (b : UInt8) : (b.toNat : Int) = ((BitVec.ofNat 32 b.toNat).toNat : Int) := by
  have := b.toNat_lt
  rw [BitVec.toNat_ofNat, Nat.mod_eq_of_lt (by omega)]
theorem bw_xb (c : BitVec 32) (b : UInt8) : bits .xor .u32 (c.toNat : Int) (b.toNat : Int) = ((c ^^^ BitVec.ofNat 32 b.toNat).toNat : Int) := by
  rw [bw_byte b, bw_xor]
theorem bw_xm (c : BitVec 32) (b : UInt8) : bits .xor .u32 (c.toNat : Int) ((b.toNat : Int) % 4294967296) = ((c ^^^ BitVec.ofNat 32 b.toNat).toNat : Int) := by
  have := b.toNat_lt
  rw [show ((b.toNat : Int) % 4294967296) = (b.toNat : Int) by omega, bw_xb]
theorem bw_step (d : BitVec 32) : bits .xor .u32 ((d.toNat : Int) / 2) (3988292384 * bits .and .u32 (d.toNat : Int) 1 % 4294967296) = ((Crc.step d).toNat : Int) := by
  rw [bw_and1, bw_shr]
  have h : (3988292384 : Int) * ((d &&& 1#32).toNat : Int) % 4294967296 = ((0xEDB88320#32 * (d &&& 1#32)).toNat : Int) := by
    rw [BitVec.toNat_mul]
    show _ = ((3988292384 * (d &&& 1#32).toNat % 4294967296 : Nat) : Int)
    omega
  rw [h, bw_xor]
  rfl
theorem bw_not (c : BitVec 32) : IntKind.u64.wrap (bits .xor .u32 IntKind.u32.max (c.toNat : Int)) = ((~~~ c).toNat : Int) := by
  have h : IntKind.u32.max = ((4294967295#32).toNat : Int) := by decide
  rw [h, bw_xor]
  have h2 : 4294967295#32 ^^^ c = ~~~ c := by
    exact BitVec.allOnes_xor
  rw [h2]
  have := (~~~ c).isLt
  simp [IntKind.wrap, IntKind.bits, IntKind.signed]
  omega
theorem crc_snoc (l : List UInt8) (b : UInt8) : Crc.crc (l ++ [b]) = Crc.byte (Crc.crc l) b := by simp [Crc.crc, List.foldl_append]
theorem take_snocB (s : ByteArray) (k : Nat) (h : k < s.size) : s.data.toList.take (k + 1) = s.data.toList.take k ++ [s[k]] := by
  rw [List.take_succ_eq_append_getElem (by simpa using h)]; rfl
theorem ret_u64c {a b : Int} (h : a = b) : Ending.returned (.int .u64 a) = .returned (.int .u64 b) := by rw [h]
theorem int_u32 {a b : Int} (h : a = b) : Value.int .u32 a = .int .u32 b := by rw [h]
set_option maxHeartbeats 1000000 in
theorem sum_any (s : ByteArray) (w : World) (hs : s.size ≤ maxLen) :
    Calls Tryd.prog 50 #[.string s] w fun e w' => e = .returned (.int .u64 (Crc.sum s.data.toList : Int)) ∧ w = w' := by
  unfold maxLen at hs
  go_enter Tryd.func50, Tryd.ntmps50
  go_wp2
  go_loop [3, 7] (fun cv iv => ∃ (i : Nat) (c : BitVec 32), i ≤ s.size ∧ iv = .int .i64 (i : Int) ∧ Hid (c = Crc.crc (s.data.toList.take i)) ∧ cv = .int .u32 (c.toNat : Int)) (fun _ iv => s.size - (intOf iv).toNat)
  case atStart => exact ⟨0, 0xFFFFFFFF#32, Nat.zero_le _, rfl, Lib.hid rfl, rfl⟩
  case round =>
    obtain ⟨i, c, hi, rfl, hc, rfl⟩ := hrel
    by_cases hlt : i < s.size
    · have hlt2 : (i : Int) < s.size := by omega
      have hsn := Lib.hid (take_snocB s i hlt)
      go_wp2
      go_loop [3, 16] (fun cv jv => ∃ (j : Nat) (d : BitVec 32), j ≤ 8 ∧ jv = .int .i64 (j : Int) ∧ Hid (d = Crc.steps j (c ^^^ BitVec.ofNat 32 s[i].toNat)) ∧ cv = .int .u32 (d.toNat : Int)) (fun _ jv => 8 - (intOf jv).toNat)
      case atStart => 
        refine ⟨0, c ^^^ BitVec.ofNat 32 s[i].toNat, Nat.zero_le _, rfl, Lib.hid rfl, ?_⟩
        exact int_u32 (bw_xm c s[i])
      case round =>
        obtain ⟨j, d, hj, rfl, hd, rfl⟩ := hrel
        by_cases hl8 : j < 8
        · have hl8' : (j : Int) < 8 := by omega
          go_wp2
          refine ⟨⟨j + 1, Crc.step d, by omega, by norm_cast, ?_, int_u32 (bw_step d)⟩, ?_⟩
          · exact Lib.hid (by rw [hd.out]; rfl)
          · simp only [intOf]; omega
        · have hl8' : ¬ (j : Int) < 8 := by omega
          have hj8 : j = 8 := by omega
          subst hj8
          go_wp2
          refine ⟨⟨i + 1, d, by omega, by norm_cast, ?_, rfl⟩, ?_⟩
          · exact Lib.hid (by rw [hsn.out, crc_snoc, ← hc.out, hd.out]; rfl)
          · simp only [intOf]; omega
    · have hge : ¬ (i : Int) < s.size := by omega
      have hk := hc.out
      rw [List.take_of_length_le (by simpa using (by omega : s.size ≤ i))] at hk
      go_wp2
      exact bodyPost_ret (by simp [results, Tryd.results50, go_sem]; rfl) rfl ⟨ret_u64c (by rw [bw_not]; rfl), rfl⟩
end Go.Proofs.YtalfjaogpbndeaaDoor
