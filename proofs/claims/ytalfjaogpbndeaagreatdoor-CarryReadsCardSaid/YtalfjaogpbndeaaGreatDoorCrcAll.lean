/-
  A cyclic sum in plain words: its steps can be turned back, so one byte that is turned is seen.
  The walk of carry's sum.
-/
import Init
import Derived.Test.YtalfjaogpbndeaaGreatDoorBase
namespace Go.Proofs.YtalfjaogpbndeaaGreatDoor.Crc

def step (c : BitVec 32) : BitVec 32 := (c >>> 1) ^^^ (0xEDB88320#32 * (c &&& 1#32))
def steps : Nat → BitVec 32 → BitVec 32
  | 0, c => c
  | n + 1, c => step (steps n c)
def byte (c : BitVec 32) (b : UInt8) : BitVec 32 := steps 8 (c ^^^ BitVec.ofNat 32 b.toNat)
def crc (l : List UInt8) : BitVec 32 := l.foldl byte 0xFFFFFFFF#32
/-- The sum of a text. -/
def sum (l : List UInt8) : Nat := (~~~ crc l).toNat
theorem sum_lt (l : List UInt8) : sum l < 4294967296 := (~~~ crc l).isLt
theorem bit_cases (c : BitVec 32) : c &&& 1#32 = 0#32 ∨ c &&& 1#32 = 1#32 := by
  have h : (c &&& 1#32).toNat = c.toNat % 2 := by
    rw [BitVec.toNat_and]
    show c.toNat &&& 1 = _
    rw [Nat.and_one_is_mod]
  rcases Nat.mod_two_eq_zero_or_one c.toNat with h0 | h0
  · left; apply BitVec.eq_of_toNat_eq; rw [h, h0]; rfl
  · right; apply BitVec.eq_of_toNat_eq; rw [h, h0]; rfl
theorem step_msb (c : BitVec 32) : (step c).getLsbD 31 = c.getLsbD 0 := by
  have h0 : c.getLsbD 0 = (c &&& 1#32).getLsbD 0 := by simp
  unfold step
  rw [h0]
  rcases bit_cases c with h | h <;> rw [h] <;> simp <;> decide
theorem step_shift (c : BitVec 32) : c >>> 1 = step c ^^^ (if (step c).getLsbD 31 then 0xEDB88320#32 else 0#32) := by
  have hm := step_msb c
  have h0 : c.getLsbD 0 = (c &&& 1#32).getLsbD 0 := by simp
  rw [hm, h0]
  unfold step
  rcases bit_cases c with h | h <;> rw [h] <;> simp
  rw [BitVec.xor_assoc, BitVec.xor_self, BitVec.xor_zero]
theorem step_inj {a b : BitVec 32} (h : step a = step b) : a = b := by
  have h1 : a >>> 1 = b >>> 1 := by rw [step_shift a, step_shift b, h]
  have h2 : a.getLsbD 0 = b.getLsbD 0 := by rw [← step_msb, ← step_msb, h]
  apply BitVec.eq_of_getLsbD_eq
  intro i hi
  cases i with
  | zero => exact h2
  | succ i =>
    have := congrArg (fun x => x.getLsbD i) h1
    simp only [BitVec.getLsbD_ushiftRight] at this
    rwa [Nat.add_comm] at this
theorem steps_inj {n : Nat} {a b : BitVec 32} (h : steps n a = steps n b) : a = b := by
  induction n with
  | zero => exact h
  | succ n ih => exact ih (step_inj h)
theorem xor_left {a b c : BitVec 32} (h : a ^^^ c = b ^^^ c) : a = b := by
  have := congrArg (· ^^^ c) h
  simpa [BitVec.xor_assoc] using this
theorem byte_inj {a b : BitVec 32} {x : UInt8} (h : byte a x = byte b x) : a = b := xor_left (steps_inj h)
theorem byte_other {a : BitVec 32} {x y : UInt8} (h : byte a x = byte a y) : x = y := by
  have h1 := steps_inj h
  rw [BitVec.xor_comm a, BitVec.xor_comm a] at h1
  have h2 := congrArg BitVec.toNat (xor_left h1)
  simp only [BitVec.toNat_ofNat] at h2
  have hx := x.toNat_lt
  have hy := y.toNat_lt
  rw [Nat.mod_eq_of_lt (by omega), Nat.mod_eq_of_lt (by omega)] at h2
  exact UInt8.toNat_inj.1 h2
theorem fold_inj {l : List UInt8} : ∀ {a b : BitVec 32}, l.foldl byte a = l.foldl byte b → a = b := by
  induction l with
  | nil => exact fun h => h
  | cons x r ih => exact fun h => byte_inj (ih h)
/-- One byte that is turned turns the sum. -/
theorem sum_one {l r : List UInt8} {x y : UInt8} (h : sum (l ++ x :: r) = sum (l ++ y :: r)) : x = y := by
  unfold sum at h
  have h1 : crc (l ++ x :: r) = crc (l ++ y :: r) := by
    have := BitVec.eq_of_toNat_eq h
    simpa using congrArg (fun z => ~~~ z) this
  unfold crc at h1
  rw [List.foldl_append, List.foldl_append, List.foldl_cons, List.foldl_cons] at h1
  exact byte_other (fold_inj h1)
end Go.Proofs.YtalfjaogpbndeaaGreatDoor.Crc

namespace Go.Proofs.YtalfjaogpbndeaaGreatDoor
open Go.RowKit

theorem wrap_u32 (n : Nat) (h : n < 4294967296) : IntKind.u32.wrap (n : Int) = (n : Int) := by
  simp [IntKind.wrap, IntKind.bits, IntKind.signed]; omega
theorem bw_xor (a b : BitVec 32) : bits .xor .u32 (a.toNat : Int) (b.toNat : Int) = ((a ^^^ b).toNat : Int) := by
  have h := wrap_u32 (a ^^^ b).toNat (a ^^^ b).isLt
  simp [bits, IntKind.bits] at h ⊢
  try exact h
theorem bw_and1 (a : BitVec 32) : bits .and .u32 (a.toNat : Int) 1 = ((a &&& 1#32).toNat : Int) := by
  have h := wrap_u32 (a &&& 1#32).toNat (a &&& 1#32).isLt
  have h2 : (a &&& 1#32).toNat = a.toNat % 2 := by
    rw [BitVec.toNat_and]
    show a.toNat &&& 1 = _
    rw [Nat.and_one_is_mod]
  rw [h2] at h ⊢
  have := (by simp [bits, IntKind.bits] at h ⊢; exact (congrArg (fun n : Nat => IntKind.u32.wrap (n : Int)) h2).trans h : bits .and .u32 (a.toNat : Int) ((1#32).toNat : Int) = ((a.toNat % 2 : Nat) : Int))
  exact this
theorem bw_mul (a : BitVec 32) : IntKind.u32.wrap ((3988292384 : Int) * (a.toNat : Int)) = ((0xEDB88320#32 * a).toNat : Int) := by
  simp [IntKind.wrap, IntKind.bits, IntKind.signed, BitVec.toNat_mul]
theorem bw_shr (a : BitVec 32) : ((a.toNat : Int) / (2 : Int)) = ((a >>> 1).toNat : Int) := by
  rw [BitVec.toNat_ushiftRight, Nat.shiftRight_eq_div_pow]
  omega
theorem bw_byte (b : UInt8) : (b.toNat : Int) = ((BitVec.ofNat 32 b.toNat).toNat : Int) := by
  have := b.toNat_lt
  rw [BitVec.toNat_ofNat, Nat.mod_eq_of_lt (by omega)]
theorem bw_xb (c : BitVec 32) (b : UInt8) : bits .xor .u32 (c.toNat : Int) (b.toNat : Int) = ((c ^^^ BitVec.ofNat 32 b.toNat).toNat : Int) := by
  rw [bw_byte b, bw_xor]
theorem bw_xm (c : BitVec 32) (b : UInt8) : bits .xor .u32 (c.toNat : Int) ((b.toNat : Int) % 4294967296) = ((c ^^^ BitVec.ofNat 32 b.toNat).toNat : Int) := by
  have := b.toNat_lt
  rw [show ((b.toNat : Int) % 4294967296) = (b.toNat : Int) by omega, bw_xb]
theorem bw_step (d : BitVec 32) : bits .xor .u32 ((d.toNat : Int) / 2) (3988292384 * bits .and .u32 (d.toNat : Int) 1 % 4294967296) = ((Crc.step d).toNat : Int) := by
  rw [bw_and1, bw_shr]
  have h : (3988292384 : Int) * ((d &&& 1#32).toNat : Int) % 4294967296 = ((0xEDB88320#32 * (d &&& 1#32)).toNat : Int) := by
    rw [BitVec.toNat_mul]
    show _ = ((3988292384 * (d &&& 1#32).toNat % 4294967296 : Nat) : Int)
    omega
  rw [h, bw_xor]
  rfl
theorem bw_not (c : BitVec 32) : IntKind.u64.wrap (bits .xor .u32 IntKind.u32.max (c.toNat : Int)) = ((~~~ c).toNat : Int) := by
  have h : IntKind.u32.max = ((4294967295#32).toNat : Int) := by decide
  rw [h, bw_xor]
  have h2 : 4294967295#32 ^^^ c = ~~~ c := by
    exact BitVec.allOnes_xor
  rw [h2]
  have := (~~~ c).isLt
  simp [IntKind.wrap, IntKind.bits, IntKind.signed]
  omega
theorem crc_snoc (l : List UInt8) (b : UInt8) : Crc.crc (l ++ [b]) = Crc.byte (Crc.crc l) b := by simp [Crc.crc, List.foldl_append]
theorem take_snocB (s : ByteArray) (k : Nat) (h : k < s.size) : s.data.toList.take (k + 1) = s.data.toList.take k ++ [s[k]] := by
  rw [List.take_succ_eq_append_getElem (by simpa using h)]; rfl
theorem ret_u64c {a b : Int} (h : a = b) : Ending.returned (.int .u64 a) = .returned (.int .u64 b) := by rw [h]
theorem int_u32 {a b : Int} (h : a = b) : Value.int .u32 a = .int .u32 b := by rw [h]
set_option maxHeartbeats 1000000 in
theorem sum_any (s : ByteArray) (w : World) (hs : s.size ≤ maxLen) :
    Calls Tryz.prog 20 #[.string s] w fun e w' => e = .returned (.int .u64 (Crc.sum s.data.toList : Int)) ∧ w = w' := by
  unfold maxLen at hs
  go_enter Tryz.func20, Tryz.ntmps20
  go_wp2
  go_loop [3, 7] (fun cv iv => ∃ (i : Nat) (c : BitVec 32), i ≤ s.size ∧ iv = .int .i64 (i : Int) ∧ Hid (c = Crc.crc (s.data.toList.take i)) ∧ cv = .int .u32 (c.toNat : Int)) (fun _ iv => s.size - (intOf iv).toNat)
  case atStart => exact ⟨0, 0xFFFFFFFF#32, Nat.zero_le _, rfl, Lib.hid rfl, rfl⟩
  case round =>
    obtain ⟨i, c, hi, rfl, hc, rfl⟩ := hrel
    by_cases hlt : i < s.size
    · have hlt2 : (i : Int) < s.size := by omega
      have hsn := Lib.hid (take_snocB s i hlt)
      go_wp2
      go_loop [3, 16] (fun cv jv => ∃ (j : Nat) (d : BitVec 32), j ≤ 8 ∧ jv = .int .i64 (j : Int) ∧ Hid (d = Crc.steps j (c ^^^ BitVec.ofNat 32 s[i].toNat)) ∧ cv = .int .u32 (d.toNat : Int)) (fun _ jv => 8 - (intOf jv).toNat)
      case atStart => 
        refine ⟨0, c ^^^ BitVec.ofNat 32 s[i].toNat, Nat.zero_le _, rfl, Lib.hid rfl, ?_⟩
        exact int_u32 (bw_xm c s[i])
      case round =>
        obtain ⟨j, d, hj, rfl, hd, rfl⟩ := hrel
        by_cases hl8 : j < 8
        · have hl8' : (j : Int) < 8 := by omega
          go_wp2
          refine ⟨⟨j + 1, Crc.step d, by omega, by norm_cast, ?_, int_u32 (bw_step d)⟩, ?_⟩
          · exact Lib.hid (by rw [hd.out]; rfl)
          · simp only [intOf]; omega
        · have hl8' : ¬ (j : Int) < 8 := by omega
          have hj8 : j = 8 := by omega
          subst hj8
          go_wp2
          refine ⟨⟨i + 1, d, by omega, by norm_cast, ?_, rfl⟩, ?_⟩
          · exact Lib.hid (by rw [hsn.out, crc_snoc, ← hc.out, hd.out]; rfl)
          · simp only [intOf]; omega
    · have hge : ¬ (i : Int) < s.size := by omega
      have hk := hc.out
      rw [List.take_of_length_le (by simpa using (by omega : s.size ≤ i))] at hk
      go_wp2
      exact bodyPost_ret (by simp [results, Tryz.results20, go_sem]; rfl) rfl ⟨ret_u64c (by rw [bw_not]; rfl), rfl⟩
end Go.Proofs.YtalfjaogpbndeaaGreatDoor
