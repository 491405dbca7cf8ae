/-
  The walk of mix.Of.
-/
import Derived.Test.YtnmkdmehljkedaaGreatDoorMix
import Derived.Test.YtnmkdmehljkedaaGreatDoorName
namespace Go.Proofs.YtnmkdmehljkedaaGreatDoor
open Go.RowKit

/-- The number of a text's bytes. -/
def hashB (l : List Nat) : BitVec 64 := l.foldl (fun h b => (h ^^^ BitVec.ofNat 64 b) * 1099511628211#64) 14695981039346656037#64
theorem hashB_snoc (l : List Nat) (b : Nat) : hashB (l ++ [b]) = (hashB l ^^^ BitVec.ofNat 64 b) * 1099511628211#64 := by simp [hashB, List.foldl_append]
/-- Of a text, and a salt: a number. -/
def ofN (s : ByteArray) (salt : Nat) : Nat := Mx.turn (hashB (nums s) ^^^ BitVec.ofNat 64 (Mx.turn salt)).toNat
theorem ofN_lt (s : ByteArray) (salt : Nat) : U64 (ofN s salt) := Mx.turn_lt _
theorem turn_u64 (k : Nat) : U64 (Mx.turn k) := Mx.turn_lt k
theorem bv_u64 (x : BitVec 64) : U64 x.toNat := x.isLt
theorem mul_P (a : BitVec 64) : IntKind.u64.wrap ((a.toNat : Int) * (1099511628211 : Int)) = ((a * 1099511628211#64).toNat : Int) := bv_mul a 1099511628211
theorem xor_nat (a : BitVec 64) (b : Nat) (hb : U64 b) : bits .xor .u64 (a.toNat : Int) (b : Int) = ((a ^^^ BitVec.ofNat 64 b).toNat : Int) := by
  have := bv_xor a (BitVec.ofNat 64 b)
  rwa [bv_of b hb] at this
theorem byte_u64 (b : UInt8) : U64 b.toNat := Nat.lt_trans b.toNat_lt (by decide)
theorem nums_get (s : ByteArray) {k : Nat} (hk : k < s.size) : (nums s)[k]'(by rw [nums_length]; exact hk) = s[k].toNat := by simp [nums]; rfl
theorem hash_step (s : ByteArray) {k : Nat} (hk : k < s.size) : IntKind.u64.wrap (bits .xor .u64 ((hashB ((nums s).take k)).toNat : Int) (s[k].toNat : Int) * (1099511628211 : Int)) = ((hashB ((nums s).take (k + 1))).toNat : Int) := by
  have hkn : k < (nums s).length := by rw [nums_length]; exact hk
  have e : hashB ((nums s).take (k + 1)) = (hashB ((nums s).take k) ^^^ BitVec.ofNat 64 s[k].toNat) * 1099511628211#64 := by
    rw [List.take_succ_eq_append_getElem hkn, hashB_snoc, nums_get s hk]
  rw [e, xor_nat _ _ (byte_u64 _)]
  exact mul_P _
theorem hash_zero (s : ByteArray) : ((hashB ((nums s).take 0)).toNat : Int) = 14695981039346656037 := by
  show (((14695981039346656037#64 : BitVec 64).toNat : Nat) : Int) = _
  rw [BitVec.toNat_ofNat]; decide
theorem meas_k {n k : Nat} (h : k < n) : n - (intOf (.int .i64 ((k : Int) + 1))).toNat < n - (intOf (.int .i64 (k : Int))).toNat := by simp [intOf]; omega
theorem int_eq {k : IntKind} {a b : Int} (h : a = b) : Value.int k a = .int k b := by rw [h]
def NumIs (n : Nat) (w : World) (e : Ending) (w' : World) : Prop := e = .returned (.int .u64 (n : Int)) ∧ w = w'

theorem wrap_byte (b : UInt8) : IntKind.u64.wrap (b.toNat : Int) = (b.toNat : Int) := by
  have h : b.toNat < 256 := b.toNat_lt
  rw [IntKind.wrap_u64]
  exact Int.emod_eq_of_lt (by omega) (Int.lt_trans (Int.ofNat_lt.2 h) (by decide))
def HashIs (s : ByteArray) (k : Nat) (c : Int) : Prop := c = ((hashB ((nums s).take k)).toNat : Int)
theorem hashIs_zero (s : ByteArray) : HashIs s 0 14695981039346656037 := (hash_zero s).symm
theorem hashIs_step {s : ByteArray} {k : Nat} {c : Int} (h : HashIs s k c) (hk : k < s.size) : HashIs s (k + 1) (IntKind.u64.wrap (bits .xor .u64 c (IntKind.u64.wrap (s[k].toNat : Int)) * (1099511628211 : Int))) := by
  unfold HashIs at h ⊢
  rw [h, wrap_byte]
  exact hash_step s hk
theorem hashIs_end {s : ByteArray} {c : Int} (h : HashIs s s.size c) (salt : Nat) : bits .xor .u64 c ((Mx.turn salt : Nat) : Int) = ((hashB (nums s) ^^^ BitVec.ofNat 64 (Mx.turn salt)).toNat : Int) := by
  unfold HashIs at h
  rw [h, List.take_of_length_le (by rw [nums_length]; exact Nat.le_refl _)]
  exact xor_nat _ _ (turn_u64 salt)
set_option maxRecDepth 100000 in
set_option maxHeartbeats 1000000 in
theorem of_any (s : ByteArray) (salt : Nat) (w : World) (hs : s.size ≤ maxLen) (hk : U64 salt) : Calls Tryz.prog 45 #[.string s, .int .u64 (salt : Int)] w (NumIs (ofN s salt) w) := by
  unfold maxLen at hs
  have HT := Lib.hid (fun W => turn_any salt W hk)
  have HE : Hid (∀ W, Calls Tryz.prog 33 #[.int .u64 ((hashB (nums s) ^^^ BitVec.ofNat 64 (Mx.turn salt)).toNat : Int)] W (NumIs (ofN s salt) W)) := Lib.hid (fun W => turn_any (hashB (nums s) ^^^ BitVec.ofNat 64 (Mx.turn salt)).toNat W (bv_u64 _))
  have HX := Lib.hid (fun c (h : HashIs s s.size c) => hashIs_end h salt)
  have H0 := Lib.hid (hashIs_zero s)
  generalize Mx.turn salt = ts at *
  clear hk
  go_enter Tryz.func45, Tryz.ntmps45
  go_wp2_with fail
  go_loop [5, 6, 9] (fun hv _ iv => ∃ (k : Nat) (c : Int), k ≤ s.size ∧ iv = .int .i64 (k : Int) ∧ hv = .int .u64 c ∧ Hid (HashIs s k c)) (fun _ _ iv => s.size - (intOf iv).toNat)
  case atStart => exact ⟨0, _, Nat.zero_le _, rfl, rfl, H0⟩
  case round =>
    obtain ⟨k, c, hk, rfl, rfl, hc⟩ := hrel
    clear H0
    by_cases hlt : k < s.size
    · have hlt2 : (k : Int) < s.size := by omega
      have HS := Lib.hid (hashIs_step hc.out hlt)
      go_wp2
      go_round
      case rel => exact ⟨k + 1, _, Nat.succ_le_of_lt hlt, by go_num, rfl, HS⟩
      case measure => exact meas_k hlt
    · obtain rfl : k = s.size := by omega
      have hge : ¬ (s.size : Int) < s.size := by omega
      go_wp2_with fail
      refine (HT.out _).mono ?_
      rintro e w1 ⟨rfl, rfl⟩
      go_wp2_with fail
      rw [HX.out _ hc.out]
      refine (HE.out _).mono ?_
      rintro e w1 ⟨rfl, rfl⟩
      go_wp2
      go_ret
      exact ⟨rfl, rfl⟩
end Go.Proofs.YtnmkdmehljkedaaGreatDoor
