/-
  Numbers in sixteens in plain words: how a text is read, how a number is written.   What is written in sixteens is read.
  The walk of the library's reader of numbers in sixteens.
  The walk of the library's writer of numbers in sixteens.
  The walks of carry's hex and key.
  The walk of carry's number.   What is written in tens is read.
  Cutting at one byte, in plain words; strings.Split in these words.   The law of cutting: what is joined is cut again.
  A cyclic sum in plain words: its steps can be turned back, so one byte that is turned is seen.   The walk of carry's sum.
-/
import Init
import Derived.Test.YteilefpjfbholaaGreatDoorBase
import Derived.Lib.Strings
import Derived.Lib.ConvBytes
import Derived.Lib.AtoiAllMem
import Derived.Laws.Closers25
import Derived.Laws.Closers25b
import Derived.WalkKit
import Derived.BigCall
import Derived.BigGuard
import Derived.Lib.ItoaWalk
import Derived.Lib.SliceRun
import Derived.Lib.ItoaMem
import Derived.Test.YteilefpjfbholaaGreatDoorShelfC
import Derived.Lib.AppendIntMem
import Derived.Lib.AtoiErrMem
import Derived.Lib.AtoiAllCases
import Derived.WalkSmall
import Derived.Lib.SplitLaws
import Derived.Lib.IndexBytes
namespace Go.Proofs.YteilefpjfbholaaGreatDoor.Hex

def low (c : UInt8) : Nat := (c ||| 32).toNat
/-- The digit that the library reads in a byte (either case). -/
def dig (c : UInt8) : Option Nat :=
  if 48 ≤ c.toNat ∧ c.toNat ≤ 57 then some (c.toNat - 48)
  else if 97 ≤ low c ∧ low c < 103 then some (low c - 87) else none
/-- How a number ends: read, no such text, too great. -/
inductive End where
  | ok (n : Nat)
  | bad
  | big
deriving DecidableEq
def rd : Nat → List UInt8 → End
  | acc, [] => .ok acc
  | acc, c :: r => match dig c with
    | none => .bad
    | some d => if 1152921504606846976 ≤ acc then .big else rd (acc * 16 + d) r
def read (l : List UInt8) : End := if l = [] then .bad else rd 0 l
theorem dig_lt {c : UInt8} {d : Nat} (h : dig c = some d) : d < 16 := by
  unfold dig at h
  split at h
  · rename_i h1
    cases h
    omega
  · split at h
    · rename_i h2
      cases h
      omega
    · cases h
/-- The letter of a digit. -/
def hd (n : Nat) : UInt8 := if n < 10 then UInt8.ofNat (48 + n) else UInt8.ofNat (87 + n)
/-- A number's letters, no needless zeros. -/
def wr (n : Nat) : List UInt8 := if _h : n < 16 then [hd n] else wr (n / 16) ++ [hd (n % 16)]
termination_by n
theorem wr_lo {n : Nat} (h : n < 16) : wr n = [hd n] := by rw [wr, dif_pos h]
theorem wr_hi {n : Nat} (h : ¬ n < 16) : wr n = wr (n / 16) ++ [hd (n % 16)] := by rw [wr, dif_neg h]
theorem wr_len : ∀ (d n : Nat), n < 16 ^ (d + 1) → (wr n).length ≤ d + 1
  | 0, n, h => by rw [wr_lo (by omega)]; simp
  | d + 1, n, h => by
    by_cases hn : n < 16
    · rw [wr_lo hn]; simp
    · rw [wr_hi hn, List.length_append, List.length_singleton]
      have := wr_len d (n / 16) (by rw [Nat.pow_succ] at h; omega)
      omega
theorem rd_lt : ∀ (l : List UInt8) (acc n : Nat), rd acc l = .ok n → n < (acc + 1) * 16 ^ l.length
  | [], acc, n, h => by
    simp only [rd, End.ok.injEq] at h
    simp
    omega
  | c :: r, acc, n, h => by
    simp only [rd] at h
    cases hd : dig c with
    | none => rw [hd] at h; cases h
    | some d =>
      rw [hd] at h
      simp only at h
      split at h
      · cases h
      · have h1 := rd_lt r _ n h
        have h2 := dig_lt hd
        have h3 : (acc * 16 + d + 1) * 16 ^ r.length ≤ ((acc + 1) * 16) * 16 ^ r.length := Nat.mul_le_mul_right _ (by omega)
        rw [List.length_cons, Nat.pow_succ, Nat.mul_comm (16 ^ r.length) 16, ← Nat.mul_assoc]
        exact Nat.lt_of_lt_of_le h1 h3
theorem rd_64 : ∀ (l : List UInt8) (acc n : Nat), acc < 18446744073709551616 → rd acc l = .ok n → n < 18446744073709551616
  | [], acc, n, ha, h => by
    simp only [rd, End.ok.injEq] at h
    omega
  | c :: r, acc, n, ha, h => by
    simp only [rd] at h
    cases hd : dig c with
    | none => rw [hd] at h; cases h
    | some d =>
      rw [hd] at h
      simp only at h
      split at h
      · cases h
      · exact rd_64 r _ n (by have := dig_lt hd; omega) h
theorem read_64 {l : List UInt8} {n : Nat} (h : read l = .ok n) : n < 18446744073709551616 := by
  unfold read at h
  split at h
  · cases h
  · exact rd_64 l 0 n (by omega) h
theorem read_len {l : List UInt8} {n : Nat} (h : read l = .ok n) : (wr n).length ≤ l.length := by
  unfold read at h
  split at h
  · cases h
  · rename_i hne
    have h1 := rd_lt l 0 n h
    cases l with
    | nil => exact absurd rfl hne
    | cons c r => exact wr_len r.length n (by simpa using h1)
/-- A number in so many letters. -/
def text (n d : Nat) : List UInt8 := List.replicate (d - (wr n).length) 48 ++ wr n
/-- What a word of d letters says: a number, just so written. -/
def keyOf (l : List UInt8) (d : Nat) : Option Nat :=
  match read l with
  | .ok n => if l.length = d ∧ text n d = l then some n else none
  | _ => none
end Go.Proofs.YteilefpjfbholaaGreatDoor.Hex

namespace Go.Proofs.YteilefpjfbholaaGreatDoor.Hex

theorem dig_hd : ∀ m : Fin 16, dig (hd m.val) = some m.val := by decide
theorem rd_append : ∀ (l r : List UInt8) (acc a : Nat), rd acc l = .ok a → rd acc (l ++ r) = rd a r
  | [], r, acc, a, h => by
    simp only [rd, End.ok.injEq] at h
    subst h
    rfl
  | c :: l, r, acc, a, h => by
    rw [List.cons_append]
    simp only [rd] at h ⊢
    cases hd : dig c with
    | none => rw [hd] at h; cases h
    | some d =>
      rw [hd] at h
      simp only at h ⊢
      split at h
      · cases h
      · rename_i hc
        rw [if_neg hc]
        exact rd_append l r _ a h
theorem rd_wr (n : Nat) (hn : n < 18446744073709551616) : rd 0 (wr n) = .ok n := by
  by_cases h : n < 16
  · rw [wr_lo h]
    have := dig_hd ⟨n, h⟩
    simp only [rd] at this ⊢
    rw [this]
    simp
  · rw [wr_hi h, rd_append _ _ 0 (n / 16) (rd_wr (n / 16) (by omega))]
    have := dig_hd ⟨n % 16, by omega⟩
    simp only [rd] at this ⊢
    rw [this]
    simp only
    rw [if_neg (by omega)]
    congr 1
    omega
termination_by n
theorem rd_zeros : ∀ k : Nat, rd 0 (List.replicate k 48) = .ok 0
  | 0 => rfl
  | k + 1 => by
    rw [List.replicate_succ, rd]
    exact rd_zeros k
theorem wr_ne (n : Nat) : wr n ≠ [] := by
  by_cases h : n < 16
  · rw [wr_lo h]; simp
  · rw [wr_hi h]; simp
theorem read_text (n d : Nat) (hn : n < 18446744073709551616) : read (text n d) = .ok n := by
  unfold read text
  rw [if_neg (by simp [wr_ne]), rd_append _ _ 0 0 (rd_zeros _), rd_wr n hn]
theorem text_len (n d : Nat) (h : (wr n).length ≤ d) : (text n d).length = d := by
  simp [text]; omega
theorem keyOf_text (n d : Nat) (hn : n < 18446744073709551616) (h : (wr n).length ≤ d) : keyOf (text n d) d = some n := by
  rw [keyOf, read_text n d hn]
  simp [text_len n d h]
theorem keyOf_some {l : List UInt8} {d n : Nat} (h : keyOf l d = some n) : l = text n d ∧ l.length = d := by
  unfold keyOf at h
  split at h
  · split at h
    · rename_i hc
      cases h
      exact ⟨hc.2.symm, hc.1⟩
    · cases h
  · cases h
end Go.Proofs.YteilefpjfbholaaGreatDoor.Hex

namespace Go.Proofs.YteilefpjfbholaaGreatDoor
open Go.RowKit

theorem bw_or8 (c : UInt8) : bits .or .u8 (c.toNat : Int) 32 = (Hex.low c : Int) := by
  have h := (c ||| 32).toNat_lt
  have h3 : (c.toBitVec ||| 32#8).toNat = (c ||| 32).toNat := rfl
  have h4 : (c.toBitVec ||| 32#8).toNat = c.toNat ||| 32 := by rw [BitVec.toNat_or]; rfl
  unfold Hex.low
  rw [← h3] at h ⊢
  simp [bits, IntKind.bits]
  rw [IntKind.wrap_u8]
  exact (show ((c.toBitVec ||| 32#8).toNat : Int) % 256 = ((c.toNat ||| 32 : Nat) : Int) by omega)
theorem lower_any (c : UInt8) (w : World) :
    Calls Tryz.prog 214 #[.int .u8 (c.toNat : Int)] w fun e w' => e = .returned (.int .u8 (Hex.low c : Int)) ∧ w' = w := by
  have h := bw_or8 c
  go_enter Tryz.func214, Tryz.ntmps214
  go_wp2
  go_ret
  exact ⟨rfl, rfl⟩
def hexTuple (T : TypeId) : Hex.End → Value
  | .ok n => .tuple #[.int .u64 n, .nilIface]
  | .bad => .tuple #[.int .u64 0, .iface T (.int .i64 2)]
  | .big => .tuple #[.int .u64 18446744073709551615, .iface T (.int .i64 1)]

set_option maxHeartbeats 4000000 in
set_option maxRecDepth 100000 in
theorem parse_in (t : ByteArray) (hne : t.size ≠ 0) (hmax : t.size ≤ 9223372036854775806) (w : World) :
    Calls Tryz.prog 175 #[.string t, .int .i64 16, .int .i64 64] w fun e w' => e = .returned (hexTuple 297 (Hex.rd 0 t.data.toList)) ∧ w' = Lib.bytesWorld w 5 t := by
  have hemp : t.toList.isEmpty = false := by
    rw [← decide_eq_emptyBytes]
    exact decide_eq_false (fun h => hne (by rw [h]; rfl))
  have hcv := Lib.run_convert_string_bytes (P := Tryz.prog) w 9 150 5 t (u := .string) Tryz.underlying9 Tryz.underlying150 Tryz.underlying5
  have hB : ∀ j, j < t.size → (Lib.bytesWorld w 5 t).cell? ⟨w.heap.size, j, none⟩ = some (.int .u8 (t.data.toList.getD j 0).toNat) := fun j hj => Lib.bytesWorld_cell w 5 t j hj
  obtain ⟨W1, hW1⟩ : ∃ W1, W1 = Lib.bytesWorld w 5 t := ⟨_, rfl⟩
  rw [← hW1] at hcv hB ⊢
  clear hW1
  obtain ⟨bs, hL⟩ : ∃ bs, bs = t.data.toList := ⟨_, rfl⟩
  have hLn : bs.length = t.size := by rw [hL, Lib.size_eq]
  rw [← hL] at hB ⊢
  clear hL
  have hmv : IntKind.u64.wrap (IntKind.u64.wrap 18446744073709551616 - 1) = 18446744073709551615 := by
    rw [IntKind.wrap_u64, IntKind.wrap_u64]
    decide
  go_enter Tryz.func175, Tryz.ntmps175
  go_wp2
  go_loop [12, 13, 101] (fun vu vn vi => ∃ (k acc : Nat) (a : Int), vu = .bool false ∧ vn = .int .u64 a ∧ vi = .int .i64 k ∧ k ≤ t.size ∧ Hid (a = (acc : Int) ∧ acc < 18446744073709551616 ∧ Hex.rd 0 bs = Hex.rd acc (bs.drop k)))
    (fun _ _ vi => t.size - (intOf vi).toNat)
  case atStart => exact ⟨0, 0, 0, rfl, rfl, rfl, by omega, rfl, by omega, rfl⟩
  case round =>
    obtain ⟨k, acc, a, rfl, rfl, rfl, hk, hh⟩ := hrel
    obtain ⟨ha, hacc, hdec⟩ := hh.out
    clear hh
    have a0 : 0 ≤ a := by omega
    have a1 : a < 18446744073709551616 := by omega
    by_cases hkn : k < t.size
    · have hc := hB k hkn
      have hdrop : bs.drop k = bs[k]'(by omega) :: bs.drop (k + 1) := List.drop_eq_getElem_cons (by omega)
      have hget : bs.getD k 0 = bs[k]'(by omega) := by simp [List.getD, List.getElem?_eq_getElem (show k < bs.length by omega)]
      rw [hdrop] at hdec
      rw [hget] at hc
      generalize bs[k]'(by omega) = c at hc hdec
      have hc256 : c.toNat < 256 := c.toNat_lt
      have hl256 : Hex.low c < 256 := (c ||| 32).toNat_lt
      obtain ⟨m, hm⟩ : ∃ m : Int, m = (Hex.low c : Int) := ⟨_, rfl⟩
      have HLO : Hid (∀ w, Calls Tryz.prog 214 #[.int .u8 (c.toNat : Int)] w fun e w' => e = .returned (.int .u8 m) ∧ w' = w) := Lib.hid (by rw [hm]; exact lower_any c)
      clear hB hdrop hget
      by_cases hdig : 48 ≤ c.toNat ∧ c.toNat ≤ 57
      · have hd : Hex.dig c = some (c.toNat - 48) := by simp [Hex.dig, hdig]
        obtain ⟨hd0, hd1⟩ := hdig
        by_cases hcut : 1152921504606846976 ≤ acc
        · have hF : Hex.rd acc (c :: bs.drop (k + 1)) = .big := by simp [Hex.rd, hd, hcut]
          rw [hF] at hdec
          have icut : 1152921504606846976 ≤ a := by omega
          clear hcut hacc hF ha hd
          go_wp2
          go_ret2
          exact ⟨rfl, rfl⟩
        · have hF : Hex.rd acc (c :: bs.drop (k + 1)) = Hex.rd (acc * 16 + (c.toNat - 48)) (bs.drop (k + 1)) := by simp [Hex.rd, hd, hcut]
          have HN : Hid (a * 16 + ((c.toNat : Int) - 48) = ((acc * 16 + (c.toNat - 48) : Nat) : Int) ∧ acc * 16 + (c.toNat - 48) < 18446744073709551616 ∧ Hex.rd 0 bs = Hex.rd (acc * 16 + (c.toNat - 48)) (bs.drop (k + 1))) := Lib.hid ⟨by omega, by omega, hdec.trans hF⟩
          have icut : a < 1152921504606846976 := by omega
          have iov : a * 16 + ((c.toNat : Int) - 48) < 18446744073709551616 := by omega
          clear hcut hacc hF hdec ha hd
          go_wp2
          refine ⟨⟨k + 1, acc * 16 + (c.toNat - 48), a * 16 + ((c.toNat : Int) - 48), rfl, (by first | rfl | (congr 1; omega)), (by first | rfl | (congr 1; omega)), by omega, HN⟩, by simp [intOf]; omega⟩
      · by_cases hlet : 97 ≤ Hex.low c ∧ Hex.low c < 103
        · have hd : Hex.dig c = some (Hex.low c - 87) := by simp [Hex.dig, hdig, hlet]
          obtain ⟨hl0, hl1⟩ := hlet
          have hn95 : c.toNat ≠ 95 := by
            intro h
            have : c = 95 := UInt8.toNat_inj.1 h
            subst this
            revert hl1; decide
          have hn95' : ¬ (c.toNat : Int) = 95 := by omega
          have ho : (c.toNat : Int) < 48 ∨ 57 < (c.toNat : Int) := by omega
          have il0 : 97 ≤ m := by omega
          have il1 : m < 103 := by omega
          have iw1 : IntKind.u8.wrap (m - 97) = m - 97 := by rw [IntKind.wrap_u8]; omega
          have iw2 : IntKind.u8.wrap (m - 97 + 10) = m - 97 + 10 := by rw [IntKind.wrap_u8]; omega
          by_cases hcut : 1152921504606846976 ≤ acc
          · have hF : Hex.rd acc (c :: bs.drop (k + 1)) = .big := by simp [Hex.rd, hd, hcut]
            rw [hF] at hdec
            have icut : 1152921504606846976 ≤ a := by omega
            clear hcut hacc hF ha hd hdig hm hl0 hl1 hl256 hn95
            rcases ho with ho | ho
            all_goals go_wp2_with (refine (HLO.out _).mono ?_; rintro e w' ⟨rfl, rfl⟩)
            all_goals go_ret2
            all_goals first | exact ⟨rfl, rfl⟩ | exact ⟨by rw [hdec]; rfl, rfl⟩ | (rw [hdec]; exact ⟨rfl, rfl⟩)
          · have hF : Hex.rd acc (c :: bs.drop (k + 1)) = Hex.rd (acc * 16 + (Hex.low c - 87)) (bs.drop (k + 1)) := by simp [Hex.rd, hd, hcut]
            obtain ⟨lo, hlo⟩ : ∃ lo, lo = Hex.low c := ⟨_, rfl⟩
            rw [← hlo] at hl0 hl1 hl256 hd hF hm
            clear hlo
            have HN : Hid (a * 16 + (m - 97 + 10) = ((acc * 16 + (lo - 87) : Nat) : Int) ∧ acc * 16 + (lo - 87) < 18446744073709551616 ∧ Hex.rd 0 bs = Hex.rd (acc * 16 + (lo - 87)) (bs.drop (k + 1))) := Lib.hid ⟨by omega, by omega, hdec.trans hF⟩
            have icut : a < 1152921504606846976 := by omega
            have iov : a * 16 + (m - 97 + 10) < 18446744073709551616 := by omega
            clear hcut hacc hF hdec ha hd hdig hm hl0 hl1 hl256 hn95
            rcases ho with ho | ho
            all_goals go_wp2_with (refine (HLO.out _).mono ?_; rintro e w' ⟨rfl, rfl⟩)
            all_goals refine ⟨⟨k + 1, acc * 16 + (lo - 87), a * 16 + (m - 97 + 10), rfl, (by first | rfl | (congr 1; omega)), (by first | rfl | (congr 1; omega)), by omega, HN⟩, by simp [intOf]; omega⟩
        · have hd : Hex.dig c = none := by simp [Hex.dig, hdig, hlet]
          have hF : Hex.rd acc (c :: bs.drop (k + 1)) = .bad := by simp [Hex.rd, hd]
          rw [hF] at hdec
          have ho : (c.toNat : Int) < 48 ∨ 57 < (c.toNat : Int) := by omega
          have hl : m < 97 ∨ 103 ≤ m ∧ m ≤ 122 ∨ 122 < m := by omega
          have il1 : m < 256 := by omega
          have il2 : 0 ≤ m := by omega
          have hu : (c.toNat : Int) = 95 ∨ ¬ (c.toNat : Int) = 95 := by omega
          clear hdig hlet hm hl256 hacc hF ha hd
          rcases hu with hu | hu
          · have HLU : Hid (∀ w, Calls Tryz.prog 214 #[.int .u8 95] w fun e w' => e = .returned (.int .u8 m) ∧ w' = w) := by
              have := HLO.out
              rw [hu] at this
              exact Lib.hid this
            rcases hl with hl | ⟨hl, hl2⟩ | hl
            all_goals go_wp2_with (refine (HLU.out _).mono ?_; rintro e w' ⟨rfl, rfl⟩)
            all_goals go_ret2
            all_goals first | exact ⟨rfl, rfl⟩ | exact ⟨by rw [hdec]; rfl, rfl⟩ | (rw [hdec]; exact ⟨rfl, rfl⟩)
          · rcases ho with ho | ho <;> rcases hl with hl | ⟨hl, hl2⟩ | hl
            all_goals go_wp2_with (refine (HLO.out _).mono ?_; rintro e w' ⟨rfl, rfl⟩)
            all_goals go_ret2
            all_goals first | exact ⟨rfl, rfl⟩ | exact ⟨by rw [hdec]; rfl, rfl⟩ | (rw [hdec]; exact ⟨rfl, rfl⟩)
    · have hkk : k = t.size := by omega
      subst hkk
      have hF : Hex.rd acc (bs.drop t.size) = .ok acc := by rw [List.drop_eq_nil_of_le (by omega)]; rfl
      rw [hF] at hdec
      subst ha
      clear hacc hF a0 a1
      go_wp2
      go_ret2
      exact ⟨rfl, rfl⟩
end Go.Proofs.YteilefpjfbholaaGreatDoor

namespace Go.Proofs.YteilefpjfbholaaGreatDoor
open Go.RowKit

theorem pow_16 (w : World) :
    Calls Tryz.prog 233 #[.int .i64 16] w fun e w' => e = .returned (.bool true) ∧ w' = w := by
  have h : bits .and .i64 16 15 = 0 := by decide
  go_enter Tryz.func233, Tryz.ntmps233
  go_wp2
  go_ret
  exact ⟨rfl, rfl⟩
theorem tz64_16 (w : World) (ht : w.cell? ⟨17, 15, none⟩ = some (.int .u8 4)) :
    Calls Tryz.prog 254 #[.int .u64 16] w fun e w' => e = .returned (.int .i64 4) ∧ w' = w := by
  have h1 : IntKind.u64.wrap (-16) = 18446744073709551600 := by rw [IntKind.wrap_u64]; decide
  have h2 : bits .and .u64 16 18446744073709551600 = 16 := by decide
  have h3 : IntKind.u64.wrap 4573923408821661840 = 4573923408821661840 := by rw [IntKind.wrap_u64]; decide
  go_enter Tryz.func254, Tryz.ntmps254
  go_wp2
  go_ret
  exact ⟨rfl, rfl⟩
theorem tz_16 (w : World) (ht : w.cell? ⟨17, 15, none⟩ = some (.int .u8 4)) :
    Calls Tryz.prog 234 #[.int .u64 16] w fun e w' => e = .returned (.int .i64 4) ∧ w' = w := by
  go_enter Tryz.func234, Tryz.ntmps234
  go_wp2_with (refine (tz64_16 _ ht).mono ?_; rintro e w' ⟨rfl, rfl⟩)
  go_ret
  exact ⟨rfl, rfl⟩
def digs : ByteArray := ⟨#[48, 49, 50, 51, 52, 53, 54, 55, 56, 57, 97, 98, 99, 100, 101, 102, 103, 104, 105, 106, 107, 108, 109, 110, 111, 112, 113, 114, 115, 116, 117, 118, 119, 120, 121, 122]⟩
theorem digs_at : ∀ m : Fin 16, digs.data.toList[m.val]? = some (Hex.hd m.val) := by decide
theorem idx_digs (k : IntKind) (z : Int) (m : Nat) (hz : z = (m : Int)) (hm : m < 16) (w : World) :
    (Instr.index 9 (.string digs) (.int k z)).run Tryz.prog w = .ok (.int .u8 ((Hex.hd m).toNat : Int)) w := by
  subst hz
  have hs : digs.size = 36 := by decide
  rw [run_index_string w 9 digs k _ Tryz.underlying9, dif_pos ⟨by omega, by rw [hs]; omega⟩]
  have e : ((m : Int)).toNat = m := by omega
  have h := digs_at ⟨m, hm⟩
  simp only [e]
  rw [show digs[m]'(by rw [hs]; omega) = Hex.hd m from by
    have h' : digs.data.toList[m]? = some (Hex.hd m) := h
    rw [List.getElem?_eq_some_iff] at h'
    obtain ⟨_, h'⟩ := h'
    exact h']
/-- The writer's loop: places i .. 64 of the new block hold the letters that are written; v is left. -/
structure Hx (n : Nat) (w wr : World) (i v : Nat) (f : Nat → UInt8) : Prop where
  lo : 50 ≤ i
  hi : i ≤ 65
  left : v < 16 ^ (i - 49)
  text : Hex.wr n = Hex.wr v ++ (List.range (65 - i)).map (fun k => f (i + k))
  below : Below w.heap.size w wr
  size : w.heap.size < wr.heap.size
  cells : ∀ j, j < 65 → wr.cell? ⟨w.heap.size, j, none⟩ = some (.int .u8 ((f j).toNat : Int))
  free : ∀ j, j < 65 → wr.frozen? ⟨w.heap.size, j, none⟩ = false
/-- One letter more is laid. -/
theorem Hx.put {n i v : Nat} {w wr : World} {f : Nat → UInt8} (h : Hx n w wr (i + 1) v f) (x : UInt8) :
    (∀ j, j < 65 → (wr.setCell ⟨w.heap.size, i, none⟩ (.int .u8 (x.toNat : Int))).cell? ⟨w.heap.size, j, none⟩ = some (.int .u8 (((fun k => if k = i then x else f k) j).toNat : Int))) := by
  intro j hj
  have hi := h.hi
  by_cases hji : j = i
  · subst hji
    rw [World.cell?_setCell_same _ _ _ (h.cells j hj)]
    simp
  · rw [World.cell?_setCell_other _ _ _ _ (by intro e; cases e; exact hji rfl), h.cells j hj]
    simp [hji]
theorem range_put {i : Nat} {f : Nat → UInt8} (x : UInt8) (hi : i + 1 ≤ 65) :
    (List.range (65 - i)).map (fun k => (fun k => if k = i then x else f k) (i + k)) = x :: (List.range (65 - (i + 1))).map (fun k => f (i + 1 + k)) := by
  rw [show 65 - i = (65 - (i + 1)) + 1 by omega, List.range_succ_eq_map, List.map_cons, List.map_map]
  congr 1
  · simp
  · apply List.map_congr_left
    intro k _
    have : ¬ (i + (k + 1) = i) := by omega
    simp [Function.comp, show i + (k + 1) = i + 1 + k by omega]
    intro h
    omega
theorem Hx.step {n i v : Nat} {w wr : World} {f : Nat → UInt8} (h : Hx n w wr (i + 1) v f) (hv : ¬ v < 16) :
    Hx n w (wr.setCell ⟨w.heap.size, i, none⟩ (.int .u8 ((Hex.hd (v % 16)).toNat : Int))) i (v / 16) (fun k => if k = i then Hex.hd (v % 16) else f k) where
  lo := by
    have h1 := h.lo
    have h2 := h.left
    rcases Nat.lt_or_ge i 50 with hl | hl
    · exfalso
      have : i = 49 := by omega
      subst this
      simp at h2
      omega
    · exact hl
  hi := by have := h.hi; omega
  left := by
    have h1 := h.lo
    have h2 := h.left
    have h3 : 50 ≤ i := by
      rcases Nat.lt_or_ge i 50 with hl | hl
      · exfalso
        have : i = 49 := by omega
        subst this
        simp at h2
        omega
      · exact hl
    rw [show i + 1 - 49 = (i - 49) + 1 by omega, Nat.pow_succ] at h2
    omega
  text := by
    rw [h.text, Hex.wr_hi hv, range_put _ h.hi, List.append_assoc]
    rfl
  below := h.below.setCell (Nat.le_refl _) _
  size := by simpa [World.setCell] using h.size
  cells := h.put _
  free := fun j hj => by rw [World.frozen?_setCell]; exact h.free j hj
theorem Hx.drew {n i v : Nat} {w wr : World} {f : Nat → UInt8} (h : Hx n w wr i v f) : Hx n w wr.drew i v f :=
  ⟨h.lo, h.hi, h.left, h.text, h.below.drew, h.size, h.cells, h.free⟩
theorem bw_and15 (v : Nat) (hv : v < 18446744073709551616) : bits .and .u64 (v : Int) 15 = ((v % 16 : Nat) : Int) := by
  have h := bits_mask .u64 64 (by decide) (fun n h0 h1 => by rw [IntKind.wrap_u64]; omega) 4 (by decide) (v : Int) (by omega) (by omega)
  exact h.trans (by omega)
set_option maxHeartbeats 2000000 in
set_option maxRecDepth 100000 in
theorem bits_16 (n : Nat) (hn : n < 18446744073709551616) (w : World) (ht : w.cell? ⟨17, 15, none⟩ = some (.int .u8 4)) :
    Calls Tryz.prog 198 #[.slice none 0 0, .int .u64 (n : Int), .int .i64 16, .bool false, .bool false] w fun e w' => e = .returned (.tuple #[.slice none 0 0, .string ⟨(Hex.wr n).toArray⟩]) ∧ Below w.heap.size w w' := by
  have ht2 : ∀ b, (w.alloc b).cell? ⟨17, 15, none⟩ = some (.int .u8 4) := by
    intro b
    exact Lib.cell?_alloc_some b ht
  have h0 : Hid (Hx n w (w.alloc (Obj.cells Tryz.zeroCells310 310)) 65 n (fun _ => 0)) := Lib.hid {
    lo := by omega
    hi := by omega
    left := hn
    text := by simp
    below := (Below.refl _ _).alloc (Nat.le_refl _) _
    size := by simp
    cells := fun j hj => by
      rw [World.cell?_alloc_new]
      have e : Tryz.zeroCells310 = Array.replicate 65 (.int .u8 0) := rfl
      rw [e, Array.getElem?_replicate, if_pos hj]
      rfl
    free := fun j _ => World.frozen?_alloc_new _ _ _ _ }
  have hal : Tryz.prog.arrayLen 310 = 65 := by simp [Program.arrayLen, Tryz.underlying310]
  go_enter Tryz.func198, Tryz.ntmps198
  go_name_bytes PM hPM
  go_name_bytes SM hSM
  have eSM : SM = digs := by rw [← hSM]; rfl
  subst eSM
  clear hSM
  go_wp2_with (first | (refine (pow_16 _).mono ?_; rintro e w' ⟨rfl, rfl⟩) | (refine (tz_16 _ (ht2 _)).mono ?_; rintro e w' ⟨rfl, rfl⟩))
  clear ht ht2
  go_loopw [1, 13] (fun uv iv wr => ∃ (i v : Nat) (f : Nat → UInt8), uv = .int .u64 v ∧ iv = .int .i64 i ∧ Hid (Hx n w wr i v f)) (fun _ iv _ => (intOf iv).toNat)
  case atStart => exact ⟨65, n, fun _ => 0, rfl, rfl, h0⟩
  case round =>
    obtain ⟨i, v, f, rfl, rfl, hx⟩ := hrel
    rename World => wr
    obtain ⟨q, rfl⟩ : ∃ q, i = q + 1 := ⟨i - 1, by have := hx.out.lo; omega⟩
    have hq : q < 65 := by have := hx.out.hi; omega
    have hv64 : v < 18446744073709551616 := by
      have h1 := hx.out.left
      have h2 := hx.out.hi
      exact Nat.lt_of_lt_of_le h1 (Nat.le_trans (Nat.pow_le_pow_right (by omega) (show q + 1 - 49 ≤ 16 by omega)) (by decide))
    have hcl := hx.out.cells q hq
    have hfr := hx.out.free q hq
    by_cases hl : v < 16
    · have hlt : ¬ (16 : Int) ≤ v := by omega
      have hid := idx_digs .u64 (v : Int) v rfl hl
      have hsl : ∀ W, (Instr.sliceAt 310 (.pointer (some ⟨w.heap.size, 0, none⟩)) (some (.int .i64 (q : Int))) none none).run Tryz.prog W = .ok (.slice (some ⟨w.heap.size, q, none⟩) (65 - q) (65 - q)) W := fun W => by
        rw [run_sliceAt_array_l W 310 ⟨w.heap.size, 0, none⟩ (by simp [Program.arrayLen, Program.elem, Tryz.underlying310]) .i64 (q : Int) (by omega) (by rw [hal]; omega), hal]
        go_simp
        intro h
        omega
      have hcv : (convert 150 9 (.slice (some ⟨w.heap.size, q, none⟩) (65 - q) (65 - q))).run Tryz.prog (wr.setCell ⟨w.heap.size, q, none⟩ (.int .u8 ((Hex.hd v).toNat : Int))) = .ok (.string ⟨(Hex.wr n).toArray⟩) (wr.setCell ⟨w.heap.size, q, none⟩ (.int .u8 ((Hex.hd v).toNat : Int))) := by
        have ht := hx.out.text
        rw [Hex.wr_lo hl, List.singleton_append, ← range_put (Hex.hd v) hx.out.hi] at ht
        have hlen : (Hex.wr n).length = 65 - q := by rw [ht]; simp
        have h := run_convert_bytes_back (P := Tryz.prog) (wr.setCell ⟨w.heap.size, q, none⟩ (.int .u8 ((Hex.hd v).toNat : Int))) 150 9 5 ⟨w.heap.size, q, none⟩ (65 - q) (Hex.wr n) Tryz.underlying150 Tryz.underlying5 Tryz.underlying9 (fun j hj => by
          rw [Lib.add_plain, hx.out.put (Hex.hd v) (q + j) (by omega)]
          simp only [ht]
          rw [List.getElem_map, List.getElem_range])
        rw [hlen] at h
        exact h
      have HB := Lib.hid (hx.out.below.setCell (p := ⟨w.heap.size, q, none⟩) (Nat.le_refl _) (.int .u8 ((Hex.hd v).toNat : Int)))
      go_wp2
      exact bodyPost_ret (by simp [results, Tryz.results198, go_sem]) rfl ⟨rfl, HB.out⟩
    · have hge : (16 : Int) ≤ v := by omega
      have hid := idx_digs .u64 (bits .and .u64 (v : Int) 15) (v % 16) (bw_and15 v hv64) (by omega)
      have HS := Lib.hid (hx.out.step hl)
      go_wp2
      refine ⟨⟨q, v / 16, _, by norm_cast, rfl, HS⟩, by simp only [intOf]; omega⟩
theorem format_in (n : Nat) (hn : n < 18446744073709551616) (w : World) (ht : w.cell? ⟨17, 15, none⟩ = some (.int .u8 4)) :
    Calls Tryz.prog 164 #[.int .u64 (n : Int), .int .i64 16] w fun e w' => e = .returned (.string ⟨(Hex.wr n).toArray⟩) ∧ Below w.heap.size w w' := by
  go_enter Tryz.func164, Tryz.ntmps164
  go_wp2_with (refine (bits_16 n hn _ ht).mono ?_)
  rintro e w' ⟨rfl, hb⟩
  go_wp2
  go_ret
  exact ⟨rfl, hb⟩
/-- The library's writer of numbers in sixteens. -/
theorem format_any (n : Nat) (hn : n < 18446744073709551616) (w : World) (ht : w.cell? ⟨17, 15, none⟩ = some (.int .u8 4)) :
    Calls Tryz.prog 127 #[.int .u64 (n : Int), .int .i64 16] w fun e w' => e = .returned (.string ⟨(Hex.wr n).toArray⟩) ∧ Below w.heap.size w w' := by
  go_enter Tryz.func127, Tryz.ntmps127
  go_wp2_with (refine (format_in n hn _ ht).mono ?_)
  rintro e w' ⟨rfl, hb⟩
  go_wp2
  go_ret
  exact ⟨rfl, hb⟩
end Go.Proofs.YteilefpjfbholaaGreatDoor

namespace Go.Proofs.YteilefpjfbholaaGreatDoor
open Go.RowKit

/-- The library's tables and variables that carry reads. -/
structure HexW (w : World) : Prop where
  tab : w.cell? ⟨17, 15, none⟩ = some (.int .u8 4)
  syn : ∃ te pe, w.cell? ⟨12, 0, none⟩ = some (.iface te pe)
  ran : ∃ te pe, w.cell? ⟨13, 0, none⟩ = some (.iface te pe)
theorem HexW.below {B : Nat} {w w' : World} (h : HexW w) (hb : Below B w w') (hB : 18 ≤ B) : HexW w' := by
  obtain ⟨t1, p1, h1⟩ := h.syn
  obtain ⟨t2, p2, h2⟩ := h.ran
  exact ⟨(hb.cell (show 17 < B by omega)).trans h.tab, ⟨t1, p1, (hb.cell (show 12 < B by omega)).trans h1⟩, ⟨t2, p2, (hb.cell (show 13 < B by omega)).trans h2⟩⟩
/-- What the library's reader hands back. -/
def Got : Hex.End → Nat → Value → Prop
  | .ok n, v, x => v = n ∧ x = .nilIface
  | .bad, _, x => ∃ T p, x = .iface T p
  | .big, _, x => ∃ T p, x = .iface T p
set_option maxRecDepth 100000 in
theorem parse_in_any (t : ByteArray) (hmax : t.size ≤ 9223372036854775806) (w : World) :
    Calls Tryz.prog 175 #[.string t, .int .i64 16, .int .i64 64] w fun e w' => e = .returned (hexTuple 297 (Hex.read t.data.toList)) ∧ Below w.heap.size w w' := by
  by_cases hne : t.size = 0
  · have ht : t = ⟨#[]⟩ := by
      obtain ⟨⟨l⟩⟩ := t
      cases l with
      | nil => rfl
      | cons _ _ => simp [ByteArray.size] at hne
    subst ht
    go_enter Tryz.func175, Tryz.ntmps175
    go_wp2
    go_ret2
    exact ⟨rfl, Below.refl _ _⟩
  · refine (parse_in t hne hmax w).mono ?_
    rintro e w' ⟨rfl, rfl⟩
    refine ⟨?_, Lib.bytesWorld_below _ _ _⟩
    have : t.data.toList ≠ [] := fun h => hne (by rw [Lib.size_eq, h]; rfl)
    rw [Hex.read, if_neg this]
theorem parse_any (t : ByteArray) (hmax : t.size ≤ 281474976710656) (w : World) (hw : HexW w) (hG : 18 ≤ w.heap.size) :
    Calls Tryz.prog 136 #[.string t, .int .i64 16, .int .i64 64] w fun e w' => ∃ (v : Nat) (x : Value), e = .returned (.tuple #[.int .u64 v, x]) ∧ Below w.heap.size w w' ∧ Got (Hex.read t.data.toList) v x := by
  go_enter Tryz.func136, Tryz.ntmps136
  cases hr : Hex.read t.data.toList with
  | ok n =>
    have hp := parse_in_any t (by omega) w
    rw [hr, hexTuple] at hp
    go_wp2_with (refine hp.mono ?_)
    rintro e w' ⟨rfl, hb⟩
    go_wp2
    go_ret2
    exact ⟨n, _, rfl, hb, rfl, rfl⟩
  | bad =>
    have hp := parse_in_any t (by omega) w
    rw [hr, hexTuple] at hp
    go_wp2_with (refine hp.mono ?_)
    rintro e w1 ⟨rfl, hb⟩
    obtain ⟨te, pe, hs⟩ := (hw.below hb hG).syn
    go_wp2_with (refine (Tryz.strconv_toError_syntax _ t 16 64 _ _ hmax hs (.inr ⟨te, pe, rfl⟩)).mono ?_)
    rintro e w2 ⟨N, rfl, h1, h2, h3⟩
    go_wp2
    go_ret2
    exact ⟨0, _, rfl, hb.trans (h3.mono hb.size), _, _, rfl⟩
  | big =>
    have hp := parse_in_any t (by omega) w
    rw [hr, hexTuple] at hp
    go_wp2_with (refine hp.mono ?_)
    rintro e w1 ⟨rfl, hb⟩
    obtain ⟨te, pe, hs⟩ := (hw.below hb hG).ran
    go_wp2_with (refine (Tryz.strconv_toError_range _ t 16 64 _ _ hmax hs (.inr ⟨te, pe, rfl⟩)).mono ?_)
    rintro e w2 ⟨N, rfl, h1, h2, h3⟩
    go_wp2
    go_ret2
    exact ⟨18446744073709551615, _, rfl, hb.trans (h3.mono hb.size), _, _, rfl⟩
theorem repeat0 : ∀ c, Lib.repeatL [48] c = List.replicate c 48
  | 0 => rfl
  | c + 1 => by rw [Lib.repeatL, repeat0 c]; rfl
theorem ba_text (n d : Nat) : (⟨(Lib.repeatL (⟨#[48]⟩ : ByteArray).data.toList (d - (Hex.wr n).length)).toArray⟩ : ByteArray) ++ ⟨(Hex.wr n).toArray⟩ = ⟨(Hex.text n d).toArray⟩ := by
  rw [Hex.text, show (⟨#[48]⟩ : ByteArray).data.toList = [48] from rfl, repeat0]
  apply ByteArray.ext
  rw [ByteArray.data_append]
  simp
/-- carry's hex: a number in so many letters. -/
theorem hex_any (n d : Nat) (hn : n < 18446744073709551616) (hd : (Hex.wr n).length ≤ d) (hd16 : d ≤ 16) (w : World) (hw : HexW w) :
    Calls Tryz.prog 84 #[.int .u64 (n : Int), .int .i64 (d : Int)] w fun e w' => e = .returned (.string ⟨(Hex.text n d).toArray⟩) ∧ Below w.heap.size w w' := by
  have hsz : ByteArray.size ⟨(Hex.wr n).toArray⟩ = (Hex.wr n).length := by simp [ByteArray.size]
  have hT := ba_text n d
  obtain ⟨m, hm⟩ : ∃ m, m = (Hex.wr n).length := ⟨_, rfl⟩
  rw [← hm] at hsz hd hT
  clear hm
  have hs2 : ByteArray.size ⟨(Lib.repeatL [48] (d - m)).toArray⟩ = d - m := by simp [ByteArray.size, Lib.repeatL_length]
  have hs3 : ¬ (281474976710656 < d - m + m) := by omega
  go_enter Tryz.func84, Tryz.ntmps84
  go_wp2_with (refine (format_any n hn _ hw.tab).mono ?_)
  rintro e w1 rfl hb1
  have HB1 := Lib.hid hb1
  clear hb1
  have hmd : (d : Int) - (m : Int) = ((d - m : Nat) : Int) := by omega
  have HR := Tryz.strings_Repeat ⟨#[48]⟩ (d - m) w1 (by omega) (by show 1 * (d - m) ≤ _; omega)
  rw [← hmd] at HR
  clear hmd
  go_wp2_with (refine HR.mono ?_; rintro e w2 ⟨rfl, hb2⟩)
  go_ret
  exact ⟨rfl, HB1.out.trans (hb2.mono HB1.out.size)⟩
/-- carry's key: a word of so many letters. -/
theorem key_any (s : ByteArray) (d : Nat) (hd16 : d ≤ 16) (hmax : s.size ≤ 281474976710656) (w : World) (hw : HexW w) (hG : 18 ≤ w.heap.size) :
    Calls Tryz.prog 95 #[.string s, .int .i64 (d : Int)] w fun e w' => ∃ v : Nat, e = .returned (.tuple #[.int .u64 (v : Int), .bool (Hex.keyOf s.data.toList d).isSome]) ∧ Below w.heap.size w w' ∧ ∀ n, Hex.keyOf s.data.toList d = some n → v = n := by
  have hl : s.data.toList.length = s.size := by simp
  go_enter Tryz.func95, Tryz.ntmps95
  go_wp2_with (refine (parse_any s hmax _ hw hG).mono ?_)
  rintro e w1 ⟨v, x, rfl, hb1, hx⟩
  have hw1 := Lib.hid (hw.below hb1 hG)
  cases hr : Hex.read s.data.toList with
  | ok n =>
    rw [hr] at hx
    obtain ⟨rfl, rfl⟩ := hx
    have hn := Hex.read_64 hr
    have hln := Hex.read_len hr
    by_cases hsd : s.size = d
    · have HH := hex_any v d hn (by omega) hd16 w1 hw1.out
      have HK : Hid (Hex.keyOf s.data.toList d = if Hex.text v d = s.data.toList then some v else none) := Lib.hid (by simp [Hex.keyOf, hr, hl, hsd])
      have hsd' : (s.size : Int) = (d : Int) := by omega
      go_wp2_with (refine HH.mono ?_)
      rintro e w2 ⟨rfl, hb2⟩
      have hT : Hid ((Hex.text v d == s.toList) = (Hex.keyOf s.data.toList d).isSome) := Lib.hid (by
        rw [HK.out, ByteArray.toList_eq]
        by_cases h : Hex.text v d = s.data.toList <;> simp [h])
      have HB := Lib.hid (hb1.trans (hb2.mono hb1.size))
      go_wp2
      go_ret2
      refine ⟨v, by rw [← hT.out]; rfl, HB.out, fun n h => ?_⟩
      rw [HK.out] at h
      split at h
      · exact Option.some.inj h
      · cases h
    · have hk : Hex.keyOf s.data.toList d = none := by simp [Hex.keyOf, hr, hl, hsd]
      have hsd' : ¬ (s.size : Int) = (d : Int) := by omega
      go_wp2
      go_ret2
      refine ⟨v, by rw [hk]; rfl, hb1, fun n h => by rw [hk] at h; cases h⟩
  | bad =>
    rw [hr] at hx
    obtain ⟨T, p, rfl⟩ := hx
    have hk : Hex.keyOf s.data.toList d = none := by simp [Hex.keyOf, hr]
    go_wp2
    go_ret2
    refine ⟨v, by rw [hk]; rfl, hb1, fun n h => by rw [hk] at h; cases h⟩
  | big =>
    rw [hr] at hx
    obtain ⟨T, p, rfl⟩ := hx
    have hk : Hex.keyOf s.data.toList d = none := by simp [Hex.keyOf, hr]
    go_wp2
    go_ret2
    refine ⟨v, by rw [hk]; rfl, hb1, fun n h => by rw [hk] at h; cases h⟩
end Go.Proofs.YteilefpjfbholaaGreatDoor

namespace Go.Proofs.YteilefpjfbholaaGreatDoor
open Go.RowKit

/-- The library's table and variables that a number wants. -/
structure NumW (w : World) : Prop where
  pow : Lib.TabIs Tryz.prog w "internal/strconv.uint64pow10" .u64 Lib.pow10Tab
  syn : ∃ te pe, w.var? Tryz.prog "strconv.ErrSyntax" = some #[.iface te pe]
  ran : ∃ te pe, w.var? Tryz.prog "strconv.ErrRange" = some #[.iface te pe]
theorem NumW.below {B : Nat} {w w' : World} (h : NumW w) (hb : Below B w w') (hB : 18 ≤ B) : NumW w' := by
  obtain ⟨t1, p1, h1⟩ := h.syn
  obtain ⟨t2, p2, h2⟩ := h.ran
  have g1 : Tryz.prog.globalNamed "strconv.ErrSyntax" = some 12 := by kernel_rfl
  have g2 : Tryz.prog.globalNamed "strconv.ErrRange" = some 13 := by kernel_rfl
  have g3 : Tryz.prog.globalNamed "internal/strconv.uint64pow10" = some 10 := by kernel_rfl
  exact ⟨var?_below hb g3 (by omega) h.pow, ⟨t1, p1, var?_below hb g1 (by omega) h1⟩, ⟨t2, p2, var?_below hb g2 (by omega) h2⟩⟩
/-- What a word says: a number, just so written. -/
def numOf (l : List UInt8) : Option Nat :=
  match Lib.atoiAll l with
  | .ok v => if l.length ≤ 14 ∧ 0 ≤ v ∧ Lib.itoa v = l then some v.toNat else none
  | _ => none
theorem atoi_any (s : ByteArray) (hmax : s.size ≤ 281474976710656) (w : World) (hw : NumW w) :
    Calls Tryz.prog 173 #[.string s] w fun e w' => ∃ (v : Int) (x : Value), e = .returned (.tuple #[.int .i64 v, x]) ∧ Below w.heap.size w w' ∧ ((∃ n, Lib.atoiAll s.data.toList = .ok n ∧ v = n ∧ x = .nilIface) ∨ ((∀ n, Lib.atoiAll s.data.toList ≠ .ok n) ∧ ∃ T p, x = .iface T p)) := by
  cases hr : Lib.atoiAll s.data.toList with
  | ok n =>
    refine (Tryz.strconv_Atoi_ok s (by omega) n hr w).mono ?_
    rintro e w' ⟨rfl, hb⟩
    refine ⟨n, _, rfl, ?_, .inl ⟨n, rfl, rfl, rfl⟩⟩
    rcases hb with rfl | ⟨t, rfl⟩
    · exact Below.refl _ _
    · exact Lib.bytesWorld_below _ _ _
  | range =>
    obtain ⟨te, pe, hv⟩ := hw.ran
    refine (Tryz.strconv_Atoi_range_var s hmax hr te pe w hv).mono ?_
    rintro e w' ⟨N, rfl, h1, h2, h3⟩
    exact ⟨_, _, rfl, h3, .inr ⟨(fun n h => by cases h), _, _, rfl⟩⟩
  | _ =>
    obtain ⟨te, pe, hv⟩ := hw.syn
    refine (Tryz.strconv_Atoi_syntax_var s hmax hr te pe w hv).mono ?_
    rintro e w' ⟨N, rfl, h1, h2, h3⟩
    exact ⟨0, _, rfl, h3, .inr ⟨(fun n h => by cases h), _, _, rfl⟩⟩
theorem itoa_any (n : Int) (h0 : -9223372036854775808 ≤ n) (h1 : n ≤ 9223372036854775807) (w : World) (hw : NumW w) :
    Calls Tryz.prog 83 #[.int .i64 n] w fun e w' => e = .returned (.string ⟨(Lib.itoa n).toArray⟩) ∧ Below w.heap.size w w' := by
  refine (Tryz.strconv_Itoa n h0 h1 w hw.pow).mono ?_
  rintro e w' ⟨rfl, k, os, rfl⟩
  exact ⟨rfl, Lib.below_grow _ _ (Nat.le_refl _) _ _⟩
theorem number_any (s : ByteArray) (hmax : s.size ≤ 281474976710656) (w : World) (hw : NumW w) (hG : 18 ≤ w.heap.size) :
    Calls Tryz.prog 134 #[.string s] w fun e w' => ∃ v : Int, e = .returned (.tuple #[.int .i64 v, .bool (numOf s.data.toList).isSome]) ∧ Below w.heap.size w w' ∧ ∀ n, numOf s.data.toList = some n → v = n := by
  have hl : s.data.toList.length = s.size := by simp
  go_enter Tryz.func134, Tryz.ntmps134
  go_wp2_with (refine (atoi_any s hmax _ hw).mono ?_)
  rintro e w1 ⟨v, x, rfl, hb1, hx⟩
  have hw1 := Lib.hid (hw.below hb1 hG)
  rcases hx with ⟨n, hr, rfl, rfl⟩ | ⟨hr, T, p, rfl⟩
  · by_cases h14 : s.size ≤ 14
    · have h14' : (s.size : Int) ≤ 14 := by omega
      by_cases h0 : 0 ≤ v
      · have HK : Hid (numOf s.data.toList = if Lib.itoa v = s.data.toList then some v.toNat else none) := Lib.hid (by simp [numOf, hr, hl, h14, h0])
        have HI := itoa_any v (by omega) (Lib.atoiAll_bounds hr).2 w1 hw1.out
        clear hr
        go_wp2_with (refine HI.mono ?_; rintro e w2 ⟨rfl, hb2⟩)
        go_ret2
        have hT : (Lib.itoa v == s.toList) = (numOf s.data.toList).isSome := by
          rw [HK.out, ByteArray.toList_eq]
          by_cases h : Lib.itoa v = s.data.toList <;> simp [h]
        refine ⟨v, by rw [← hT]; rfl, hb1.trans (hb2.mono hb1.size), fun n h => ?_⟩
        rw [HK.out] at h
        split at h
        · have := Option.some.inj h; omega
        · cases h
      · have HK : Hid (numOf s.data.toList = none) := Lib.hid (by simp [numOf, hr, h0])
        clear hr
        go_wp2
        go_ret2
        exact ⟨v, by rw [HK.out]; rfl, hb1, fun n h => by rw [HK.out] at h; cases h⟩
    · have h14' : ¬ (s.size : Int) ≤ 14 := by omega
      have HK : Hid (numOf s.data.toList = none) := Lib.hid (by simp [numOf, hr, hl, h14])
      clear hr
      go_wp2
      go_ret2
      exact ⟨v, by rw [HK.out]; rfl, hb1, fun n h => by rw [HK.out] at h; cases h⟩
  · have HK : Hid (numOf s.data.toList = none) := Lib.hid (by
      unfold numOf
      split
      · rename_i n h; exact absurd h (hr n)
      · rfl)
    clear hr
    go_wp2
    go_ret2
    exact ⟨v, by rw [HK.out]; rfl, hb1, fun n h => by rw [HK.out] at h; cases h⟩
end Go.Proofs.YteilefpjfbholaaGreatDoor

namespace Go.Proofs.YteilefpjfbholaaGreatDoor
open Go.Lib

theorem pu_append : ∀ (l r : List UInt8) (acc a : Nat), parseUint10 acc l = .ok a → parseUint10 acc (l ++ r) = parseUint10 a r
  | [], r, acc, a, h => by
    simp only [parseUint10] at h
    injection h with h
    subst h
    rfl
  | c :: l, r, acc, a, h => by
    rw [List.cons_append]
    simp only [parseUint10] at h ⊢
    split at h
    · rename_i h1
      rw [if_pos h1]
      split at h
      · cases h
      · rename_i h2
        rw [if_neg h2]
        split at h
        · cases h
        · rename_i h3
          rw [if_neg h3]
          exact pu_append l r _ a h
    · cases h
theorem tenth (m : Nat) (h : m < 10) : (UInt8.ofNat (48 + m)).toNat = 48 + m := by
  rw [UInt8.toNat_ofNat']
  omega
theorem pu_digits (n : Nat) (hn : n < 9223372036854775808) : parseUint10 0 (decDigits n) = .ok n := by
  by_cases h : n < 10
  · rw [decDigits, dif_pos h]
    simp only [parseUint10]
    rw [tenth n h]
    rw [if_pos (by omega), if_neg (by omega), if_neg (by omega)]
    congr 1
    omega
  · rw [decDigits, dif_neg h, pu_append _ _ 0 (n / 10) (pu_digits (n / 10) (by omega))]
    simp only [parseUint10]
    rw [tenth _ (by omega)]
    rw [if_pos (by omega), if_neg (by omega), if_neg (by omega)]
    congr 1
    omega
termination_by n
theorem digits_head (n : Nat) : ∃ c r, decDigits n = c :: r ∧ c.toNat ≠ 43 ∧ c.toNat ≠ 45 := by
  by_cases h : n < 10
  · exact ⟨_, [], by rw [decDigits, dif_pos h], by rw [tenth n h]; omega, by rw [tenth n h]; omega⟩
  · obtain ⟨c, r, e, h1, h2⟩ := digits_head (n / 10)
    exact ⟨c, r ++ [UInt8.ofNat (48 + n % 10)], by rw [decDigits, dif_neg h, e]; rfl, h1, h2⟩
termination_by n
theorem atoi_digits (n : Nat) (hn : n < 9223372036854775808) : atoiAll (decDigits n) = .ok (n : Int) := by
  have hp := pu_digits n hn
  obtain ⟨c, r, e, h1, h2⟩ := digits_head n
  rw [e] at hp ⊢
  rw [atoiAll_plain c r h1 h2, parseMag, if_neg (by simp), hp, signless, if_neg (by omega)]
theorem numOf_digits (n : Nat) (hn : n < 9223372036854775808) (hl : (decDigits n).length ≤ 14) : numOf (decDigits n) = some n := by
  unfold numOf
  rw [atoi_digits n hn]
  simp only
  rw [if_pos ⟨hl, by omega, itoa_nonneg n⟩]
  simp
theorem numOf_some {l : List UInt8} {n : Nat} (h : numOf l = some n) : l = decDigits n ∧ l.length ≤ 14 := by
  unfold numOf at h
  split at h
  · split at h
    · rename_i v _ hc
      have hv := Option.some.inj h
      have e : v = (n : Int) := by omega
      rw [e, itoa_nonneg] at hc
      exact ⟨hc.2.2.symm, hc.1⟩
    · cases h
  · cases h
end Go.Proofs.YteilefpjfbholaaGreatDoor

namespace Go.Proofs.YteilefpjfbholaaGreatDoor
open Go.RowKit

/-- A text cut at each byte c. -/
def cuts (c : UInt8) : List UInt8 → List (List UInt8)
  | [] => [[]]
  | x :: r => if x = c then [] :: cuts c r else ((x :: (cuts c r).headD []) :: (cuts c r).tail)
theorem cuts_ne (c : UInt8) (l : List UInt8) : cuts c l ≠ [] := by
  cases l with
  | nil => simp [cuts]
  | cons x r => unfold cuts; split <;> simp
theorem cuts_len (c : UInt8) : ∀ l, (cuts c l).length = l.count c + 1
  | [] => rfl
  | x :: r => by
    have ih := cuts_len c r
    unfold cuts
    split
    · rename_i h
      subst h
      simp [ih]
    · rename_i h
      rw [List.count_cons_of_ne (by simpa using h)]
      simp [ih]
theorem split_cuts (c : UInt8) : ∀ l, Lib.splitK [c] 0 (l.count c) l = cuts c l
  | [] => rfl
  | x :: r => by
    have ih := split_cuts c r
    by_cases h : x = c
    · subst h
      rw [List.count_cons_self, Lib.splitK]
      have hi : Lib.index (x :: r) [x] = 0 := by rw [Lib.index_one, Lib.indexByte]; simp
      rw [if_neg (by rw [hi]; decide), hi]
      simp [cuts, ih]
    · rw [List.count_cons_of_ne (by simpa using h)]
      have hx : Lib.indexByte (x :: r) c = if Lib.indexByte r c == -1 then -1 else Lib.indexByte r c + 1 := by
        rw [Lib.indexByte, if_neg (by simpa using h)]
      have hge := Lib.indexByte_ge r c
      unfold cuts
      rw [if_neg h, ← ih]
      cases hk : r.count c with
      | zero => rfl
      | succ k =>
        have hm : ¬ Lib.indexByte r c = -1 := by
          intro e
          have := List.count_pos_iff.1 (by omega : 0 < r.count c)
          obtain ⟨i, hi⟩ := List.getElem?_of_mem this
          exact Lib.indexByte_none e i hi
        rw [Lib.splitK, Lib.splitK, Lib.index_one, Lib.index_one, hx]
        have hb : (Lib.indexByte r c == -1) = false := by simpa using hm
        rw [hb]
        simp only [Bool.false_eq_true, if_false]
        rw [if_neg (by simp only [beq_iff_eq]; omega)]
        have e : (Lib.indexByte r c + 1).toNat = (Lib.indexByte r c).toNat + 1 := by omega
        rw [e]
        simp
theorem split_any (s : ByteArray) (c : UInt8) (m : Int) (w : World) (hs : s.size < 4294967281) (hm : w.cell? ⟨11, 0, none⟩ = some (.int .i64 m)) :
    Calls Tryz.prog 91 #[.string s, .string ⟨#[c]⟩] w fun e w' => e = .returned (.slice (some ⟨w.heap.size, 0, none⟩) (cuts c s.data.toList).length (cuts c s.data.toList).length) ∧
      w' = w.alloc (.cells ((cuts c s.data.toList).map fun l => Value.string ⟨l.toArray⟩).toArray 9) := by
  refine (Tryz.strings_Split s ⟨#[c]⟩ m w hs hm (by show 1 ≤ 1; omega)).mono ?_
  rintro e w' ⟨rfl, rfl⟩
  have hc : Lib.countB s ⟨#[c]⟩ = s.data.toList.count c := Lib.count_one c s.data.toList
  have hd := Lib.splitB_data ⟨#[c]⟩ 0 (Lib.countB s ⟨#[c]⟩) s
  have hl : cuts c s.data.toList = (Lib.splitB ⟨#[c]⟩ 0 (Lib.countB s ⟨#[c]⟩) s).map (·.data.toList) := by
    rw [hd, hc]
    exact (split_cuts c _).symm
  refine ⟨by rw [cuts_len, hc], ?_⟩
  rw [hl, List.map_map]
  congr 4
end Go.Proofs.YteilefpjfbholaaGreatDoor

namespace Go.Proofs.YteilefpjfbholaaGreatDoor

theorem cuts_none (c : UInt8) : ∀ l : List UInt8, c ∉ l → cuts c l = [l]
  | [], _ => rfl
  | x :: r, h => by
    have hx : ¬ x = c := fun e => h (by rw [e]; exact List.mem_cons_self)
    rw [cuts, if_neg hx, cuts_none c r (fun m => h (List.mem_cons_of_mem _ m))]
    rfl
theorem cuts_cons (c : UInt8) : ∀ (l r : List UInt8), c ∉ l → cuts c (l ++ c :: r) = l :: cuts c r
  | [], r, _ => by rw [List.nil_append, cuts, if_pos rfl]
  | x :: l, r, h => by
    have hx : ¬ x = c := fun e => h (by rw [e]; exact List.mem_cons_self)
    rw [List.cons_append, cuts, if_neg hx, cuts_cons c l r (fun m => h (List.mem_cons_of_mem _ m))]
    rfl
/-- Whole lines, each ended by c. -/
theorem cuts_lines (c : UInt8) : ∀ ls : List (List UInt8), (∀ l ∈ ls, c ∉ l) → cuts c (ls.flatMap fun l => l ++ [c]) = ls ++ [[]]
  | [], _ => rfl
  | l :: ls, h => by
    rw [List.flatMap_cons, List.append_assoc, List.singleton_append, cuts_cons c l _ (h l List.mem_cons_self), cuts_lines c ls (fun m hm => h m (List.mem_cons_of_mem _ hm))]
    rfl
end Go.Proofs.YteilefpjfbholaaGreatDoor

namespace Go.Proofs.YteilefpjfbholaaGreatDoor.Crc

def step (c : BitVec 32) : BitVec 32 := (c >>> 1) ^^^ (0xEDB88320#32 * (c &&& 1#32))
def steps : Nat → BitVec 32 → BitVec 32
  | 0, c => c
  | n + 1, c => step (steps n c)
def byte (c : BitVec 32) (b : UInt8) : BitVec 32 := steps 8 (c ^^^ BitVec.ofNat 32 b.toNat)
def crc (l : List UInt8) : BitVec 32 := l.foldl byte 0xFFFFFFFF#32
/-- The sum of a text. -/
def sum (l : List UInt8) : Nat := (~~~ crc l).toNat
theorem sum_lt (l : List UInt8) : sum l < 4294967296 := (~~~ crc l).isLt
end Go.Proofs.YteilefpjfbholaaGreatDoor.Crc

namespace Go.Proofs.YteilefpjfbholaaGreatDoor
open Go.RowKit

theorem wrap_u32 (n : Nat) (h : n < 4294967296) : IntKind.u32.wrap (n : Int) = (n : Int) := by
  simp [IntKind.wrap, IntKind.bits, IntKind.signed]; omega
theorem bw_xor (a b : BitVec 32) : bits .xor .u32 (a.toNat : Int) (b.toNat : Int) = ((a ^^^ b).toNat : Int) := by
  have h := wrap_u32 (a ^^^ b).toNat (a ^^^ b).isLt
  simp [bits, IntKind.bits] at h ⊢
  try exact h
theorem bw_and1 (a : BitVec 32) : bits .and .u32 (a.toNat : Int) 1 = ((a &&& 1#32).toNat : Int) := by
  have h := wrap_u32 (a &&& 1#32).toNat (a &&& 1#32).isLt
  have h2 : (a &&& 1#32).toNat = a.toNat % 2 := by
    rw [BitVec.toNat_and]
    show a.toNat &&& 1 = _
    rw [Nat.and_one_is_mod]
  rw [h2] at h ⊢
  have := (by simp [bits, IntKind.bits] at h ⊢; exact (congrArg (fun n : Nat => IntKind.u32.wrap (n : Int)) h2).trans h : bits .and .u32 (a.toNat : Int) ((1#32).toNat : Int) = ((a.toNat % 2 : Nat) : Int))
  exact this
theorem bw_shr (a : BitVec 32) : ((a.toNat : Int) / (2 : Int)) = ((a >>> 1).toNat : Int) := by
  rw [BitVec.toNat_ushiftRight, Nat.shiftRight_eq_div_pow]
  omega
theorem bw_byte (b : UInt8) : (b.toNat : Int) = ((BitVec.ofNat 32 b.toNat).toNat : Int) := by
  have := b.toNat_lt
  rw [BitVec.toNat_ofNat, Nat.mod_eq_of_lt (by omega)]
theorem bw_xb (c : BitVec 32) (b : UInt8) : bits .xor .u32 (c.toNat : Int) (b.toNat : Int) = ((c ^^^ BitVec.ofNat 32 b.toNat).toNat : Int) := by
  rw [bw_byte b, bw_xor]
theorem bw_xm (c : BitVec 32) (b : UInt8) : bits .xor .u32 (c.toNat : Int) ((b.toNat : Int) % 4294967296) = ((c ^^^ BitVec.ofNat 32 b.toNat).toNat : Int) := by
  have := b.toNat_lt
  rw [show ((b.toNat : Int) % 4294967296) = (b.toNat : Int) by omega, bw_xb]
theorem bw_step (d : BitVec 32) : bits .xor .u32 ((d.toNat : Int) / 2) (3988292384 * bits .and .u32 (d.toNat : Int) 1 % 4294967296) = ((Crc.step d).toNat : Int) := by
  rw [bw_and1, bw_shr]
  have h : (3988292384 : Int) * ((d &&& 1#32).toNat : Int) % 4294967296 = ((0xEDB88320#32 * (d &&& 1#32)).toNat : Int) := by
    rw [BitVec.toNat_mul]
    show _ = ((3988292384 * (d &&& 1#32).toNat % 4294967296 : Nat) : Int)
    omega
  rw [h, bw_xor]
  rfl
theorem bw_not (c : BitVec 32) : IntKind.u64.wrap (bits .xor .u32 IntKind.u32.max (c.toNat : Int)) = ((~~~ c).toNat : Int) := by
  have h : IntKind.u32.max = ((4294967295#32).toNat : Int) := by decide
  rw [h, bw_xor]
  have h2 : 4294967295#32 ^^^ c = ~~~ c := by
    exact BitVec.allOnes_xor
  rw [h2]
  have := (~~~ c).isLt
  simp [IntKind.wrap, IntKind.bits, IntKind.signed]
  omega
theorem crc_snoc (l : List UInt8) (b : UInt8) : Crc.crc (l ++ [b]) = Crc.byte (Crc.crc l) b := by simp [Crc.crc, List.foldl_append]
theorem take_snocB (s : ByteArray) (k : Nat) (h : k < s.size) : s.data.toList.take (k + 1) = s.data.toList.take k ++ [s[k]] := by
  rw [List.take_succ_eq_append_getElem (by simpa using h)]; rfl
theorem ret_u64c {a b : Int} (h : a = b) : Ending.returned (.int .u64 a) = .returned (.int .u64 b) := by rw [h]
theorem int_u32 {a b : Int} (h : a = b) : Value.int .u32 a = .int .u32 b := by rw [h]
set_option maxHeartbeats 1000000 in
theorem sum_any (s : ByteArray) (w : World) (hs : s.size ≤ maxLen) :
    Calls Tryz.prog 85 #[.string s] w fun e w' => e = .returned (.int .u64 (Crc.sum s.data.toList : Int)) ∧ w = w' := by
  unfold maxLen at hs
  go_enter Tryz.func85, Tryz.ntmps85
  go_wp2
  go_loop [3, 7] (fun cv iv => ∃ (i : Nat) (c : BitVec 32), i ≤ s.size ∧ iv = .int .i64 (i : Int) ∧ Hid (c = Crc.crc (s.data.toList.take i)) ∧ cv = .int .u32 (c.toNat : Int)) (fun _ iv => s.size - (intOf iv).toNat)
  case atStart => exact ⟨0, 0xFFFFFFFF#32, Nat.zero_le _, rfl, Lib.hid rfl, rfl⟩
  case round =>
    obtain ⟨i, c, hi, rfl, hc, rfl⟩ := hrel
    by_cases hlt : i < s.size
    · have hlt2 : (i : Int) < s.size := by omega
      have hsn := Lib.hid (take_snocB s i hlt)
      go_wp2
      go_loop [3, 16] (fun cv jv => ∃ (j : Nat) (d : BitVec 32), j ≤ 8 ∧ jv = .int .i64 (j : Int) ∧ Hid (d = Crc.steps j (c ^^^ BitVec.ofNat 32 s[i].toNat)) ∧ cv = .int .u32 (d.toNat : Int)) (fun _ jv => 8 - (intOf jv).toNat)
      case atStart => 
        refine ⟨0, c ^^^ BitVec.ofNat 32 s[i].toNat, Nat.zero_le _, rfl, Lib.hid rfl, ?_⟩
        exact int_u32 (bw_xm c s[i])
      case round =>
        obtain ⟨j, d, hj, rfl, hd, rfl⟩ := hrel
        by_cases hl8 : j < 8
        · have hl8' : (j : Int) < 8 := by omega
          go_wp2
          refine ⟨⟨j + 1, Crc.step d, by omega, by norm_cast, ?_, int_u32 (bw_step d)⟩, ?_⟩
          · exact Lib.hid (by rw [hd.out]; rfl)
          · simp only [intOf]; omega
        · have hl8' : ¬ (j : Int) < 8 := by omega
          have hj8 : j = 8 := by omega
          subst hj8
          go_wp2
          refine ⟨⟨i + 1, d, by omega, by norm_cast, ?_, rfl⟩, ?_⟩
          · exact Lib.hid (by rw [hsn.out, crc_snoc, ← hc.out, hd.out]; rfl)
          · simp only [intOf]; omega
    · have hge : ¬ (i : Int) < s.size := by omega
      have hk := hc.out
      rw [List.take_of_length_le (by simpa using (by omega : s.size ≤ i))] at hk
      go_wp2
      exact bodyPost_ret (by simp [results, Tryz.results85, go_sem]; rfl) rfl ⟨ret_u64c (by rw [bw_not]; rfl), rfl⟩
end Go.Proofs.YteilefpjfbholaaGreatDoor
