/-
  The walk of the library's reader of numbers in sixteens.
-/
import Derived.Test.YtalfjaogpbndeaaGreatDoorBase
import Derived.Test.YtalfjaogpbndeaaGreatDoorHexLaws
import Derived.Lib.Strings
import Derived.Lib.ConvBytes
import Derived.Lib.AtoiAllMem
import Derived.Laws.Closers25
import Derived.Laws.Closers25b
import Derived.WalkKit
import Derived.BigCall
import Derived.BigGuard
namespace Go.Proofs.YtalfjaogpbndeaaGreatDoor
open Go.RowKit

theorem bw_or8 (c : UInt8) : bits .or .u8 (c.toNat : Int) 32 = (Hex.low c : Int) := by
  have h := (c ||| 32).toNat_lt
  have h3 : (c.toBitVec ||| 32#8).toNat = (c ||| 32).toNat := rfl
  have h4 : (c.toBitVec ||| 32#8).toNat = c.toNat ||| 32 := by rw [BitVec.toNat_or]; rfl
  unfold Hex.low
  rw [← h3] at h ⊢
  simp [bits, IntKind.bits]
  rw [IntKind.wrap_u8]
  exact (show ((c.toBitVec ||| 32#8).toNat : Int) % 256 = ((c.toNat ||| 32 : Nat) : Int) by omega)
theorem lower_any (c : UInt8) (w : World) :
    Calls Tryz.prog 90 #[.int .u8 (c.toNat : Int)] w fun e w' => e = .returned (.int .u8 (Hex.low c : Int)) ∧ w' = w := by
  have h := bw_or8 c
  go_enter Tryz.func90, Tryz.ntmps90
  go_wp2
  go_ret
  exact ⟨rfl, rfl⟩
def hexTuple (T : TypeId) : Hex.End → Value
  | .ok n => .tuple #[.int .u64 n, .nilIface]
  | .bad => .tuple #[.int .u64 0, .iface T (.int .i64 2)]
  | .big => .tuple #[.int .u64 18446744073709551615, .iface T (.int .i64 1)]

set_option maxHeartbeats 4000000 in
set_option maxRecDepth 100000 in
theorem parse_in (t : ByteArray) (hne : t.size ≠ 0) (hmax : t.size ≤ 9223372036854775806) (w : World) :
    Calls Tryz.prog 71 #[.string t, .int .i64 16, .int .i64 64] w fun e w' => e = .returned (hexTuple 151 (Hex.rd 0 t.data.toList)) ∧ w' = Lib.bytesWorld w 5 t := by
  have hemp : t.toList.isEmpty = false := by
    rw [← decide_eq_emptyBytes]
    exact decide_eq_false (fun h => hne (by rw [h]; rfl))
  have hcv := Lib.run_convert_string_bytes (P := Tryz.prog) w 9 49 5 t (u := .string) Tryz.underlying9 Tryz.underlying49 Tryz.underlying5
  have hB : ∀ j, j < t.size → (Lib.bytesWorld w 5 t).cell? ⟨w.heap.size, j, none⟩ = some (.int .u8 (t.data.toList.getD j 0).toNat) := fun j hj => Lib.bytesWorld_cell w 5 t j hj
  obtain ⟨W1, hW1⟩ : ∃ W1, W1 = Lib.bytesWorld w 5 t := ⟨_, rfl⟩
  rw [← hW1] at hcv hB ⊢
  clear hW1
  obtain ⟨bs, hL⟩ : ∃ bs, bs = t.data.toList := ⟨_, rfl⟩
  have hLn : bs.length = t.size := by rw [hL, Lib.size_eq]
  rw [← hL] at hB ⊢
  clear hL
  have hmv : IntKind.u64.wrap (IntKind.u64.wrap 18446744073709551616 - 1) = 18446744073709551615 := by
    rw [IntKind.wrap_u64, IntKind.wrap_u64]
    decide
  go_enter Tryz.func71, Tryz.ntmps71
  go_wp2
  go_loop [12, 13, 101] (fun vu vn vi => ∃ (k acc : Nat) (a : Int), vu = .bool false ∧ vn = .int .u64 a ∧ vi = .int .i64 k ∧ k ≤ t.size ∧ Hid (a = (acc : Int) ∧ acc < 18446744073709551616 ∧ Hex.rd 0 bs = Hex.rd acc (bs.drop k)))
    (fun _ _ vi => t.size - (intOf vi).toNat)
  case atStart => exact ⟨0, 0, 0, rfl, rfl, rfl, by omega, rfl, by omega, rfl⟩
  case round =>
    obtain ⟨k, acc, a, rfl, rfl, rfl, hk, hh⟩ := hrel
    obtain ⟨ha, hacc, hdec⟩ := hh.out
    clear hh
    have a0 : 0 ≤ a := by omega
    have a1 : a < 18446744073709551616 := by omega
    by_cases hkn : k < t.size
    · have hc := hB k hkn
      have hdrop : bs.drop k = bs[k]'(by omega) :: bs.drop (k + 1) := List.drop_eq_getElem_cons (by omega)
      have hget : bs.getD k 0 = bs[k]'(by omega) := by simp [List.getD, List.getElem?_eq_getElem (show k < bs.length by omega)]
      rw [hdrop] at hdec
      rw [hget] at hc
      generalize bs[k]'(by omega) = c at hc hdec
      have hc256 : c.toNat < 256 := c.toNat_lt
      have hl256 : Hex.low c < 256 := (c ||| 32).toNat_lt
      obtain ⟨m, hm⟩ : ∃ m : Int, m = (Hex.low c : Int) := ⟨_, rfl⟩
      have HLO : Hid (∀ w, Calls Tryz.prog 90 #[.int .u8 (c.toNat : Int)] w fun e w' => e = .returned (.int .u8 m) ∧ w' = w) := Lib.hid (by rw [hm]; exact lower_any c)
      clear hB hdrop hget
      by_cases hdig : 48 ≤ c.toNat ∧ c.toNat ≤ 57
      · have hd : Hex.dig c = some (c.toNat - 48) := by simp [Hex.dig, hdig]
        obtain ⟨hd0, hd1⟩ := hdig
        by_cases hcut : 1152921504606846976 ≤ acc
        · have hF : Hex.rd acc (c :: bs.drop (k + 1)) = .big := by simp [Hex.rd, hd, hcut]
          rw [hF] at hdec
          have icut : 1152921504606846976 ≤ a := by omega
          clear hcut hacc hF ha hd
          go_wp2
          go_ret2
          exact ⟨rfl, rfl⟩
        · have hF : Hex.rd acc (c :: bs.drop (k + 1)) = Hex.rd (acc * 16 + (c.toNat - 48)) (bs.drop (k + 1)) := by simp [Hex.rd, hd, hcut]
          have HN : Hid (a * 16 + ((c.toNat : Int) - 48) = ((acc * 16 + (c.toNat - 48) : Nat) : Int) ∧ acc * 16 + (c.toNat - 48) < 18446744073709551616 ∧ Hex.rd 0 bs = Hex.rd (acc * 16 + (c.toNat - 48)) (bs.drop (k + 1))) := Lib.hid ⟨by omega, by omega, hdec.trans hF⟩
          have icut : a < 1152921504606846976 := by omega
          have iov : a * 16 + ((c.toNat : Int) - 48) < 18446744073709551616 := by omega
          clear hcut hacc hF hdec ha hd
          go_wp2
          refine ⟨⟨k + 1, acc * 16 + (c.toNat - 48), a * 16 + ((c.toNat : Int) - 48), rfl, (by first | rfl | (congr 1; omega)), (by first | rfl | (congr 1; omega)), by omega, HN⟩, by simp [intOf]; omega⟩
      · by_cases hlet : 97 ≤ Hex.low c ∧ Hex.low c < 103
        · have hd : Hex.dig c = some (Hex.low c - 87) := by simp [Hex.dig, hdig, hlet]
          obtain ⟨hl0, hl1⟩ := hlet
          have hn95 : c.toNat ≠ 95 := by
            intro h
            have : c = 95 := UInt8.toNat_inj.1 h
            subst this
            revert hl1; decide
          have hn95' : ¬ (c.toNat : Int) = 95 := by omega
          have ho : (c.toNat : Int) < 48 ∨ 57 < (c.toNat : Int) := by omega
          have il0 : 97 ≤ m := by omega
          have il1 : m < 103 := by omega
          have iw1 : IntKind.u8.wrap (m - 97) = m - 97 := by rw [IntKind.wrap_u8]; omega
          have iw2 : IntKind.u8.wrap (m - 97 + 10) = m - 97 + 10 := by rw [IntKind.wrap_u8]; omega
          by_cases hcut : 1152921504606846976 ≤ acc
          · have hF : Hex.rd acc (c :: bs.drop (k + 1)) = .big := by simp [Hex.rd, hd, hcut]
            rw [hF] at hdec
            have icut : 1152921504606846976 ≤ a := by omega
            clear hcut hacc hF ha hd hdig hm hl0 hl1 hl256 hn95
            rcases ho with ho | ho
            all_goals go_wp2_with (refine (HLO.out _).mono ?_; rintro e w' ⟨rfl, rfl⟩)
            all_goals go_ret2
            all_goals first | exact ⟨rfl, rfl⟩ | exact ⟨by rw [hdec]; rfl, rfl⟩ | (rw [hdec]; exact ⟨rfl, rfl⟩)
          · have hF : Hex.rd acc (c :: bs.drop (k + 1)) = Hex.rd (acc * 16 + (Hex.low c - 87)) (bs.drop (k + 1)) := by simp [Hex.rd, hd, hcut]
            obtain ⟨lo, hlo⟩ : ∃ lo, lo = Hex.low c := ⟨_, rfl⟩
            rw [← hlo] at hl0 hl1 hl256 hd hF hm
            clear hlo
            have HN : Hid (a * 16 + (m - 97 + 10) = ((acc * 16 + (lo - 87) : Nat) : Int) ∧ acc * 16 + (lo - 87) < 18446744073709551616 ∧ Hex.rd 0 bs = Hex.rd (acc * 16 + (lo - 87)) (bs.drop (k + 1))) := Lib.hid ⟨by omega, by omega, hdec.trans hF⟩
            have icut : a < 1152921504606846976 := by omega
            have iov : a * 16 + (m - 97 + 10) < 18446744073709551616 := by omega
            clear hcut hacc hF hdec ha hd hdig hm hl0 hl1 hl256 hn95
            rcases ho with ho | ho
            all_goals go_wp2_with (refine (HLO.out _).mono ?_; rintro e w' ⟨rfl, rfl⟩)
            all_goals refine ⟨⟨k + 1, acc * 16 + (lo - 87), a * 16 + (m - 97 + 10), rfl, (by first | rfl | (congr 1; omega)), (by first | rfl | (congr 1; omega)), by omega, HN⟩, by simp [intOf]; omega⟩
        · have hd : Hex.dig c = none := by simp [Hex.dig, hdig, hlet]
          have hF : Hex.rd acc (c :: bs.drop (k + 1)) = .bad := by simp [Hex.rd, hd]
          rw [hF] at hdec
          have ho : (c.toNat : Int) < 48 ∨ 57 < (c.toNat : Int) := by omega
          have hl : m < 97 ∨ 103 ≤ m ∧ m ≤ 122 ∨ 122 < m := by omega
          have il1 : m < 256 := by omega
          have il2 : 0 ≤ m := by omega
          have hu : (c.toNat : Int) = 95 ∨ ¬ (c.toNat : Int) = 95 := by omega
          clear hdig hlet hm hl256 hacc hF ha hd
          rcases hu with hu | hu
          · have HLU : Hid (∀ w, Calls Tryz.prog 90 #[.int .u8 95] w fun e w' => e = .returned (.int .u8 m) ∧ w' = w) := by
              have := HLO.out
              rw [hu] at this
              exact Lib.hid this
            rcases hl with hl | ⟨hl, hl2⟩ | hl
            all_goals go_wp2_with (refine (HLU.out _).mono ?_; rintro e w' ⟨rfl, rfl⟩)
            all_goals go_ret2
            all_goals first | exact ⟨rfl, rfl⟩ | exact ⟨by rw [hdec]; rfl, rfl⟩ | (rw [hdec]; exact ⟨rfl, rfl⟩)
          · rcases ho with ho | ho <;> rcases hl with hl | ⟨hl, hl2⟩ | hl
            all_goals go_wp2_with (refine (HLO.out _).mono ?_; rintro e w' ⟨rfl, rfl⟩)
            all_goals go_ret2
            all_goals first | exact ⟨rfl, rfl⟩ | exact ⟨by rw [hdec]; rfl, rfl⟩ | (rw [hdec]; exact ⟨rfl, rfl⟩)
    · have hkk : k = t.size := by omega
      subst hkk
      have hF : Hex.rd acc (bs.drop t.size) = .ok acc := by rw [List.drop_eq_nil_of_le (by omega)]; rfl
      rw [hF] at hdec
      subst ha
      clear hacc hF a0 a1
      go_wp2
      go_ret2
      exact ⟨rfl, rfl⟩
end Go.Proofs.YtalfjaogpbndeaaGreatDoor
