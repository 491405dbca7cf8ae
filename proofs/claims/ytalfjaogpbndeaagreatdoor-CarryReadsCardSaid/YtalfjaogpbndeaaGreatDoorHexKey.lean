/-
  The walks of carry's hex and key.
-/
import Derived.Test.YtalfjaogpbndeaaGreatDoorHexRead
import Derived.Test.YtalfjaogpbndeaaGreatDoorHexWrite
import Derived.Test.YtalfjaogpbndeaaGreatDoorShelfC
namespace Go.Proofs.YtalfjaogpbndeaaGreatDoor
open Go.RowKit

/-- The library's tables and variables that carry reads. -/
structure HexW (w : World) : Prop where
  tab : w.cell? ⟨17, 15, none⟩ = some (.int .u8 4)
  syn : ∃ te pe, w.cell? ⟨12, 0, none⟩ = some (.iface te pe)
  ran : ∃ te pe, w.cell? ⟨13, 0, none⟩ = some (.iface te pe)
theorem HexW.below {B : Nat} {w w' : World} (h : HexW w) (hb : Below B w w') (hB : 18 ≤ B) : HexW w' := by
  obtain ⟨t1, p1, h1⟩ := h.syn
  obtain ⟨t2, p2, h2⟩ := h.ran
  exact ⟨(hb.cell (show 17 < B by omega)).trans h.tab, ⟨t1, p1, (hb.cell (show 12 < B by omega)).trans h1⟩, ⟨t2, p2, (hb.cell (show 13 < B by omega)).trans h2⟩⟩
/-- What the library's reader hands back. -/
def Got : Hex.End → Nat → Value → Prop
  | .ok n, v, x => v = n ∧ x = .nilIface
  | .bad, _, x => ∃ T p, x = .iface T p
  | .big, _, x => ∃ T p, x = .iface T p
set_option maxRecDepth 100000 in
theorem parse_in_any (t : ByteArray) (hmax : t.size ≤ 9223372036854775806) (w : World) :
    Calls Tryz.prog 71 #[.string t, .int .i64 16, .int .i64 64] w fun e w' => e = .returned (hexTuple 151 (Hex.read t.data.toList)) ∧ Below w.heap.size w w' := by
  by_cases hne : t.size = 0
  · have ht : t = ⟨#[]⟩ := by
      obtain ⟨⟨l⟩⟩ := t
      cases l with
      | nil => rfl
      | cons _ _ => simp [ByteArray.size] at hne
    subst ht
    go_enter Tryz.func71, Tryz.ntmps71
    go_wp2
    go_ret2
    exact ⟨rfl, Below.refl _ _⟩
  · refine (parse_in t hne hmax w).mono ?_
    rintro e w' ⟨rfl, rfl⟩
    refine ⟨?_, Lib.bytesWorld_below _ _ _⟩
    have : t.data.toList ≠ [] := fun h => hne (by rw [Lib.size_eq, h]; rfl)
    rw [Hex.read, if_neg this]
theorem parse_any (t : ByteArray) (hmax : t.size ≤ 281474976710656) (w : World) (hw : HexW w) (hG : 18 ≤ w.heap.size) :
    Calls Tryz.prog 49 #[.string t, .int .i64 16, .int .i64 64] w fun e w' => ∃ (v : Nat) (x : Value), e = .returned (.tuple #[.int .u64 v, x]) ∧ Below w.heap.size w w' ∧ Got (Hex.read t.data.toList) v x := by
  go_enter Tryz.func49, Tryz.ntmps49
  cases hr : Hex.read t.data.toList with
  | ok n =>
    have hp := parse_in_any t (by omega) w
    rw [hr, hexTuple] at hp
    go_wp2_with (refine hp.mono ?_)
    rintro e w' ⟨rfl, hb⟩
    go_wp2
    go_ret2
    exact ⟨n, _, rfl, hb, rfl, rfl⟩
  | bad =>
    have hp := parse_in_any t (by omega) w
    rw [hr, hexTuple] at hp
    go_wp2_with (refine hp.mono ?_)
    rintro e w1 ⟨rfl, hb⟩
    obtain ⟨te, pe, hs⟩ := (hw.below hb hG).syn
    go_wp2_with (refine (Tryz.strconv_toError_syntax _ t 16 64 _ _ hmax hs (.inr ⟨te, pe, rfl⟩)).mono ?_)
    rintro e w2 ⟨N, rfl, h1, h2, h3⟩
    go_wp2
    go_ret2
    exact ⟨0, _, rfl, hb.trans (h3.mono hb.size), _, _, rfl⟩
  | big =>
    have hp := parse_in_any t (by omega) w
    rw [hr, hexTuple] at hp
    go_wp2_with (refine hp.mono ?_)
    rintro e w1 ⟨rfl, hb⟩
    obtain ⟨te, pe, hs⟩ := (hw.below hb hG).ran
    go_wp2_with (refine (Tryz.strconv_toError_range _ t 16 64 _ _ hmax hs (.inr ⟨te, pe, rfl⟩)).mono ?_)
    rintro e w2 ⟨N, rfl, h1, h2, h3⟩
    go_wp2
    go_ret2
    exact ⟨18446744073709551615, _, rfl, hb.trans (h3.mono hb.size), _, _, rfl⟩
theorem repeat0 : ∀ c, Lib.repeatL [48] c = List.replicate c 48
  | 0 => rfl
  | c + 1 => by rw [Lib.repeatL, repeat0 c]; rfl
theorem ba_text (n d : Nat) : (⟨(Lib.repeatL (⟨#[48]⟩ : ByteArray).data.toList (d - (Hex.wr n).length)).toArray⟩ : ByteArray) ++ ⟨(Hex.wr n).toArray⟩ = ⟨(Hex.text n d).toArray⟩ := by
  rw [Hex.text, show (⟨#[48]⟩ : ByteArray).data.toList = [48] from rfl, repeat0]
  apply ByteArray.ext
  rw [ByteArray.data_append]
  simp
/-- carry's hex: a number in so many letters. -/
theorem hex_any (n d : Nat) (hn : n < 18446744073709551616) (hd : (Hex.wr n).length ≤ d) (hd16 : d ≤ 16) (w : World) (hw : HexW w) :
    Calls Tryz.prog 19 #[.int .u64 (n : Int), .int .i64 (d : Int)] w fun e w' => e = .returned (.string ⟨(Hex.text n d).toArray⟩) ∧ Below w.heap.size w w' := by
  have hsz : ByteArray.size ⟨(Hex.wr n).toArray⟩ = (Hex.wr n).length := by simp [ByteArray.size]
  have hT := ba_text n d
  obtain ⟨m, hm⟩ : ∃ m, m = (Hex.wr n).length := ⟨_, rfl⟩
  rw [← hm] at hsz hd hT
  clear hm
  have hs2 : ByteArray.size ⟨(Lib.repeatL [48] (d - m)).toArray⟩ = d - m := by simp [ByteArray.size, Lib.repeatL_length]
  have hs3 : ¬ (281474976710656 < d - m + m) := by omega
  go_enter Tryz.func19, Tryz.ntmps19
  go_wp2_with (refine (format_any n hn _ hw.tab).mono ?_)
  rintro e w1 rfl hb1
  have HB1 := Lib.hid hb1
  clear hb1
  have hmd : (d : Int) - (m : Int) = ((d - m : Nat) : Int) := by omega
  have HR := Tryz.strings_Repeat ⟨#[48]⟩ (d - m) w1 (by omega) (by show 1 * (d - m) ≤ _; omega)
  rw [← hmd] at HR
  clear hmd
  go_wp2_with (refine HR.mono ?_; rintro e w2 ⟨rfl, hb2⟩)
  go_ret
  exact ⟨rfl, HB1.out.trans (hb2.mono HB1.out.size)⟩
/-- carry's key: a word of so many letters. -/
theorem key_any (s : ByteArray) (d : Nat) (hd16 : d ≤ 16) (hmax : s.size ≤ 281474976710656) (w : World) (hw : HexW w) (hG : 18 ≤ w.heap.size) :
    Calls Tryz.prog 30 #[.string s, .int .i64 (d : Int)] w fun e w' => ∃ v : Nat, e = .returned (.tuple #[.int .u64 (v : Int), .bool (Hex.keyOf s.data.toList d).isSome]) ∧ Below w.heap.size w w' ∧ ∀ n, Hex.keyOf s.data.toList d = some n → v = n := by
  have hl : s.data.toList.length = s.size := by simp
  go_enter Tryz.func30, Tryz.ntmps30
  go_wp2_with (refine (parse_any s hmax _ hw hG).mono ?_)
  rintro e w1 ⟨v, x, rfl, hb1, hx⟩
  have hw1 := Lib.hid (hw.below hb1 hG)
  cases hr : Hex.read s.data.toList with
  | ok n =>
    rw [hr] at hx
    obtain ⟨rfl, rfl⟩ := hx
    have hn := Hex.read_64 hr
    have hln := Hex.read_len hr
    by_cases hsd : s.size = d
    · have HH := hex_any v d hn (by omega) hd16 w1 hw1.out
      have HK : Hid (Hex.keyOf s.data.toList d = if Hex.text v d = s.data.toList then some v else none) := Lib.hid (by simp [Hex.keyOf, hr, hl, hsd])
      have hsd' : (s.size : Int) = (d : Int) := by omega
      go_wp2_with (refine HH.mono ?_)
      rintro e w2 ⟨rfl, hb2⟩
      have hT : Hid ((Hex.text v d == s.toList) = (Hex.keyOf s.data.toList d).isSome) := Lib.hid (by
        rw [HK.out, ByteArray.toList_eq]
        by_cases h : Hex.text v d = s.data.toList <;> simp [h])
      have HB := Lib.hid (hb1.trans (hb2.mono hb1.size))
      go_wp2
      go_ret2
      refine ⟨v, by rw [← hT.out]; rfl, HB.out, fun n h => ?_⟩
      rw [HK.out] at h
      split at h
      · exact Option.some.inj h
      · cases h
    · have hk : Hex.keyOf s.data.toList d = none := by simp [Hex.keyOf, hr, hl, hsd]
      have hsd' : ¬ (s.size : Int) = (d : Int) := by omega
      go_wp2
      go_ret2
      refine ⟨v, by rw [hk]; rfl, hb1, fun n h => by rw [hk] at h; cases h⟩
  | bad =>
    rw [hr] at hx
    obtain ⟨T, p, rfl⟩ := hx
    have hk : Hex.keyOf s.data.toList d = none := by simp [Hex.keyOf, hr]
    go_wp2
    go_ret2
    refine ⟨v, by rw [hk]; rfl, hb1, fun n h => by rw [hk] at h; cases h⟩
  | big =>
    rw [hr] at hx
    obtain ⟨T, p, rfl⟩ := hx
    have hk : Hex.keyOf s.data.toList d = none := by simp [Hex.keyOf, hr]
    go_wp2
    go_ret2
    refine ⟨v, by rw [hk]; rfl, hb1, fun n h => by rw [hk] at h; cases h⟩
end Go.Proofs.YtalfjaogpbndeaaGreatDoor
