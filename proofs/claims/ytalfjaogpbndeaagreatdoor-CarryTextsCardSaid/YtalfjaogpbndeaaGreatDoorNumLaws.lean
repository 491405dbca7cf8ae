/-
  The walk of carry's number.
  What is written in tens is read.
-/
import Derived.Test.YtalfjaogpbndeaaGreatDoorBase
import Derived.Test.YtalfjaogpbndeaaGreatDoorShelfC
import Derived.Lib.AppendIntMem
import Derived.Lib.AtoiErrMem
import Derived.Lib.AtoiAllCases
import Derived.WalkSmall
namespace Go.Proofs.YtalfjaogpbndeaaGreatDoor
open Go.RowKit

/-- The library's table and variables that a number wants. -/
structure NumW (w : World) : Prop where
  pow : Lib.TabIs Tryz.prog w "internal/strconv.uint64pow10" .u64 Lib.pow10Tab
  syn : ∃ te pe, w.var? Tryz.prog "strconv.ErrSyntax" = some #[.iface te pe]
  ran : ∃ te pe, w.var? Tryz.prog "strconv.ErrRange" = some #[.iface te pe]
theorem NumW.below {B : Nat} {w w' : World} (h : NumW w) (hb : Below B w w') (hB : 18 ≤ B) : NumW w' := by
  obtain ⟨t1, p1, h1⟩ := h.syn
  obtain ⟨t2, p2, h2⟩ := h.ran
  have g1 : Tryz.prog.globalNamed "strconv.ErrSyntax" = some 12 := by kernel_rfl
  have g2 : Tryz.prog.globalNamed "strconv.ErrRange" = some 13 := by kernel_rfl
  have g3 : Tryz.prog.globalNamed "internal/strconv.uint64pow10" = some 10 := by kernel_rfl
  exact ⟨var?_below hb g3 (by omega) h.pow, ⟨t1, p1, var?_below hb g1 (by omega) h1⟩, ⟨t2, p2, var?_below hb g2 (by omega) h2⟩⟩
/-- What a word says: a number, just so written. -/
def numOf (l : List UInt8) : Option Nat :=
  match Lib.atoiAll l with
  | .ok v => if l.length ≤ 14 ∧ 0 ≤ v ∧ Lib.itoa v = l then some v.toNat else none
  | _ => none
theorem atoi_any (s : ByteArray) (hmax : s.size ≤ 281474976710656) (w : World) (hw : NumW w) :
    Calls Tryz.prog 69 #[.string s] w fun e w' => ∃ (v : Int) (x : Value), e = .returned (.tuple #[.int .i64 v, x]) ∧ Below w.heap.size w w' ∧ ((∃ n, Lib.atoiAll s.data.toList = .ok n ∧ v = n ∧ x = .nilIface) ∨ ((∀ n, Lib.atoiAll s.data.toList ≠ .ok n) ∧ ∃ T p, x = .iface T p)) := by
  cases hr : Lib.atoiAll s.data.toList with
  | ok n =>
    refine (Tryz.strconv_Atoi_ok s (by omega) n hr w).mono ?_
    rintro e w' ⟨rfl, hb⟩
    refine ⟨n, _, rfl, ?_, .inl ⟨n, rfl, rfl, rfl⟩⟩
    rcases hb with rfl | ⟨t, rfl⟩
    · exact Below.refl _ _
    · exact Lib.bytesWorld_below _ _ _
  | range =>
    obtain ⟨te, pe, hv⟩ := hw.ran
    refine (Tryz.strconv_Atoi_range_var s hmax hr te pe w hv).mono ?_
    rintro e w' ⟨N, rfl, h1, h2, h3⟩
    exact ⟨_, _, rfl, h3, .inr ⟨(fun n h => by cases h), _, _, rfl⟩⟩
  | _ =>
    obtain ⟨te, pe, hv⟩ := hw.syn
    refine (Tryz.strconv_Atoi_syntax_var s hmax hr te pe w hv).mono ?_
    rintro e w' ⟨N, rfl, h1, h2, h3⟩
    exact ⟨0, _, rfl, h3, .inr ⟨(fun n h => by cases h), _, _, rfl⟩⟩
theorem itoa_any (n : Int) (h0 : -9223372036854775808 ≤ n) (h1 : n ≤ 9223372036854775807) (w : World) (hw : NumW w) :
    Calls Tryz.prog 18 #[.int .i64 n] w fun e w' => e = .returned (.string ⟨(Lib.itoa n).toArray⟩) ∧ Below w.heap.size w w' := by
  refine (Tryz.strconv_Itoa n h0 h1 w hw.pow).mono ?_
  rintro e w' ⟨rfl, k, os, rfl⟩
  exact ⟨rfl, Lib.below_grow _ _ (Nat.le_refl _) _ _⟩
theorem number_any (s : ByteArray) (hmax : s.size ≤ 281474976710656) (w : World) (hw : NumW w) (hG : 18 ≤ w.heap.size) :
    Calls Tryz.prog 47 #[.string s] w fun e w' => ∃ v : Int, e = .returned (.tuple #[.int .i64 v, .bool (numOf s.data.toList).isSome]) ∧ Below w.heap.size w w' ∧ ∀ n, numOf s.data.toList = some n → v = n := by
  have hl : s.data.toList.length = s.size := by simp
  go_enter Tryz.func47, Tryz.ntmps47
  go_wp2_with (refine (atoi_any s hmax _ hw).mono ?_)
  rintro e w1 ⟨v, x, rfl, hb1, hx⟩
  have hw1 := Lib.hid (hw.below hb1 hG)
  rcases hx with ⟨n, hr, rfl, rfl⟩ | ⟨hr, T, p, rfl⟩
  · by_cases h14 : s.size ≤ 14
    · have h14' : (s.size : Int) ≤ 14 := by omega
      by_cases h0 : 0 ≤ v
      · have HK : Hid (numOf s.data.toList = if Lib.itoa v = s.data.toList then some v.toNat else none) := Lib.hid (by simp [numOf, hr, hl, h14, h0])
        have HI := itoa_any v (by omega) (Lib.atoiAll_bounds hr).2 w1 hw1.out
        clear hr
        go_wp2_with (refine HI.mono ?_; rintro e w2 ⟨rfl, hb2⟩)
        go_ret2
        have hT : (Lib.itoa v == s.toList) = (numOf s.data.toList).isSome := by
          rw [HK.out, ByteArray.toList_eq]
          by_cases h : Lib.itoa v = s.data.toList <;> simp [h]
        refine ⟨v, by rw [← hT]; rfl, hb1.trans (hb2.mono hb1.size), fun n h => ?_⟩
        rw [HK.out] at h
        split at h
        · have := Option.some.inj h; omega
        · cases h
      · have HK : Hid (numOf s.data.toList = none) := Lib.hid (by simp [numOf, hr, h0])
        clear hr
        go_wp2
        go_ret2
        exact ⟨v, by rw [HK.out]; rfl, hb1, fun n h => by rw [HK.out] at h; cases h⟩
    · have h14' : ¬ (s.size : Int) ≤ 14 := by omega
      have HK : Hid (numOf s.data.toList = none) := Lib.hid (by simp [numOf, hr, hl, h14])
      clear hr
      go_wp2
      go_ret2
      exact ⟨v, by rw [HK.out]; rfl, hb1, fun n h => by rw [HK.out] at h; cases h⟩
  · have HK : Hid (numOf s.data.toList = none) := Lib.hid (by
      unfold numOf
      split
      · rename_i n h; exact absurd h (hr n)
      · rfl)
    clear hr
    go_wp2
    go_ret2
    exact ⟨v, by rw [HK.out]; rfl, hb1, fun n h => by rw [HK.out] at h; cases h⟩
end Go.Proofs.YtalfjaogpbndeaaGreatDoor

namespace Go.Proofs.YtalfjaogpbndeaaGreatDoor
open Go.Lib

theorem pu_append : ∀ (l r : List UInt8) (acc a : Nat), parseUint10 acc l = .ok a → parseUint10 acc (l ++ r) = parseUint10 a r
  | [], r, acc, a, h => by
    simp only [parseUint10] at h
    injection h with h
    subst h
    rfl
  | c :: l, r, acc, a, h => by
    rw [List.cons_append]
    simp only [parseUint10] at h ⊢
    split at h
    · rename_i h1
      rw [if_pos h1]
      split at h
      · cases h
      · rename_i h2
        rw [if_neg h2]
        split at h
        · cases h
        · rename_i h3
          rw [if_neg h3]
          exact pu_append l r _ a h
    · cases h
theorem tenth (m : Nat) (h : m < 10) : (UInt8.ofNat (48 + m)).toNat = 48 + m := by
  rw [UInt8.toNat_ofNat']
  omega
theorem pu_digits (n : Nat) (hn : n < 9223372036854775808) : parseUint10 0 (decDigits n) = .ok n := by
  by_cases h : n < 10
  · rw [decDigits, dif_pos h]
    simp only [parseUint10]
    rw [tenth n h]
    rw [if_pos (by omega), if_neg (by omega), if_neg (by omega)]
    congr 1
    omega
  · rw [decDigits, dif_neg h, pu_append _ _ 0 (n / 10) (pu_digits (n / 10) (by omega))]
    simp only [parseUint10]
    rw [tenth _ (by omega)]
    rw [if_pos (by omega), if_neg (by omega), if_neg (by omega)]
    congr 1
    omega
termination_by n
theorem digits_head (n : Nat) : ∃ c r, decDigits n = c :: r ∧ c.toNat ≠ 43 ∧ c.toNat ≠ 45 := by
  by_cases h : n < 10
  · exact ⟨_, [], by rw [decDigits, dif_pos h], by rw [tenth n h]; omega, by rw [tenth n h]; omega⟩
  · obtain ⟨c, r, e, h1, h2⟩ := digits_head (n / 10)
    exact ⟨c, r ++ [UInt8.ofNat (48 + n % 10)], by rw [decDigits, dif_neg h, e]; rfl, h1, h2⟩
termination_by n
theorem atoi_digits (n : Nat) (hn : n < 9223372036854775808) : atoiAll (decDigits n) = .ok (n : Int) := by
  have hp := pu_digits n hn
  obtain ⟨c, r, e, h1, h2⟩ := digits_head n
  rw [e] at hp ⊢
  rw [atoiAll_plain c r h1 h2, parseMag, if_neg (by simp), hp, signless, if_neg (by omega)]
theorem numOf_digits (n : Nat) (hn : n < 9223372036854775808) (hl : (decDigits n).length ≤ 14) : numOf (decDigits n) = some n := by
  unfold numOf
  rw [atoi_digits n hn]
  simp only
  rw [if_pos ⟨hl, by omega, itoa_nonneg n⟩]
  simp
theorem numOf_some {l : List UInt8} {n : Nat} (h : numOf l = some n) : l = decDigits n ∧ l.length ≤ 14 := by
  unfold numOf at h
  split at h
  · split at h
    · rename_i v _ hc
      have hv := Option.some.inj h
      have e : v = (n : Int) := by omega
      rw [e, itoa_nonneg] at hc
      exact ⟨hc.2.2.symm, hc.1⟩
    · cases h
  · cases h
end Go.Proofs.YtalfjaogpbndeaaGreatDoor
