/-
  The walk of carry's number.
-/
import Derived.Test.YtalfjaogpbndeaaDoorBase
import Derived.Test.YtalfjaogpbndeaaDoorShelfC
import Derived.Lib.AppendIntMem
import Derived.Lib.AtoiErrMem
import Derived.Lib.AtoiAllCases
import Derived.WalkSmall
namespace Go.Proofs.YtalfjaogpbndeaaDoor
open Go.RowKit

/-- The library's table and variables that a number wants. -/
structure NumW (w : World) : Prop where
  pow : Lib.TabIs Tryd.prog w "internal/strconv.uint64pow10" .u64 Lib.pow10Tab
  syn : ∃ te pe, w.var? Tryd.prog "strconv.ErrSyntax" = some #[.iface te pe]
  ran : ∃ te pe, w.var? Tryd.prog "strconv.ErrRange" = some #[.iface te pe]
theorem NumW.below {B : Nat} {w w' : World} (h : NumW w) (hb : Below B w w') (hB : 18 ≤ B) : NumW w' := by
  obtain ⟨t1, p1, h1⟩ := h.syn
  obtain ⟨t2, p2, h2⟩ := h.ran
  have g1 : Tryd.prog.globalNamed "strconv.ErrSyntax" = some 12 := by kernel_rfl
  have g2 : Tryd.prog.globalNamed "strconv.ErrRange" = some 13 := by kernel_rfl
  have g3 : Tryd.prog.globalNamed "internal/strconv.uint64pow10" = some 10 := by kernel_rfl
  exact ⟨var?_below hb g3 (by omega) h.pow, ⟨t1, p1, var?_below hb g1 (by omega) h1⟩, ⟨t2, p2, var?_below hb g2 (by omega) h2⟩⟩
/-- What a word says: a number, just so written. -/
def numOf (l : List UInt8) : Option Nat :=
  match Lib.atoiAll l with
  | .ok v => if l.length ≤ 14 ∧ 0 ≤ v ∧ Lib.itoa v = l then some v.toNat else none
  | _ => none
theorem atoi_any (s : ByteArray) (hmax : s.size ≤ 281474976710656) (w : World) (hw : NumW w) :
    Calls Tryd.prog 101 #[.string s] w fun e w' => ∃ (v : Int) (x : Value), e = .returned (.tuple #[.int .i64 v, x]) ∧ Below w.heap.size w w' ∧ ((∃ n, Lib.atoiAll s.data.toList = .ok n ∧ v = n ∧ x = .nilIface) ∨ ((∀ n, Lib.atoiAll s.data.toList ≠ .ok n) ∧ ∃ T p, x = .iface T p)) := by
  cases hr : Lib.atoiAll s.data.toList with
  | ok n =>
    refine (Tryd.strconv_Atoi_ok s (by omega) n hr w).mono ?_
    rintro e w' ⟨rfl, hb⟩
    refine ⟨n, _, rfl, ?_, .inl ⟨n, rfl, rfl, rfl⟩⟩
    rcases hb with rfl | ⟨t, rfl⟩
    · exact Below.refl _ _
    · exact Lib.bytesWorld_below _ _ _
  | range =>
    obtain ⟨te, pe, hv⟩ := hw.ran
    refine (Tryd.strconv_Atoi_range_var s hmax hr te pe w hv).mono ?_
    rintro e w' ⟨N, rfl, h1, h2, h3⟩
    exact ⟨_, _, rfl, h3, .inr ⟨(fun n h => by cases h), _, _, rfl⟩⟩
  | _ =>
    obtain ⟨te, pe, hv⟩ := hw.syn
    refine (Tryd.strconv_Atoi_syntax_var s hmax hr te pe w hv).mono ?_
    rintro e w' ⟨N, rfl, h1, h2, h3⟩
    exact ⟨0, _, rfl, h3, .inr ⟨(fun n h => by cases h), _, _, rfl⟩⟩
theorem itoa_any (n : Int) (h0 : -9223372036854775808 ≤ n) (h1 : n ≤ 9223372036854775807) (w : World) (hw : NumW w) :
    Calls Tryd.prog 48 #[.int .i64 n] w fun e w' => e = .returned (.string ⟨(Lib.itoa n).toArray⟩) ∧ Below w.heap.size w w' := by
  refine (Tryd.strconv_Itoa n h0 h1 w hw.pow).mono ?_
  rintro e w' ⟨rfl, k, os, rfl⟩
  exact ⟨rfl, Lib.below_grow _ _ (Nat.le_refl _) _ _⟩
theorem number_any (s : ByteArray) (hmax : s.size ≤ 281474976710656) (w : World) (hw : NumW w) (hG : 18 ≤ w.heap.size) :
    Calls Tryd.prog 77 #[.string s] w fun e w' => ∃ v : Int, e = .returned (.tuple #[.int .i64 v, .bool (numOf s.data.toList).isSome]) ∧ Below w.heap.size w w' ∧ ∀ n, numOf s.data.toList = some n → v = n := by
  have hl : s.data.toList.length = s.size := by simp
  go_enter Tryd.func77, Tryd.ntmps77
  go_wp2_with (refine (atoi_any s hmax _ hw).mono ?_)
  rintro e w1 ⟨v, x, rfl, hb1, hx⟩
  have hw1 := Lib.hid (hw.below hb1 hG)
  rcases hx with ⟨n, hr, rfl, rfl⟩ | ⟨hr, T, p, rfl⟩
  · by_cases h14 : s.size ≤ 14
    · have h14' : (s.size : Int) ≤ 14 := by omega
      by_cases h0 : 0 ≤ v
      · have HK : Hid (numOf s.data.toList = if Lib.itoa v = s.data.toList then some v.toNat else none) := Lib.hid (by simp [numOf, hr, hl, h14, h0])
        have HI := itoa_any v (by omega) (Lib.atoiAll_bounds hr).2 w1 hw1.out
        clear hr
        go_wp2_with (refine HI.mono ?_; rintro e w2 ⟨rfl, hb2⟩)
        go_ret2
        have hT : (Lib.itoa v == s.toList) = (numOf s.data.toList).isSome := by
          rw [HK.out, ByteArray.toList_eq]
          by_cases h : Lib.itoa v = s.data.toList <;> simp [h]
        refine ⟨v, by rw [← hT]; rfl, hb1.trans (hb2.mono hb1.size), fun n h => ?_⟩
        rw [HK.out] at h
        split at h
        · have := Option.some.inj h; omega
        · cases h
      · have HK : Hid (numOf s.data.toList = none) := Lib.hid (by simp [numOf, hr, h0])
        clear hr
        go_wp2
        go_ret2
        exact ⟨v, by rw [HK.out]; rfl, hb1, fun n h => by rw [HK.out] at h; cases h⟩
    · have h14' : ¬ (s.size : Int) ≤ 14 := by omega
      have HK : Hid (numOf s.data.toList = none) := Lib.hid (by simp [numOf, hr, hl, h14])
      clear hr
      go_wp2
      go_ret2
      exact ⟨v, by rw [HK.out]; rfl, hb1, fun n h => by rw [HK.out] at h; cases h⟩
  · have HK : Hid (numOf s.data.toList = none) := Lib.hid (by
      unfold numOf
      split
      · rename_i n h; exact absurd h (hr n)
      · rfl)
    clear hr
    go_wp2
    go_ret2
    exact ⟨v, by rw [HK.out]; rfl, hb1, fun n h => by rw [HK.out] at h; cases h⟩
end Go.Proofs.YtalfjaogpbndeaaDoor
