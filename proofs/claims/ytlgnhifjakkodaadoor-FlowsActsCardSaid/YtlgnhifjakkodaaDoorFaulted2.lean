/-
  The walks of coded and faulted of package levelhandlaw2.
-/
import Derived.Test.YtlgnhifjakkodaaDoorCode
import Derived.Test.YtlgnhifjakkodaaDoorRefFault
namespace Go.Proofs.YtlgnhifjakkodaaDoor
open Go.RowKit

/-- coded: the number, no place. -/
theorem codedlaw2_any {ea : Nat → Addr} {f : Flt} {t : TypeId} {a : Addr} {w : World} (code : Nat) (hE : ErrsW ea w) (hG : HandleAt w) (h1 : 1 ≤ f.code) (h2 : f.code ≤ 9) (hI : IsErr ea w f t a) (hp : f.place = none) :
    Calls Tryd.prog 12 #[.iface t (.pointer (some a)), .int .i64 (code : Int)] w fun e w' => e = .returned (.bool (decide (f.code = code))) ∧ Below w.heap.size w w' := by
  have H := code_any hE hG h1 h2 hI
  have hpl : placeOf f = -1 := by unfold placeOf; rw [hp]
  rw [hpl] at H
  have HC := Lib.hid H
  clear H hpl hp hI hE hG h1 h2
  by_cases he : f.code = code
  · have hB : ((f.code : Int) == (code : Int)) = true := beq_iff_eq.2 (by omega)
    rw [decide_eq_true he]
    clear he
    go_enter Tryd.func12, Tryd.ntmps12
    go_wp2_with (go_at_call 33; refine HC.out.mono ?_; rintro e w1 ⟨rfl, hb⟩)
    go_ret
    exact ⟨rfl, hb⟩
  · have hB : ((f.code : Int) == (code : Int)) = false := beq_eq_false_iff_ne.2 (by omega)
    rw [decide_eq_false he]
    clear he
    go_enter Tryd.func12, Tryd.ntmps12
    go_wp2_with (go_at_call 33; refine HC.out.mono ?_; rintro e w1 ⟨rfl, hb⟩)
    go_ret
    exact ⟨rfl, hb⟩
theorem codedlaw2_nil (w : World) : Calls Tryd.prog 12 #[.nilIface, .int .i64 0] w fun e w' => e = .returned (.bool true) ∧ w = w' := by
  go_enter Tryd.func12, Tryd.ntmps12
  go_wp2_with (go_at_call 33; refine (code_nil _).mono ?_; rintro e w1 ⟨rfl, rfl⟩)
  go_ret
  exact ⟨rfl, rfl⟩

def Yeslaw2 (w : World) (e : Ending) (w' : World) : Prop := e = .returned (.bool true) ∧ Below w.heap.size w w'
theorem faultedlaw2_nil (w : World) : Calls Tryd.prog 21 #[.nilIface, .agg #[.int .i64 0, .int .i64 (-1)]] w (Yeslaw2 w) := by
  go_enter Tryd.func21, Tryd.ntmps21
  go_wp2_with (go_at_call 33; refine (code_nil _).mono ?_; rintro e w1 ⟨rfl, rfl⟩)
  go_ret
  exact ⟨rfl, (Below.refl _ _).alloc (Nat.le_refl _) _⟩
theorem faultedlaw2_some {ea : Nat → Addr} {f : Flt} {t : TypeId} {a : Addr} {w : World} (hE : ErrsW ea w) (hG : HandleAt w) (h1 : 1 ≤ f.code) (h2 : f.code ≤ 9) (hI : IsErr ea w f t a) :
    Calls Tryd.prog 21 #[.iface t (.pointer (some a)), .agg #[.int .i64 (fCode (some f) : Int), .int .i64 (fAt (some f))]] w (Yeslaw2 w) := by
  have hb0 : Below w.heap.size w (w.alloc (.cells #[.int .i64 (f.code : Int), .int .i64 (placeOf f)] 57)) := (Below.refl _ _).alloc (Nat.le_refl _) _
  have HC := Lib.hid (code_any (hE.below hb0) (hG.below hb0) h1 h2 (hI.below hb0))
  have hB0 := Blk.new w 57 #[.int .i64 (f.code : Int), .int .i64 (placeOf f)]
  have HB0 := Lib.hid hB0
  have HB := Lib.hid hb0
  show Calls Tryd.prog 21 #[.iface t (.pointer (some a)), .agg #[.int .i64 (f.code : Int), .int .i64 (placeOf f)]] w (Yeslaw2 w)
  have hz : ((f.code : Int) == 0) = false := beq_eq_false_iff_ne.2 (by omega)
  generalize placeOf f = pl at *
  generalize f.code = fc at *
  clear hE hG hI hB0 hb0
  go_enter Tryd.func21, Tryd.ntmps21
  go_wp2_with fail
  refine HC.out.mono ?_
  rintro e w1 ⟨rfl, hb1⟩
  have hB1 := HB0.out.below hb1 HB0.out.lt
  have c0 := hB1.cell 0
  have c1 := hB1.cell 1
  have hbb := HB.out.trans (hb1.mono HB.out.size)
  clear hB1 hb1
  simp at c0 c1
  go_wp2
  go_ret
  exact ⟨rfl, hbb⟩
end Go.Proofs.YtlgnhifjakkodaaDoor
