/-
  The walks of coded and faulted of package levelhandlaw3.
-/
import Derived.Test.YteilefpjfbholaaGreatDoorCode
import Derived.Test.YteilefpjfbholaaGreatDoorRefFault
namespace Go.Proofs.YteilefpjfbholaaGreatDoor
open Go.RowKit


def Yeslaw3 (w : World) (e : Ending) (w' : World) : Prop := e = .returned (.bool true) ∧ Below w.heap.size w w'
theorem faultedlaw3_nil (w : World) : Calls Tryz.prog 36 #[.nilIface, .agg #[.int .i64 0, .int .i64 (-1)]] w (Yeslaw3 w) := by
  go_enter Tryz.func36, Tryz.ntmps36
  go_wp2_with (go_at_call 56; refine (code_nil _).mono ?_; rintro e w1 ⟨rfl, rfl⟩)
  go_ret
  exact ⟨rfl, (Below.refl _ _).alloc (Nat.le_refl _) _⟩
theorem faultedlaw3_some {ea : Nat → Addr} {f : Flt} {t : TypeId} {a : Addr} {w : World} (hE : ErrsW ea w) (hG : HandleAt w) (h1 : 1 ≤ f.code) (h2 : f.code ≤ 9) (hI : IsErr ea w f t a) :
    Calls Tryz.prog 36 #[.iface t (.pointer (some a)), .agg #[.int .i64 (fCode (some f) : Int), .int .i64 (fAt (some f))]] w (Yeslaw3 w) := by
  have hb0 : Below w.heap.size w (w.alloc (.cells #[.int .i64 (f.code : Int), .int .i64 (placeOf f)] 87)) := (Below.refl _ _).alloc (Nat.le_refl _) _
  have HC := Lib.hid (code_any (hE.below hb0) (hG.below hb0) h1 h2 (hI.below hb0))
  have hB0 := Blk.new w 87 #[.int .i64 (f.code : Int), .int .i64 (placeOf f)]
  have HB0 := Lib.hid hB0
  have HB := Lib.hid hb0
  show Calls Tryz.prog 36 #[.iface t (.pointer (some a)), .agg #[.int .i64 (f.code : Int), .int .i64 (placeOf f)]] w (Yeslaw3 w)
  have hz : ((f.code : Int) == 0) = false := beq_eq_false_iff_ne.2 (by omega)
  generalize placeOf f = pl at *
  generalize f.code = fc at *
  clear hE hG hI hB0 hb0
  go_enter Tryz.func36, Tryz.ntmps36
  go_wp2_with fail
  refine HC.out.mono ?_
  rintro e w1 ⟨rfl, hb1⟩
  have hB1 := HB0.out.below hb1 HB0.out.lt
  have c0 := hB1.cell 0
  have c1 := hB1.cell 1
  have hbb := HB.out.trans (hb1.mono HB.out.size)
  clear hB1 hb1
  simp at c0 c1
  go_wp2
  go_ret
  exact ⟨rfl, hbb⟩
end Go.Proofs.YteilefpjfbholaaGreatDoor
