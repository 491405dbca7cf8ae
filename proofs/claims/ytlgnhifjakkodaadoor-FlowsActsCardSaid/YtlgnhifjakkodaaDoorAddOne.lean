/-
  The walk of Add's closure: has a flow's host no name?
-/
import Derived.Test.YtlgnhifjakkodaaDoorFlowDrop
namespace Go.Proofs.YtlgnhifjakkodaaDoor
open Go.RowKit

set_option maxHeartbeats 2000000 in
theorem addOne_any (x : Fl) (W : World) (hs : x.host.size ≤ maxLen) :
    Calls Tryd.prog 40 #[flV x] W fun e w' => e = .returned (.bool (!isName x.host)) ∧ Below W.heap.size W w' := by
  have hb1 : Below W.heap.size W (W.alloc (.cells #[.int .u64 (x.key : Int), .string x.host, .int .i64 x.til] 37)) := (Below.refl _ _).alloc (Nat.le_refl _) _
  have HN := Lib.hid (fun w => fl_name x.host hs _ rfl w)
  unfold flV
  generalize isName x.host = b at *
  go_enter Tryd.func40, Tryd.ntmps40
  go_wp2_with fail
  refine (HN.out _).mono ?_
  rintro e w1 ⟨rfl, hb2⟩
  have hb3 := hb1.trans (hb2.mono hb1.size)
  clear hb1 hb2
  go_wp2
  go_ret
  exact ⟨rfl, hb3⟩
end Go.Proofs.YtlgnhifjakkodaaDoor
