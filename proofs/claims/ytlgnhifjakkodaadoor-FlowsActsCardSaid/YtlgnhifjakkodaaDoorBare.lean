/-
  The walks of the reference's Bare and Fine.
-/
import Derived.Test.YtlgnhifjakkodaaDoorErrs
namespace Go.Proofs.YtlgnhifjakkodaaDoor
open Go.RowKit

theorem bare_any (c : Int) (w : World) : Calls Tryd.prog 41 #[.int .i64 c] w fun e w' => e = .returned (.agg #[.int .i64 c, .int .i64 (-1)]) ∧ Below w.heap.size w w' := by
  go_enter Tryd.func41, Tryd.ntmps41
  go_wp2
  exact bodyPost_ret (v := .agg #[.int .i64 c, .int .i64 (-1)]) (by simp [results, Tryd.results41, go_sem]) rfl ⟨rfl, (Below.refl _ _).alloc (Nat.le_refl _) _⟩
theorem fine_any (w : World) : Calls Tryd.prog 42 #[] w fun e w' => e = .returned (.agg #[.int .i64 0, .int .i64 (-1)]) ∧ Below w.heap.size w w' := by
  go_enter Tryd.func42, Tryd.ntmps42
  go_wp2
  exact bodyPost_ret (v := .agg #[.int .i64 0, .int .i64 (-1)]) (by simp [results, Tryd.results42, go_sem]) rfl ⟨rfl, (Below.refl _ _).alloc (Nat.le_refl _) _⟩
end Go.Proofs.YtlgnhifjakkodaaDoor
