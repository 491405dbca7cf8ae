/-
  The walk of the program's Add at a tick that is none.
-/
import Derived.Test.YtlgnhifjakkodaaDoorAddIdx
namespace Go.Proofs.YtlgnhifjakkodaaDoor
open Go.RowKit

set_option maxRecDepth 100000 in
set_option maxHeartbeats 2000000 in
theorem add_tick (ea : Nat → Addr) {fp mb time last : Nat} {L : List Fl} (av : Value) (now : Int) (w : World) (hE : ErrsF ea w) (h : FlowsR w fp mb time last L) (ht : tickE last now ≠ 0) :
    Calls Tryd.prog 18 #[.pointer (some ⟨fp, 0, none⟩), av, .int .i64 now] w (ExpErr ea (tickE last now) w) := by
  have c1 := h.c1
  have e2 := hE.c2
  have e8 := hE.c8
  dsimp only [gv] at e2 e8
  have hw : (tickE last now = 2 ∧ decide (now < 0) = true) ∨ (tickE last now = 2 ∧ decide (now < 0) = false ∧ decide (now > 1099511627776) = true) ∨ (tickE last now = 8 ∧ decide (now < 0) = false ∧ decide (now > 1099511627776) = false ∧ decide (now < (last : Int)) = true) := by
    revert ht
    unfold tickE
    simp only [decide_eq_true_eq, decide_eq_false_iff_not]
    by_cases h1 : now < 0 ∨ 1099511627776 < now
    · rw [if_pos h1]; omega
    · rw [if_neg h1]
      by_cases h2 : now < last
      · rw [if_pos h2]; omega
      · rw [if_neg h2]; omega
  generalize tickE last now = te at *
  clear hE h ht
  rcases hw with ⟨rfl, t1⟩ | ⟨rfl, t1, t2⟩ | ⟨rfl, t1, t2, t3⟩
  all_goals
    go_enter Tryd.func18, Tryd.ntmps18
    go_wp2
    go_quiet (fail)
    go_wp2
    go_ret2
    exact ⟨rfl, ⟨rfl, rfl, rfl, Nat.le_refl _, fun _ _ => rfl⟩⟩
end Go.Proofs.YtlgnhifjakkodaaDoor
