/-
  The walk of the program's Add where a host has no name.
-/
import Derived.Test.YtlgnhifjakkodaaDoorAddBad
namespace Go.Proofs.YtlgnhifjakkodaaDoor
open Go.RowKit

def AddFault (ea : Nat → Addr) (i : Nat) (w : World) (e : Ending) (w' : World) : Prop := ∃ t a, e = .returned (.tuple #[.int .i64 0, .iface t (.pointer (some a))]) ∧ IsErr ea w' ⟨4, some i⟩ t a ∧ Below w.heap.size w w'
set_option maxRecDepth 100000 in
set_option maxHeartbeats 2000000 in
theorem addF_name (ea : Nat → Addr) {fp mb time last i : Nat} {L xs : List Fl} {A : Option Addr} {cap B : Nat} (now : Int) (w : World) (hE : ErrsF ea w) (h : FlowsR w fp mb time last L) (ht : tickE last now = 0) (hx : Reads w B 3 A xs.length (flsC xs)) (hB : B ≤ w.heap.size) (hA : 0 < xs.length → ∃ g, A = some ⟨g, 0, none⟩) (hl : xs.length ≤ 1000) (hs : ∀ x ∈ xs, x.host.size ≤ maxLen) (hb : badAt xs = some i) :
    Calls Tryd.prog 18 #[.pointer (some ⟨fp, 0, none⟩), .slice A xs.length cap, .int .i64 now] w (AddFault ea i w) := by
  have c1 := h.c1
  have HE := Lib.hid hE
  have hw : decide (now < 0) = false ∧ decide (now > 1099511627776) = false ∧ decide (now < (last : Int)) = false := by
    revert ht
    unfold tickE
    simp only [decide_eq_false_iff_not]
    by_cases h1 : now < 0 ∨ 1099511627776 < now
    · rw [if_pos h1]; omega
    · rw [if_neg h1]
      by_cases h2 : now < last
      · rw [if_pos h2]; omega
      · omega
  have HI := Lib.hid (indexFlows_any A cap B xs w hx hB hA hl hs)
  unfold IdxBad badI at HI
  rw [hb] at HI
  clear hE h ht hx hA hs hb
  obtain ⟨t1, t2, t3⟩ := hw
  go_enter Tryd.func18, Tryd.ntmps18
  go_wp2_with fail
  refine HI.out.mono ?_
  rintro e w1 ⟨rfl, hb1⟩
  have e4 := (HE.out.below hb1).c4
  dsimp only [gv] at e4
  have q1 : decide ((i : Int) ≥ 0) = true := by simp
  go_wp2_with fail
  go_region
  go_wp2
  go_ret2
  refine ⟨_, _, rfl, ⟨rfl, _, rfl, Blk.new _ _ _⟩, ?_⟩
  exact hb1.trans (bl_undrew ((Below.refl _ _).alloc (Nat.le_refl _) _) |>.mono hb1.size)
end Go.Proofs.YtlgnhifjakkodaaDoor
