/-
  The walk of OwnFlows: a copy of flows.
  OwnFlows in a handy form.
-/
import Derived.Test.YtalfjaogpbndeaaGreatDoorLongFlows
namespace Go.Proofs.YtalfjaogpbndeaaGreatDoor
open Go.RowKit

def OwnFl (L : List Fl) (w : World) (e : Ending) (w' : World) : Prop := ∃ v, e = .returned v ∧ w'.ownsRow w.heap.size 45 3 v L.length (flsC L) ∧ w.grownBy w' none
set_option maxRecDepth 100000 in
set_option maxHeartbeats 2000000 in
theorem ownFlows_any (A : Option Addr) (cap B : Nat) (L : List Fl) (w : World) (hr : Reads w B 3 A L.length (flsC L)) (hB : B ≤ w.heap.size) (hl : L.length ≤ 1000) :
    Calls Tryz.prog 8 #[.slice A L.length cap] w (OwnFl L w) := by
  obtain ⟨i0, hi0, hz0, hz1, hz2⟩ := info_parts info_flow
  have HN := Lib.hid (flsC_one L)
  have HR := Lib.hid (hr.more hB)
  have HP : Hid (∀ v w', w'.ownsRow w.heap.size 45 3 v L.length (flsC L) → w.grownBy w' none → OwnFl L w (.returned v) w') := Lib.hid fun v w' h1 h2 => ⟨v, rfl, h1, h2⟩
  clear hr
  go_enter Tryz.func8, Tryz.ntmps8
  go_wp2_with (first
    | (at_builtin
       go_must (refine wpList_append_any _ rfl (.tmp 4) (.tmp 5) _ rfl w.heap.size 45 i0 _ 3 32 Tryz.underlying22 hi0 hz0 hz1 hz2 rfl (by omega) (.slice none 0 0) 0 [] rfl (World.ownsRow_nil _ _ _ _) w.heap.size A L.length cap _ rfl HR.out HN.out (by simp only [maxLen]; omega) (by omega) (Nat.le_refl _) ?_)
       intro v1 w1 hown1 hg1 _
       simp only [Nat.zero_add, List.nil_append] at hown1
       have HO1 := Lib.hid (HP.out _ _ hown1 hg1)
       clear hown1 hg1))
  go_ret
  exact HO1.out
end Go.Proofs.YtalfjaogpbndeaaGreatDoor

namespace Go.Proofs.YtalfjaogpbndeaaGreatDoor
open Go.RowKit

def OwnB (L : List Fl) (w : World) (e : Ending) (w' : World) : Prop := ∃ A cap, e = .returned (.slice A L.length cap) ∧ Reads w' w'.heap.size 3 A L.length (flsC L) ∧ Below w.heap.size w w'
theorem ownB_any (A : Option Addr) (cap B : Nat) (L : List Fl) (w : World) (hr : Reads w B 3 A L.length (flsC L)) (hB : B ≤ w.heap.size) (hl : L.length ≤ 1000) :
    Calls Tryz.prog 8 #[.slice A L.length cap] w (OwnB L w) := by
  refine (ownFlows_any A cap B L w hr hB hl).mono fun e w' ⟨v, x, y, z⟩ => ?_
  obtain ⟨A2, c2, rfl, h2, _⟩ := own_slice y
  exact ⟨A2, c2, x, h2, z.os, z.tape, z.output, z.size, fun i hi => z.block i hi (by simp)⟩
end Go.Proofs.YtalfjaogpbndeaaGreatDoor
