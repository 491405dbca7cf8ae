/-
  The walk of carried: nothing is carried over.
-/
import Derived.Test.YtalfjaogpbndeaaGreatDoorCarText
import Derived.Test.YtalfjaogpbndeaaGreatDoorCarReads
namespace Go.Proofs.YtalfjaogpbndeaaGreatDoor
open Go.RowKit

theorem carried_any (ea : Nat → Addr) (w : World) (hW : CarW w) (hE : ErrsK ea w) :
    Calls Tryz.prog 5 #[] w fun e w' => e = .returned (.bool true) ∧ Below w.heap.size w w' := by
  have hc : checkOf 3 [] = none := by decide
  have hT := text_any ea 3 none 0 w.heap.size [] w hW hE ⟨rfl, fun h => absurd h (by simp)⟩ (Nat.le_refl _) (fun _ h => by cases h) (fun _ h => by cases h)
  have hr := read_text hc (fun _ h => by cases h)
  have HR := Lib.hid (fun W (hw : Below w.heap.size w W) => read_any ea ⟨(textOf 3 []).toArray⟩ W (hW.below hw) (hE.below hw))
  unfold TxPost at hT
  rw [hc] at hT
  rw [show (⟨(textOf 3 []).toArray⟩ : ByteArray).data.toList = textOf 3 [] from rfl, hr] at HR
  have HT := Lib.hid hT
  unfold RdPost at HR
  clear hT hr hc
  go_enter Tryz.func5, Tryz.ntmps5
  go_wp2_with fail
  refine HT.out.mono ?_
  rintro e w1 ⟨rfl, hb1⟩
  go_wp2_with fail
  refine (HR.out _ hb1).mono ?_
  rintro e w2 ⟨v, rfl, hv, hb2⟩
  obtain ⟨A2, c2, rfl, _⟩ := own_slice hv
  have hb12 := below_two hb1 hb2
  clear hv
  go_wp2
  go_ret
  exact ⟨rfl, hb12⟩
end Go.Proofs.YtalfjaogpbndeaaGreatDoor
