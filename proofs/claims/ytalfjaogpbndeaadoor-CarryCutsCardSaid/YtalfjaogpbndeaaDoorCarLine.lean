/-
  The walk of a page's line.
-/
import Derived.Test.YtalfjaogpbndeaaDoorCarPage
import Derived.Test.YtalfjaogpbndeaaDoorTurn
import Derived.Deep.RegionWith
namespace Go.Proofs.YtalfjaogpbndeaaDoor
open Go.RowKit

theorem Pg.drew {B b : Nat} {l : List UInt8} {w : World} (h : Pg B b l w) : Pg B b l w.drew := h.below (bl_drew (Below.refl _ _))
/-- Words with a space between. -/
def spaced (ws : List ByteArray) : List UInt8 := Lib.join (ws.map (·.data.toList)) [32]
def Lined (B b : Nat) (l : List UInt8) (w : World) (e : Ending) (w' : World) : Prop := e = .returned (.tuple #[]) ∧ Pg B b l w' ∧ Below B w w'
theorem lined_of {B b : Nat} {l : List UInt8} {w w1 w' : World} (h1 : Below B w w1) (h : PgAt B b (.pointer (some ⟨b, 0, none⟩)) l w' ∧ Below B w1 w') : Lined B b l w (.returned (.tuple #[])) w' := ⟨rfl, .inr h.1, h1.trans h.2⟩
set_option maxRecDepth 100000 in
set_option maxHeartbeats 1000000 in
theorem line_any (B b k : Nat) (l : List UInt8) (ws : List ByteArray) (w : World) (h : Pg B b l w) (hB : B ≤ w.heap.size) (hc : ∀ (j : Nat) x, ws[j]? = some x → w.cell? ⟨k, 0 + j, none⟩ = some (.string x)) (hk : k < w.heap.size) (hw : ws.length ≤ 10) (hl : l.length ≤ 50000) (hs : (spaced ws).length ≤ 40000) :
    Calls Tryd.prog 47 #[.pointer (some ⟨b, 0, none⟩), .slice (some ⟨k, 0, none⟩) ws.length ws.length] w (Lined B b (l ++ (spaced ws ++ [10])) w) := by
  have HJ : Hid (∀ W, Below w.heap.size w W → Calls Tryd.prog 71 #[.slice (some ⟨k, 0, none⟩) ws.length ws.length, .string ⟨#[32]⟩] W fun e w' => e = .returned (.string ⟨(spaced ws).toArray⟩) ∧ Below W.heap.size W w') := Lib.hid fun W hW =>
    Tryd.strings_Join k 0 ws.length ws ⟨#[32]⟩ W (fun j x hx => (hW.cell (p := ⟨k, 0 + j, none⟩) hk).trans (hc j x hx)) (Nat.lt_of_lt_of_le hk hW.size) (by omega) (Nat.le_refl _) (by have : (Lib.join (ws.map (·.data.toList)) (⟨#[32]⟩ : ByteArray).data.toList) = spaced ws := rfl; rw [this]; omega)
  have HP : Hid (∀ W, Below w.heap.size w W → Calls Tryd.prog 70 #[.pointer (some ⟨b, 0, none⟩), .string ⟨(spaced ws).toArray⟩] W fun e w' => e = .returned (.tuple #[.int .i64 (spaced ws).length, .nilIface]) ∧ PgAt B b (.pointer (some ⟨b, 0, none⟩)) (l ++ spaced ws) w' ∧ Below B w w') := Lib.hid fun W hW => by
    have e1 : (⟨(spaced ws).toArray⟩ : ByteArray).size = (spaced ws).length := by simp [ByteArray.size]
    refine (putString_any B b l ⟨(spaced ws).toArray⟩ W (h.below hW) (by omega) (by rw [e1]; omega) (Nat.le_trans hB hW.size)).mono ?_
    rintro e w' ⟨rfl, h1, h2⟩
    exact ⟨by rw [e1], h1, (hW.mono hB).trans h2⟩
  have HQ : Hid (∀ W, PgAt B b (.pointer (some ⟨b, 0, none⟩)) (l ++ spaced ws) W → Below B w W → Calls Tryd.prog 72 #[.pointer (some ⟨b, 0, none⟩), .int .u8 10] W fun e w' => e = .returned .nilIface ∧ Lined B b (l ++ (spaced ws ++ [10])) w (.returned (.tuple #[])) w') := Lib.hid fun W hP hW => by
    refine (putByte_any B b (l ++ spaced ws) 10 W (.inr hP) (by rw [List.length_append]; omega) (Nat.le_trans hB hW.size)).mono ?_
    rintro e w' ⟨rfl, h1⟩
    rw [List.append_assoc] at h1
    exact ⟨rfl, lined_of hW h1⟩
  generalize spaced ws = s at *
  clear h hc hs hl
  go_enter Tryd.func47, Tryd.ntmps47
  go_wp2_with fail
  go_region_with (first
    | (go_at_call 71; refine (HJ.out _ (bl_drew (Below.refl _ _))).mono ?_; rintro e w1 ⟨rfl, hb1⟩)
    | (go_at_call 70; refine (HP.out _ (below_two (bl_drew (Below.refl _ _)) hb1)).mono ?_; rintro e w2 ⟨rfl, hp2, hb2⟩))
  all_goals
    go_wp2_with (go_at_call 72; refine (HQ.out _ hp2 hb2).mono ?_; rintro e w3 ⟨rfl, h3⟩)
    go_end0
    exact h3
end Go.Proofs.YtalfjaogpbndeaaDoor
