/-
  The law Names: its walk.
-/
import Derived.Test.YtnnkpblagmfonaaDoorCode
import Derived.Test.YtnnkpblagmfonaaDoorSame
namespace Go.Proofs.YtnnkpblagmfonaaDoor
open Go.RowKit

def docNums : List Int := [12, 12, 503, 16, 500, 1048576, 200, 1099511627776, 1000, 10, 20000, 3000, 100, 16]
def numsObj : Obj := .cells #[.int .i64 12, .int .i64 12, .int .i64 503, .int .i64 16, .int .i64 500, .int .i64 1048576, .int .i64 200, .int .i64 1099511627776, .int .i64 1000, .int .i64 10, .int .i64 20000, .int .i64 3000, .int .i64 100, .int .i64 16] 3
theorem reads_blk {w : World} {g : Nat} {t : TypeId} {cs : Array Value} (h : Blk w g t cs) : Reads w (g + 1) 1 (some ⟨g, 0, none⟩) cs.size cs.toList := by
  refine ⟨by simp, fun _ => ⟨_, rfl, by simp, fun j u hu => ?_⟩⟩
  have e : ((⟨g, 0, none⟩ : Addr).add j) = ⟨g, j, none⟩ := by
    by_cases h0 : j = 0
    · subst h0; rfl
    · simp [Addr.add, h0]
  rw [e, h.cell j]
  simpa using hu
theorem same_nums (w : World) : Calls Tryd.prog 17 #[.slice (some ⟨w.heap.size, 0, none⟩) 14 14, .slice (some ⟨w.heap.size + 1, 0, none⟩) 14 14] ((w.alloc numsObj).alloc numsObj) fun e w' => e = .returned (.bool true) ∧ ∃ m, w' = ((w.alloc numsObj).alloc numsObj).drewN m := by
  have b1 : Blk ((w.alloc numsObj).alloc numsObj) w.heap.size 3 _ := (Blk.new w 3 _).alloc _
  have b2 : Blk ((w.alloc numsObj).alloc numsObj) (w.alloc numsObj).heap.size 3 _ := Blk.new (w.alloc numsObj) 3 _
  have e : (w.alloc numsObj).heap.size = w.heap.size + 1 := by simp
  rw [e] at b2
  have h := sameInts (some ⟨w.heap.size, 0, none⟩) (some ⟨w.heap.size + 1, 0, none⟩) 14 14 (w.heap.size + 1 + 1) docNums docNums _ ((reads_blk b1).more (by omega)) (reads_blk b2) (by decide) (by decide)
  exact h.mono fun e w' h => ⟨by rw [h.1]; simp, h.2⟩

theorem errNew (s : ByteArray) (w : World) : Calls Tryd.prog 26 #[.string s] w fun e w' => e = .returned (.iface 108 (.pointer (some ⟨w.heap.size, 0, none⟩))) ∧ w.alloc (.cells #[.string s] 110) = w' := by
  go_enter Tryd.func26, Tryd.ntmps26
  go_wp2
  go_ret
  exact ⟨rfl, rfl⟩
theorem gv_lt (c : Nat) (h1 : 1 ≤ c) (h2 : c ≤ 9) : ∃ k, c = k + 1 ∧ k < 9 := ⟨c - 1, by omega, by omega⟩

set_option maxRecDepth 100000 in
set_option maxHeartbeats 4000000 in
theorem names_any (ea : Nat → Addr) (w : World) (hE : ErrsW ea w) (hG : HandleAt w) : Calls Tryd.prog 7 #[] w (True1 w) := by
  have HE := Lib.hid hE
  have HG := Lib.hid hG
  have HS := Lib.hid (same_nums w)
  clear hE hG
  unfold numsObj at HS
  go_enter Tryd.func7, Tryd.ntmps7
  go_wp2_with fail
  refine HS.out.mono ?_
  rintro e w1 ⟨rfl, m, hw1⟩
  have hb : Below w.heap.size w w1 := by rw [hw1]; exact below_drewN (((Below.refl _ _).alloc (Nat.le_refl _) _).alloc (by simp) _) m
  clear hw1 HS
  have hE1 := HE.out.below hb
  have g1 := (hE1.row 1 (by decide) (by decide)).1
  have g2 := (hE1.row 2 (by decide) (by decide)).1
  have g3 := (hE1.row 3 (by decide) (by decide)).1
  have g4 := (hE1.row 4 (by decide) (by decide)).1
  have g5 := (hE1.row 5 (by decide) (by decide)).1
  have g6 := (hE1.row 6 (by decide) (by decide)).1
  have g7 := (hE1.row 7 (by decide) (by decide)).1
  have g8 := (hE1.row 8 (by decide) (by decide)).1
  have g9 := (hE1.row 9 (by decide) (by decide)).1
  dsimp only [gv] at g1 g2 g3 g4 g5 g6 g7 g8 g9
  clear hE1
  go_wp2_with fail
  have hbr : Below w.heap.size w (w1.alloc (row9 ea)) := hb.alloc hb.size _
  have hlt : w1.heap.size < (w1.alloc (row9 ea)).heap.size := by simp
  obtain ⟨x, hx⟩ : ∃ x : Nat → Addr, ∀ k, ea (gv (k + 1)) = x k := ⟨fun k => ea (gv (k + 1)), fun _ => rfl⟩
  have HC : ∀ k, k < 9 → (w1.alloc (row9 ea)).cell? ⟨w1.heap.size, k, none⟩ = some (.iface 108 (.pointer (some (x k)))) := fun k hk => by
    rw [← hx]; exact row9_cell ea w1 k hk
  have HX := Lib.hid hx
  have HBR := Lib.hid hbr
  clear hbr hx
  unfold row9 at HC HBR hlt
  dsimp only [gv] at HC HBR hlt
  clear g1 g2 g3 g4 g5 g6 g7 g8 g9
  generalize (w1.alloc (.cells #[Value.iface 108 (.pointer (some (ea 0))), .iface 108 (.pointer (some (ea 1))), .iface 108 (.pointer (some (ea 2))), .iface 108 (.pointer (some (ea 3))), .iface 108 (.pointer (some (ea 4))), .iface 108 (.pointer (some (ea 5))), .iface 108 (.pointer (some (ea 6))), .iface 108 (.pointer (some (ea 7))), .iface 108 (.pointer (some (ea 8)))] 26)) = W at *
  go_loopw [4] (fun iv wr => ∃ k : Nat, k ≤ 9 ∧ iv = .int .i64 (k : Int) ∧ Below W.heap.size W wr) (fun iv _ => 9 - (intOf iv).toNat)
  case atStart => exact ⟨0, by omega, rfl, Below.refl _ _⟩
  case round =>
    obtain ⟨k, hk, rfl, hbw⟩ := hrel
    by_cases hk9 : k < 9
    · have hki : (k : Int) < 9 := by omega
      have hc : wr.cell? ⟨w1.heap.size, k, none⟩ = some (.iface 108 (.pointer (some (x k)))) := (hbw.cell (p := ⟨w1.heap.size, k, none⟩) hlt).trans (HC k hk9)
      have hbw2 : Below w.heap.size w wr := HBR.out.trans (hbw.mono HBR.out.size)
      have hbf : Below w.heap.size w (wr.alloc (.cells #[.int .i64 7, .iface 108 (.pointer (some (x k)))] 50)) := hbw2.alloc hbw2.size _
      have hIF : IsErr ea (wr.alloc (.cells #[.int .i64 7, .iface 108 (.pointer (some (x k)))] 50)) ⟨k + 1, some 7⟩ 48 ⟨wr.heap.size, 0, none⟩ := ⟨rfl, wr.heap.size, rfl, by rw [HX.out]; exact Blk.new _ _ _⟩
      have HF : Hid (Calls Tryd.prog 24 #[.iface 48 (.pointer (some ⟨wr.heap.size, 0, none⟩))] (wr.alloc (.cells #[.int .i64 7, .iface 108 (.pointer (some (x k)))] 50)) fun e w' => e = .returned (.tuple #[.int .i64 ((k : Int) + 1), .int .i64 7]) ∧ Below (wr.alloc (.cells #[.int .i64 7, .iface 108 (.pointer (some (x k)))] 50)).heap.size (wr.alloc (.cells #[.int .i64 7, .iface 108 (.pointer (some (x k)))] 50)) w') :=
        Lib.hid (code_any (f := ⟨k + 1, some 7⟩) (HE.out.below hbf) (HG.out.below hbf) (by simp) (by simp; omega) hIF)
      have HK : Hid (∀ W', Below w.heap.size w W' → Calls Tryd.prog 25 #[.iface 108 (.pointer (some (x k))), .int .i64 ((k : Int) + 1)] W' fun e w' => e = .returned (.bool true) ∧ Below W'.heap.size W' w') := Lib.hid fun W' hW => by
        have h := coded_any (f := ⟨k + 1, none⟩) (t := 108) (a := x k) (k + 1) (HE.out.below hW) (HG.out.below hW) (by simp) (by simp; omega) ⟨rfl, (HX.out k).symm⟩ rfl
        rw [decide_eq_true rfl, Int.natCast_add] at h
        exact h
      have HCC := Lib.hid (fun W' (hW : Below wr.heap.size wr W') => (hW.cell (p := ⟨w1.heap.size, k, none⟩) (Nat.lt_of_lt_of_le hlt hbw.size)).trans hc)
      clear HC hIF
      go_wp2_with fail
      refine HF.out.mono ?_
      rintro e w3 ⟨rfl, hb3⟩
      have hb3' : Below wr.heap.size wr w3 := ((Below.refl _ _).alloc (Nat.le_refl _) _).trans (hb3.mono (by simp))
      have hc3 := HCC.out w3 hb3'
      have hbw3 : Below w.heap.size w w3 := hbw2.trans (hb3'.mono hbw2.size)
      clear hb3
      go_wp2_with fail
      refine (HK.out _ hbw3).mono ?_
      rintro e w4 ⟨rfl, hb4⟩
      have hb4' : Below W.heap.size W w4 := (hbw.trans (hb3'.mono hbw.size)).trans (hb4.mono (Nat.le_trans hbw.size hb3'.size))
      clear hb4
      go_wp2
      go_roundw
      case rel => exact ⟨k + 1, by omega, by go_num, hb4'⟩
      case measure => simp [intOf]; omega
    · have hki : (9 : Int) ≤ k := by omega
      have hbw2 : Below w.heap.size w wr := HBR.out.trans (hbw.mono HBR.out.size)
      have hba : ∀ o, Below w.heap.size w (wr.alloc o) := fun o => hbw2.alloc hbw2.size _
      have HO := Lib.hid (fun s => code_other ea ⟨wr.heap.size, 0, none⟩ (wr.alloc (.cells #[.string s] 110)) (HE.out.below (hba _)) (HG.out.below (hba _)) ⟨_, _, Blk.new _ _ _⟩ (fun c h1 h2 he => by
        have hl := ((HE.out.below hbw2).row c h1 h2).ltE
        dsimp only at hl
        rw [← he] at hl
        exact Nat.lt_irrefl _ hl))
      have HB2 := Lib.hid hba
      clear HC hba
      go_wp2_with fail
      refine (errNew _ _).mono ?_
      rintro e w3 ⟨rfl, rfl⟩
      go_wp2_with fail
      refine (HO.out _).mono ?_
      rintro e w4 ⟨rfl, hb4⟩
      have hb4' : Below w.heap.size w w4 := (HB2.out _).trans (hb4.mono (HB2.out _).size)
      clear hb4
      go_wp2_with fail
      refine (coded_nil _).mono ?_
      rintro e w5 ⟨rfl, rfl⟩
      go_wp2
      go_ret
      exact ⟨rfl, hb4'⟩
end Go.Proofs.YtnnkpblagmfonaaDoor
