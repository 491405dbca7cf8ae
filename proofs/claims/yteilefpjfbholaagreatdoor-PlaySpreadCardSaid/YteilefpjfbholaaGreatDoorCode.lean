/-
  The walk of plain.Code.
-/
import Derived.Test.YteilefpjfbholaaGreatDoorIs
namespace Go.Proofs.YteilefpjfbholaaGreatDoor
open Go.RowKit Go.Extern.Stop Go.Stop Go.Extern

def HandleAt (w : World) : Prop := w.cell? ⟨9, 0, none⟩ = some (.iface 260 (.agg #[.pointer (some ⟨18, 27, none⟩)]))
theorem HandleAt.below {w w' : World} (h : HandleAt w) (hb : Below w.heap.size w w') : HandleAt w' := (hb.cell (p := ⟨9, 0, none⟩) (lt_of_cell h)).trans h

/-- What Code answers. -/
def CodePost (c : Nat) (at_ : Int) (w : World) (e : Ending) (w' : World) : Prop := e = .returned (.tuple #[.int .i64 (c : Int), .int .i64 at_]) ∧ Below w.heap.size w w'
def placeOf (f : Flt) : Int := match f.place with | none => -1 | some i => (i : Int)

theorem code_nil (w : World) : Calls Tryz.prog 56 #[.nilIface] w fun e w' => e = .returned (.tuple #[.int .i64 0, .int .i64 (-1)]) ∧ w = w' := by
  go_enter Tryz.func56, Tryz.ntmps56
  go_wp2
  go_ret2
  exact ⟨rfl, rfl⟩

/-- errors.As, the worlds told by what stays. -/
theorem as_no (e t : Addr) (old : Value) (w : World) (hg : HandleAt w) (ht : w.cell? t = some old) :
    Calls Tryz.prog 98 #[.iface 330 (.pointer (some e)), .iface 179 (.pointer (some t))] w fun ev w' => ev = .returned (.bool false) ∧ Below w.heap.size w w' :=
  (as_miss e t old w hg ht).mono fun ev w' h => ⟨h.1, by rw [h.2]; exact (((Below.refl _ _).alloc (Nat.le_refl _) _).alloc (by simp) _).alloc (by simp; omega) _⟩
theorem as_yes (e t : Addr) (old : Value) (w : World) (hg : HandleAt w) (ht : w.cell? t = some old) (hf : w.frozen? t = false) :
    Calls Tryz.prog 98 #[.iface 175 (.pointer (some e)), .iface 179 (.pointer (some t))] w fun ev w' => ev = .returned (.bool true) ∧ w'.cell? t = some (.pointer (some e)) ∧ Below t.block w w' :=
  (as_hit e t old w hg ht hf).mono fun ev w' h => by
    have htl : t.block < w.heap.size := by
      rcases Nat.lt_or_ge t.block w.heap.size with h | h
      · exact h
      · simp [World.cell?, Array.getElem?_eq_none h] at ht
    refine ⟨h.1, ?_, ?_⟩
    · rw [h.2]
      refine World.cell?_setCell_same (u := old) _ _ _ ?_
      rw [World.cell?_alloc_lt _ _ t (by simp; omega), World.cell?_alloc_lt _ _ t (by simp; omega), World.cell?_alloc_lt _ _ t (by simp; omega), World.cell?_alloc_lt _ _ t htl, ht]
    · rw [h.2]
      exact (((((Below.refl _ _).alloc (Nat.le_of_lt htl) _).alloc (by simp; omega) _).alloc (by simp; omega) _).alloc (by simp; omega) _).setCell (Nat.le_refl _) _

theorem sent9 (ea : Nat → Addr) (k : Nat) (hk : k < 9) : (#[Value.iface 330 (.pointer (some (ea (gv 1)))), .iface 330 (.pointer (some (ea (gv 2)))), .iface 330 (.pointer (some (ea (gv 3)))), .iface 330 (.pointer (some (ea (gv 4)))), .iface 330 (.pointer (some (ea (gv 5)))), .iface 330 (.pointer (some (ea (gv 6)))), .iface 330 (.pointer (some (ea (gv 7)))), .iface 330 (.pointer (some (ea (gv 8)))), .iface 330 (.pointer (some (ea (gv 9))))] : Array Value)[k]? = some (.iface 330 (.pointer (some (ea (gv (k + 1)))))) := by
  match k, hk with
  | 0, _ => rfl
  | 1, _ => rfl
  | 2, _ => rfl
  | 3, _ => rfl
  | 4, _ => rfl
  | 5, _ => rfl
  | 6, _ => rfl
  | 7, _ => rfl
  | 8, _ => rfl
/-- The nine errors' row. -/
def row9 (ea : Nat → Addr) : Obj := .cells #[Value.iface 330 (.pointer (some (ea (gv 1)))), .iface 330 (.pointer (some (ea (gv 2)))), .iface 330 (.pointer (some (ea (gv 3)))), .iface 330 (.pointer (some (ea (gv 4)))), .iface 330 (.pointer (some (ea (gv 5)))), .iface 330 (.pointer (some (ea (gv 6)))), .iface 330 (.pointer (some (ea (gv 7)))), .iface 330 (.pointer (some (ea (gv 8)))), .iface 330 (.pointer (some (ea (gv 9))))] 27
theorem row9_cell (ea : Nat → Addr) (w : World) (k : Nat) (hk : k < 9) : (w.alloc (row9 ea)).cell? ⟨w.heap.size, k, none⟩ = some (.iface 330 (.pointer (some (ea (gv (k + 1)))))) :=
  ((Blk.new w 27 _).cell k).trans (sent9 ea k hk)

set_option maxRecDepth 100000 in
set_option maxHeartbeats 2000000 in
theorem code_plain (ea : Nat → Addr) (a : Addr) (f : Flt) (w : World) (hE : ErrsW ea w) (hG : HandleAt w) (hf : f.place = none) (h1 : 1 ≤ f.code) (h2 : f.code ≤ 9) (hI : IsErr ea w f 330 a) :
    Calls Tryz.prog 56 #[.iface 330 (.pointer (some a))] w (CodePost f.code (-1) w) := by
  have hbv : Below w.heap.size w (w.alloc (.cells #[.pointer none] 175)) := (Below.refl _ _).alloc (Nat.le_refl _) _
  have HAs := Lib.hid (as_no a ⟨w.heap.size, 0, none⟩ (.pointer none) (w.alloc (.cells #[.pointer none] 175)) (hG.below hbv) (by simp))
  have HE := Lib.hid hE
  have HI := Lib.hid hI
  obtain ⟨fc, fp⟩ := f
  dsimp only at hf h1 h2 HI ⊢
  subst hf
  clear hE hI hG
  go_enter Tryz.func56, Tryz.ntmps56
  go_wp2_with fail
  refine HAs.out.mono ?_
  rintro e w1 ⟨rfl, hb1⟩
  have hb : Below w.heap.size w w1 := hbv.trans (hb1.mono hbv.size)
  have hE1 := HE.out.below hb
  have g1 := (hE1.row 1 (by decide) (by decide)).1
  have g2 := (hE1.row 2 (by decide) (by decide)).1
  have g3 := (hE1.row 3 (by decide) (by decide)).1
  have g4 := (hE1.row 4 (by decide) (by decide)).1
  have g5 := (hE1.row 5 (by decide) (by decide)).1
  have g6 := (hE1.row 6 (by decide) (by decide)).1
  have g7 := (hE1.row 7 (by decide) (by decide)).1
  have g8 := (hE1.row 8 (by decide) (by decide)).1
  have g9 := (hE1.row 9 (by decide) (by decide)).1
  dsimp only [gv] at g1 g2 g3 g4 g5 g6 g7 g8 g9
  have HE1 := Lib.hid hE1
  clear hE1 HAs
  go_wp2_with fail
  have hbr : Below w.heap.size w (w1.alloc (row9 ea)) := hb.alloc hb.size _
  obtain ⟨x, hx⟩ : ∃ x : Nat → Addr, ∀ k, ea (gv (k + 1)) = x k := ⟨fun k => ea (gv (k + 1)), fun _ => rfl⟩
  have HIs : ∀ k, k < 9 → Hid (Calls Tryz.prog 99 #[.iface 330 (.pointer (some a)), .iface 330 (.pointer (some (x k)))] (w1.alloc (row9 ea)) fun e w' => e = .returned (.bool (decide (fc = k + 1))) ∧ w1.alloc (row9 ea) = w') := fun k hk => by
    rw [← hx]
    exact Lib.hid (is_code (f := ⟨fc, none⟩) (HE.out.below hbr) (HI.out.below hbr) h1 h2 (k + 1) (by omega) (by omega))
  have HC : ∀ k, k < 9 → (w1.alloc (row9 ea)).cell? ⟨w1.heap.size, k, none⟩ = some (.iface 330 (.pointer (some (x k)))) := fun k hk => by
    rw [← hx]; exact row9_cell ea w1 k hk
  have HBR := Lib.hid hbr
  clear hbr hx
  unfold row9 at HIs HC HBR
  dsimp only [gv] at HIs HC HBR
  clear g1 g2 g3 g4 g5 g6 g7 g8 g9 HE1
  generalize (w1.alloc (.cells #[Value.iface 330 (.pointer (some (ea 4))), .iface 330 (.pointer (some (ea 2))), .iface 330 (.pointer (some (ea 6))), .iface 330 (.pointer (some (ea 3))), .iface 330 (.pointer (some (ea 0))), .iface 330 (.pointer (some (ea 7))), .iface 330 (.pointer (some (ea 8))), .iface 330 (.pointer (some (ea 1))), .iface 330 (.pointer (some (ea 5)))] 27)) = W at *
  go_loop [3, 5, 6, 27] (fun pv _ _ iv => ∃ k : Nat, k < fc ∧ iv = .int .i64 (k : Int) ∧ pv = .int .i64 (-1)) (fun _ _ _ iv => 9 - (intOf iv).toNat)
  case atStart => exact ⟨0, h1, rfl, rfl⟩
  case round =>
    obtain ⟨k, hk, rfl, rfl⟩ := hrel
    have hk9 : k < 9 := by omega
    have hki : (k : Int) < 9 := by omega
    have hc := HC k hk9
    have hi := HIs k hk9
    clear HC HIs
    by_cases he : fc = k + 1
    · rw [decide_eq_true he] at hi
      have HX := Lib.hid he
      clear he
      go_wp2_with (go_at_call 99; refine hi.out.mono ?_; rintro e w2 ⟨rfl, rfl⟩)
      go_ret2
      exact ⟨by rw [HX.out]; rfl, HBR.out⟩
    · rw [decide_eq_false he] at hi
      go_wp2_with (go_at_call 99; refine hi.out.mono ?_; rintro e w2 ⟨rfl, rfl⟩)
      go_round
      case rel => exact ⟨k + 1, by omega, by go_num, rfl⟩
      case measure => simp [intOf]; omega
set_option maxRecDepth 100000 in
set_option maxHeartbeats 2000000 in
theorem code_fault (ea : Nat → Addr) (b fc i : Nat) (w : World) (hE : ErrsW ea w) (hG : HandleAt w) (h1 : 1 ≤ fc) (h2 : fc ≤ 9) (hI : IsErr ea w ⟨fc, some i⟩ 175 ⟨b, 0, none⟩) (hB : Blk w b 177 #[.int .i64 (i : Int), .iface 330 (.pointer (some (ea (gv fc))))]) :
    Calls Tryz.prog 56 #[.iface 175 (.pointer (some ⟨b, 0, none⟩))] w (CodePost fc i w) := by
  have hbv : Below w.heap.size w (w.alloc (.cells #[.pointer none] 175)) := (Below.refl _ _).alloc (Nat.le_refl _) _
  have HAs := Lib.hid (as_yes ⟨b, 0, none⟩ ⟨w.heap.size, 0, none⟩ (.pointer none) (w.alloc (.cells #[.pointer none] 175)) (hG.below hbv) (by simp) (by simp))
  have HE := Lib.hid hE
  have HI := Lib.hid hI
  have HB := Lib.hid hB
  clear hE hI hG hB
  go_enter Tryz.func56, Tryz.ntmps56
  go_wp2_with fail
  refine HAs.out.mono ?_
  rintro e w1 ⟨rfl, ht, hb1⟩
  have hb : Below w.heap.size w w1 := hbv.trans hb1
  have hB1 := HB.out.below hb HB.out.lt
  have hB0 : w1.cell? ⟨b, 0, none⟩ = some (.int .i64 (i : Int)) := hB1.cell 0
  clear hB1
  have hE1 := HE.out.below hb
  have g1 := (hE1.row 1 (by decide) (by decide)).1
  have g2 := (hE1.row 2 (by decide) (by decide)).1
  have g3 := (hE1.row 3 (by decide) (by decide)).1
  have g4 := (hE1.row 4 (by decide) (by decide)).1
  have g5 := (hE1.row 5 (by decide) (by decide)).1
  have g6 := (hE1.row 6 (by decide) (by decide)).1
  have g7 := (hE1.row 7 (by decide) (by decide)).1
  have g8 := (hE1.row 8 (by decide) (by decide)).1
  have g9 := (hE1.row 9 (by decide) (by decide)).1
  dsimp only [gv] at g1 g2 g3 g4 g5 g6 g7 g8 g9
  have HE1 := Lib.hid hE1
  clear hE1 HAs
  go_wp2_with fail
  have hbr : Below w.heap.size w (w1.alloc (row9 ea)) := hb.alloc hb.size _
  obtain ⟨x, hx⟩ : ∃ x : Nat → Addr, ∀ k, ea (gv (k + 1)) = x k := ⟨fun k => ea (gv (k + 1)), fun _ => rfl⟩
  have HIs : ∀ k, k < 9 → Hid (Calls Tryz.prog 99 #[.iface 175 (.pointer (some ⟨b, 0, none⟩)), .iface 330 (.pointer (some (x k)))] (w1.alloc (row9 ea)) fun e w' => e = .returned (.bool (decide (fc = k + 1))) ∧ w1.alloc (row9 ea) = w') := fun k hk => by
    rw [← hx]
    exact Lib.hid (is_code (f := ⟨fc, some i⟩) (HE.out.below hbr) (HI.out.below hbr) h1 h2 (k + 1) (by omega) (by omega))
  have HC : ∀ k, k < 9 → (w1.alloc (row9 ea)).cell? ⟨w1.heap.size, k, none⟩ = some (.iface 330 (.pointer (some (x k)))) := fun k hk => by
    rw [← hx]; exact row9_cell ea w1 k hk
  have HBR := Lib.hid hbr
  clear hbr hx
  unfold row9 at HIs HC HBR
  dsimp only [gv] at HIs HC HBR
  clear g1 g2 g3 g4 g5 g6 g7 g8 g9 HE1 ht hB0
  generalize (w1.alloc (.cells #[Value.iface 330 (.pointer (some (ea 4))), .iface 330 (.pointer (some (ea 2))), .iface 330 (.pointer (some (ea 6))), .iface 330 (.pointer (some (ea 3))), .iface 330 (.pointer (some (ea 0))), .iface 330 (.pointer (some (ea 7))), .iface 330 (.pointer (some (ea 8))), .iface 330 (.pointer (some (ea 1))), .iface 330 (.pointer (some (ea 5)))] 27)) = W at *
  go_loop [3, 5, 6, 27] (fun pv _ _ iv => ∃ k : Nat, k < fc ∧ iv = .int .i64 (k : Int) ∧ pv = .int .i64 (i : Int)) (fun _ _ _ iv => 9 - (intOf iv).toNat)
  case atStart => exact ⟨0, h1, rfl, rfl⟩
  case round =>
    obtain ⟨k, hk, rfl, rfl⟩ := hrel
    have hk9 : k < 9 := by omega
    have hki : (k : Int) < 9 := by omega
    have hc := HC k hk9
    have hi := HIs k hk9
    clear HC HIs
    by_cases he : fc = k + 1
    · rw [decide_eq_true he] at hi
      have HX := Lib.hid he
      clear he
      go_wp2_with (go_at_call 99; refine hi.out.mono ?_; rintro e w2 ⟨rfl, rfl⟩)
      go_ret2
      exact ⟨by rw [HX.out]; rfl, HBR.out⟩
    · rw [decide_eq_false he] at hi
      go_wp2_with (go_at_call 99; refine hi.out.mono ?_; rintro e w2 ⟨rfl, rfl⟩)
      go_round
      case rel => exact ⟨k + 1, by omega, by go_num, rfl⟩
      case measure => simp [intOf]; omega

/-- An error's block stands. -/
def Stands (w : World) (a : Addr) : Prop := ∃ x t, w.heap[a.block]? = some (.cells x t (0, 0))
theorem Stands.below {w w' : World} {a : Addr} (h : Stands w a) (hb : Below w.heap.size w w') : Stands w' a := by
  obtain ⟨x, t, h⟩ := h
  have hlt : a.block < w.heap.size := by
    rcases Nat.lt_or_ge a.block w.heap.size with h' | h'
    · exact h'
    · rw [Array.getElem?_eq_none h'] at h; cases h
  exact ⟨x, t, (hb.block _ hlt).trans h⟩
theorem is_other {ea : Nat → Addr} {w : World} {a : Addr} (hE : ErrsW ea w) (hI : Stands w a) (c : Nat) (h3 : 1 ≤ c) (h4 : c ≤ 9) (hne : a ≠ ea (gv c)) :
    Calls Tryz.prog 99 #[.iface 330 (.pointer (some a)), .iface 330 (.pointer (some (ea (gv c))))] w fun e w' => e = .returned (.bool false) ∧ w = w' := by
  have heq := eq_sent a (ea (gv c)) w (fun _ => ⟨hI, (hE.row _ h3 h4).2.2.1⟩)
  rw [decide_eq_false hne] at heq
  exact is_any _ _ _ _ w (Lib.hid (isLoop_sent _ _ _ w heq))
set_option maxRecDepth 100000 in
set_option maxHeartbeats 2000000 in
theorem code_other (ea : Nat → Addr) (a : Addr) (w : World) (hE : ErrsW ea w) (hG : HandleAt w) (hI : Stands w a) (hne : ∀ c, 1 ≤ c → c ≤ 9 → a ≠ ea (gv c)) :
    Calls Tryz.prog 56 #[.iface 330 (.pointer (some a))] w fun e w' => e = .returned (.tuple #[.int .i64 (-1), .int .i64 (-1)]) ∧ Below w.heap.size w w' := by
  have hbv : Below w.heap.size w (w.alloc (.cells #[.pointer none] 175)) := (Below.refl _ _).alloc (Nat.le_refl _) _
  have HAs := Lib.hid (as_no a ⟨w.heap.size, 0, none⟩ (.pointer none) (w.alloc (.cells #[.pointer none] 175)) (hG.below hbv) (by simp))
  have HE := Lib.hid hE
  have HI := Lib.hid hI
  clear hE hI hG
  go_enter Tryz.func56, Tryz.ntmps56
  go_wp2_with fail
  refine HAs.out.mono ?_
  rintro e w1 ⟨rfl, hb1⟩
  have hb : Below w.heap.size w w1 := hbv.trans (hb1.mono hbv.size)
  have hE1 := HE.out.below hb
  have g1 := (hE1.row 1 (by decide) (by decide)).1
  have g2 := (hE1.row 2 (by decide) (by decide)).1
  have g3 := (hE1.row 3 (by decide) (by decide)).1
  have g4 := (hE1.row 4 (by decide) (by decide)).1
  have g5 := (hE1.row 5 (by decide) (by decide)).1
  have g6 := (hE1.row 6 (by decide) (by decide)).1
  have g7 := (hE1.row 7 (by decide) (by decide)).1
  have g8 := (hE1.row 8 (by decide) (by decide)).1
  have g9 := (hE1.row 9 (by decide) (by decide)).1
  dsimp only [gv] at g1 g2 g3 g4 g5 g6 g7 g8 g9
  have HE1 := Lib.hid hE1
  clear hE1 HAs
  go_wp2_with fail
  have hbr : Below w.heap.size w (w1.alloc (row9 ea)) := hb.alloc hb.size _
  obtain ⟨x, hx⟩ : ∃ x : Nat → Addr, ∀ k, ea (gv (k + 1)) = x k := ⟨fun k => ea (gv (k + 1)), fun _ => rfl⟩
  have HIs : ∀ k, k < 9 → Hid (Calls Tryz.prog 99 #[.iface 330 (.pointer (some a)), .iface 330 (.pointer (some (x k)))] (w1.alloc (row9 ea)) fun e w' => e = .returned (.bool false) ∧ w1.alloc (row9 ea) = w') := fun k hk => by
    rw [← hx]
    exact Lib.hid (is_other (HE.out.below hbr) (HI.out.below hbr) (k + 1) (by omega) (by omega) (hne _ (by omega) (by omega)))
  have HC : ∀ k, k < 9 → (w1.alloc (row9 ea)).cell? ⟨w1.heap.size, k, none⟩ = some (.iface 330 (.pointer (some (x k)))) := fun k hk => by
    rw [← hx]; exact row9_cell ea w1 k hk
  have HBR := Lib.hid hbr
  clear hbr hx hne
  unfold row9 at HIs HC HBR
  dsimp only [gv] at HIs HC HBR
  clear g1 g2 g3 g4 g5 g6 g7 g8 g9 HE1
  generalize (w1.alloc (.cells #[Value.iface 330 (.pointer (some (ea 4))), .iface 330 (.pointer (some (ea 2))), .iface 330 (.pointer (some (ea 6))), .iface 330 (.pointer (some (ea 3))), .iface 330 (.pointer (some (ea 0))), .iface 330 (.pointer (some (ea 7))), .iface 330 (.pointer (some (ea 8))), .iface 330 (.pointer (some (ea 1))), .iface 330 (.pointer (some (ea 5)))] 27)) = W at *
  go_loop [3, 5, 6, 27] (fun pv _ _ iv => ∃ k : Nat, k ≤ 9 ∧ iv = .int .i64 (k : Int) ∧ pv = .int .i64 (-1)) (fun _ _ _ iv => 9 - (intOf iv).toNat)
  case atStart => exact ⟨0, by omega, rfl, rfl⟩
  case round =>
    obtain ⟨k, hk, rfl, rfl⟩ := hrel
    by_cases hk9 : k < 9
    · have hki : (k : Int) < 9 := by omega
      have hc := HC k hk9
      have hi := HIs k hk9
      clear HC HIs
      go_wp2_with (go_at_call 99; refine hi.out.mono ?_; rintro e w2 ⟨rfl, rfl⟩)
      go_round
      case rel => exact ⟨k + 1, by omega, by go_num, rfl⟩
      case measure => simp [intOf]; omega
    · have hki : (9 : Int) ≤ k := by omega
      clear HC HIs
      go_wp2
      go_ret2
      exact ⟨rfl, HBR.out⟩

/-- What Code answers to an error of package api. -/
theorem code_any {ea : Nat → Addr} {f : Flt} {t : TypeId} {a : Addr} {w : World} (hE : ErrsW ea w) (hG : HandleAt w) (h1 : 1 ≤ f.code) (h2 : f.code ≤ 9) (hI : IsErr ea w f t a) :
    Calls Tryz.prog 56 #[.iface t (.pointer (some a))] w (CodePost f.code (placeOf f) w) := by
  obtain ⟨fc, fp⟩ := f
  cases fp with
  | none =>
    obtain ⟨rfl, ha⟩ := id hI
    exact code_plain ea a ⟨fc, none⟩ w hE hG rfl h1 h2 hI
  | some i =>
    obtain ⟨rfl, b, rfl, hB⟩ := id hI
    exact code_fault ea b fc i w hE hG h1 h2 hI hB

end Go.Proofs.YteilefpjfbholaaGreatDoor
