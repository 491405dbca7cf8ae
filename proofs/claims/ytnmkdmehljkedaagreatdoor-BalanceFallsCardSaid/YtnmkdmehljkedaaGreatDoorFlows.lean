/-
  Flows in memory, and the walks of package flows: New, tick, List.
-/
import Derived.Test.YtnmkdmehljkedaaGreatDoorFlowSort
import Derived.Test.YtnmkdmehljkedaaGreatDoorErrs
namespace Go.Proofs.YtnmkdmehljkedaaGreatDoor
open Go.RowKit

/-- Flows in memory: their block fp, the map's block mb. -/
structure FlowsR (w : World) (fp mb time last : Nat) (L : List Fl) : Prop where
  blk : Blk w fp 78 #[.int .i64 (time : Int), .int .i64 (last : Int), .map (some mb)]
  map : FlMap w mb L
  len : L.length ≤ 200
  time : time ≤ 1000
  last : last ≤ 1099511627776
section
variable {w w' : World} {fp mb time last : Nat} {L : List Fl}
theorem FlowsR.ne (h : FlowsR w fp mb time last L) : fp ≠ mb := by
  rintro rfl
  obtain ⟨es, clock, hb, _⟩ := h.map.own
  have := h.blk
  unfold Blk at this
  rw [hb] at this
  cases this
theorem FlowsR.turn {bs : List Nat} (h : FlowsR w fp mb time last L) (ht : Turn bs w w') (h1 : fp ∉ bs) (h2 : mb ∉ bs) : FlowsR w' fp mb time last L := ⟨ht.blk h.blk h1, h.map.turn ht h2, h.len, h.time, h.last⟩
theorem FlowsR.below (h : FlowsR w fp mb time last L) (hb : Below w.heap.size w w') : FlowsR w' fp mb time last L := h.turn (Turn.of_below (bs := []) hb) (by simp) (by simp)
theorem FlowsR.c0 (h : FlowsR w fp mb time last L) : w.cell? ⟨fp, 0, none⟩ = some (.int .i64 (time : Int)) := h.blk.cell 0
theorem FlowsR.c1 (h : FlowsR w fp mb time last L) : w.cell? ⟨fp, 1, none⟩ = some (.int .i64 (last : Int)) := h.blk.cell 1
theorem FlowsR.c2 (h : FlowsR w fp mb time last L) : w.cell? ⟨fp, 2, none⟩ = some (.map (some mb)) := h.blk.cell 2
theorem FlowsR.tick (h : FlowsR w fp mb time last L) {now : Nat} (hn : now ≤ 1099511627776) : FlowsR (w.setCell ⟨fp, 1, none⟩ (.int .i64 (now : Int))) fp mb time now L :=
  ⟨h.blk.set_ 1 _, h.map.turn ((Turn.refl [fp] w).setCell (p := ⟨fp, 1, none⟩) (.inl (by simp)) _) (by simpa using fun e : mb = fp => h.ne e.symm), h.len, h.time, hn⟩
end
/-- A tick's error. -/
def tickE (last : Nat) (now : Int) : Nat := if now < 0 ∨ 1099511627776 < now then 2 else if now < last then 8 else 0
theorem tickE_ok {last : Nat} {now : Int} (h : tickE last now = 0) : ∃ n : Nat, now = (n : Int) ∧ last ≤ n ∧ n ≤ 1099511627776 := by
  unfold tickE at h
  split at h
  · cases h
  · split at h
    · cases h
    · exact ⟨now.toNat, by omega, by omega, by omega⟩
theorem tickE_code {last : Nat} {now : Int} (h : tickE last now ≠ 0) : tickE last now = 2 ∨ tickE last now = 8 := by
  unfold tickE at *
  split at h
  · rename_i h1; rw [if_pos h1]; exact .inl rfl
  · rename_i h1
    rw [if_neg h1]
    split at h
    · rename_i h2; rw [if_pos h2]; exact .inr rfl
    · exact absurd rfl h
/-- The errors that flows tell. -/
structure ErrsF (ea : Nat → Addr) (w : World) : Prop where
  c2 : w.cell? ⟨gv 2, 0, none⟩ = some (.iface 159 (.pointer (some (ea (gv 2)))))
  c4 : w.cell? ⟨gv 4, 0, none⟩ = some (.iface 159 (.pointer (some (ea (gv 4)))))
  c8 : w.cell? ⟨gv 8, 0, none⟩ = some (.iface 159 (.pointer (some (ea (gv 8)))))
theorem ErrsF.below {ea : Nat → Addr} {w w' : World} (h : ErrsF ea w) (hb : Below w.heap.size w w') : ErrsF ea w' :=
  ⟨(hb.cell (p := ⟨gv 2, 0, none⟩) (lt_of_cell h.c2)).trans h.c2, (hb.cell (p := ⟨gv 4, 0, none⟩) (lt_of_cell h.c4)).trans h.c4, (hb.cell (p := ⟨gv 8, 0, none⟩) (lt_of_cell h.c8)).trans h.c8⟩
def errB (ea : Nat → Addr) (c : Nat) : Value := .iface 159 (.pointer (some (ea (gv c))))
theorem maxtick_ways {now : Int} (h : now < 0 ∨ 1099511627776 < now) : decide (now < 0) = true ∨ (decide (now < 0) = false ∧ decide (now > 1099511627776) = true) := by
  simp only [decide_eq_true_eq, decide_eq_false_iff_not]; omega
set_option maxHeartbeats 1000000 in
theorem tick_bad (ea : Nat → Addr) {fp mb time last : Nat} {L : List Fl} (now : Int) (w : World) (hE : ErrsF ea w) (h : FlowsR w fp mb time last L) (hn : tickE last now ≠ 0) :
    Calls Tryz.prog 29 #[.pointer (some ⟨fp, 0, none⟩), .int .i64 now] w fun e w' => e = .returned (errB ea (tickE last now)) ∧ w = w' := by
  have c1 := h.c1
  have e2 := hE.c2
  have e8 := hE.c8
  dsimp only [gv] at e2 e8
  clear h hE
  by_cases h1 : now < 0 ∨ 1099511627776 < now
  · have ht : tickE last now = 2 := by unfold tickE; rw [if_pos h1]
    rw [ht]
    have hw := maxtick_ways h1
    clear h1 hn ht
    rcases hw with t1 | ⟨t1, t2⟩
    all_goals
      go_enter Tryz.func29, Tryz.ntmps29
      go_wp2
      go_ret
      exact ⟨rfl, rfl⟩
  · have h2 : now < last := by
      rcases Int.lt_or_le now last with h2 | h2
      · exact h2
      · exfalso; apply hn; unfold tickE; rw [if_neg h1, if_neg (by omega)]
    have ht : tickE last now = 8 := by unfold tickE; rw [if_neg h1, if_pos h2]
    rw [ht]
    have t1 : decide (now < 0) = false := by simp; omega
    have t2 : decide (now > 1099511627776) = false := by simp; omega
    have t3 : decide (now < (last : Int)) = true := by simpa using h2
    clear h1 hn ht h2
    go_enter Tryz.func29, Tryz.ntmps29
    go_wp2
    go_ret
    exact ⟨rfl, rfl⟩
set_option maxHeartbeats 1000000 in
theorem tick_ok {fp mb time last : Nat} {L : List Fl} (now : Nat) (w : World) (h : FlowsR w fp mb time last L) (h1 : last ≤ now) (h2 : now ≤ 1099511627776) :
    Calls Tryz.prog 29 #[.pointer (some ⟨fp, 0, none⟩), .int .i64 (now : Int)] w fun e w' => e = .returned .nilIface ∧ FlowsR w' fp mb time now L ∧ Turn [fp] w w' := by
  have c1 := h.c1
  have f1 := h.blk.frozen 1
  have hlt := h.blk.lt
  have t1 : decide ((now : Int) < 0) = false := by simp
  have t2 : decide ((now : Int) > 1099511627776) = false := by simp; omega
  have t3 : decide (now < last) = false := by simp; omega
  have HF := Lib.hid (h.tick (now := now) h2)
  have HT := Lib.hid ((Turn.refl [fp] w).setCell (p := ⟨fp, 1, none⟩) (.inl (by simp)) (.int .i64 (now : Int)))
  clear h h1 h2
  go_enter Tryz.func29, Tryz.ntmps29
  go_wp2
  go_ret
  exact ⟨rfl, HF.out, HT.out⟩
def NewBadF (ea : Nat → Addr) (w : World) (e : Ending) (w' : World) : Prop := e = .returned (.tuple #[.pointer none, errB ea 2]) ∧ Below w.heap.size w w'
def NewFlows (time : Nat) (w : World) (e : Ending) (w' : World) : Prop := ∃ fp mb, e = .returned (.tuple #[.pointer (some ⟨fp, 0, none⟩), .nilIface]) ∧ FlowsR w' fp mb time 0 [] ∧ w.heap.size ≤ fp ∧ w.heap.size ≤ mb ∧ Below w.heap.size w w'
theorem newflows_ways {t : Int} (h : t < 1 ∨ 1000 < t) : decide (t < 1) = true ∨ (decide (t < 1) = false ∧ decide (t > 1000) = true) := by
  simp only [decide_eq_true_eq, decide_eq_false_iff_not]; omega
set_option maxHeartbeats 1000000 in
theorem newFlows_bad (ea : Nat → Addr) (t : Int) (w : World) (hE : ErrsF ea w) (h : t < 1 ∨ 1000 < t) : Calls Tryz.prog 13 #[.int .i64 t] w (NewBadF ea w) := by
  have e2 := hE.c2
  dsimp only [gv] at e2
  have hw := newflows_ways h
  clear h hE
  rcases hw with t1 | ⟨t1, t2⟩
  all_goals
    go_enter Tryz.func13, Tryz.ntmps13
    go_wp2
    go_quiet (fail)
    go_wp2
    go_ret2
    exact ⟨rfl, below_drewN (Below.refl _ _) _⟩
set_option maxHeartbeats 1000000 in
theorem newFlows_ok (time : Nat) (w : World) (h1 : 1 ≤ time) (h2 : time ≤ 1000) : Calls Tryz.prog 13 #[.int .i64 (time : Int)] w (NewFlows time w) := by
  have hmm := @run_makeMap Tryz.prog
  have t1 : decide ((time : Int) < 1) = false := by simp; omega
  have t2 : decide ((time : Int) > 1000) = false := by simp; omega
  have HM := Lib.hid (FlMap.made w)
  have HB := Lib.hid (Blk.new (w.alloc (.map #[] 0)) 78 #[.int .i64 (time : Int), .int .i64 0, .map (some w.heap.size)])
  have hs : (w.alloc (.map #[] 0)).heap.size = w.heap.size + 1 := by simp
  have HBl : Hid (Below w.heap.size w ((w.alloc (.map #[] 0)).alloc (.cells #[.int .i64 (time : Int), .int .i64 0, .map (some w.heap.size)] 78))) := Lib.hid (((Below.refl _ _).alloc (Nat.le_refl _) _).alloc (by simp) _)
  have HMB : Hid (FlMap ((w.alloc (.map #[] 0)).alloc (.cells #[.int .i64 (time : Int), .int .i64 0, .map (some w.heap.size)] 78)) w.heap.size []) := Lib.hid (HM.out.below ((Below.refl _ _).alloc (Nat.le_refl _) _))
  go_enter Tryz.func13, Tryz.ntmps13
  go_wp2
  go_ret2
  exact ⟨w.heap.size + 1, w.heap.size, rfl, ⟨by have := HB.out; rwa [hs] at this, HMB.out, by simp, h2, by omega⟩, by omega, Nat.le_refl _, HBl.out⟩
set_option maxHeartbeats 1000000 in
theorem list_any {fp mb time last : Nat} {L : List Fl} (w : World) (h : FlowsR w fp mb time last L) :
    Calls Tryz.prog 21 #[.pointer (some ⟨fp, 0, none⟩)] w (FlsPost L w) := by
  have c2 := h.c2
  have hb : Below w.heap.size w (w.alloc (.cells #[.map (some mb)] 76)) := (Below.refl _ _).alloc (Nat.le_refl _) _
  have HS := Lib.hid (sortedFlows_any w.heap.size mb L (by have := h.len; omega) (w.alloc (.cells #[.map (some mb)] 76)) (by simp) ((Blk.new w _ _).cell 0) (h.map.below hb))
  unfold FlsPost at HS
  clear h
  go_enter Tryz.func21, Tryz.ntmps21
  go_wp2_with fail
  refine (flvalues_any _ _).mono ?_
  rintro e w1 ⟨rfl, rfl⟩
  go_wp2_with fail
  refine HS.out.mono ?_
  rintro e w2 ⟨v, rfl, ho, hb2⟩
  have hb3 := below_two hb hb2
  go_wp2
  go_ret
  exact ⟨v, rfl, own_base ho (by simp), hb3⟩
end Go.Proofs.YtnmkdmehljkedaaGreatDoor
