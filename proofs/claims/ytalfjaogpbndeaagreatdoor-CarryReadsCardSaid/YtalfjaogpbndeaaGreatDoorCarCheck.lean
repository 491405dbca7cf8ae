/-
  The walk of carry's check.
-/
import Derived.Test.YtalfjaogpbndeaaGreatDoorCarLaws
import Derived.Test.YtalfjaogpbndeaaGreatDoorSeen
import Derived.Test.YtalfjaogpbndeaaGreatDoorFlCells
namespace Go.Proofs.YtalfjaogpbndeaaGreatDoor
open Go.RowKit

/-- The errors that carry can tell. -/
structure ErrsK (ea : Nat → Addr) (w : World) : Prop where
  c1 : w.cell? ⟨gv 1, 0, none⟩ = some (.iface 174 (.pointer (some (ea (gv 1)))))
  c2 : w.cell? ⟨gv 2, 0, none⟩ = some (.iface 174 (.pointer (some (ea (gv 2)))))
  c4 : w.cell? ⟨gv 4, 0, none⟩ = some (.iface 174 (.pointer (some (ea (gv 4)))))
  c6 : w.cell? ⟨gv 6, 0, none⟩ = some (.iface 174 (.pointer (some (ea (gv 6)))))
  c9 : w.cell? ⟨gv 9, 0, none⟩ = some (.iface 174 (.pointer (some (ea (gv 9)))))
theorem ErrsK.below {ea : Nat → Addr} {w w' : World} (h : ErrsK ea w) (hb : Below w.heap.size w w') : ErrsK ea w' :=
  ⟨(hb.cell (p := ⟨gv 1, 0, none⟩) (lt_of_cell h.c1)).trans h.c1, (hb.cell (p := ⟨gv 2, 0, none⟩) (lt_of_cell h.c2)).trans h.c2, (hb.cell (p := ⟨gv 4, 0, none⟩) (lt_of_cell h.c4)).trans h.c4, (hb.cell (p := ⟨gv 6, 0, none⟩) (lt_of_cell h.c6)).trans h.c6, (hb.cell (p := ⟨gv 9, 0, none⟩) (lt_of_cell h.c9)).trans h.c9⟩
def CkPost (ea : Nat → Addr) (o : Option Flt) (w : World) (e : Ending) (w' : World) : Prop :=
  match o with
  | none => e = .returned .nilIface ∧ Below w.heap.size w w'
  | some f => ErrPost ea f w e w'
theorem ckPost_ok {ea : Nat → Addr} {o : Option Flt} {w w' : World} (h : o = none) (hb : Below w.heap.size w w') : CkPost ea o w (.returned .nilIface) w' := by
  subst h; exact ⟨rfl, hb⟩
theorem ckPost_bad {ea : Nat → Addr} {o : Option Flt} {w w' : World} {f : Flt} {e : Ending} (h : o = some f) (hb : ErrPost ea f w e w') : CkPost ea o w e w' := by
  subst h; exact hb
theorem ck_ways {e : Int} {n : Nat} (h : e < 0 ∨ 1099511627776 < e ∨ 200 < n) : decide (e < 0) = true ∨ (decide (e < 0) = false ∧ decide (e > 1099511627776) = true) ∨ (decide (e < 0) = false ∧ decide (e > 1099511627776) = false ∧ decide ((n : Int) > 200) = true) := by
  simp only [decide_eq_true_eq, decide_eq_false_iff_not]; omega
theorem ckGo_hit {S : List Nat} {xs : List Fl} {i c : Nat} (h : i < xs.length) (hc : ckOne S xs[i] = c) (h0 : c ≠ 0) : ckGo S i (xs.drop i) = some ⟨c, some i⟩ := by
  rw [List.drop_eq_getElem_cons h, ckGo, hc, if_neg h0]
theorem ckGo_step {S : List Nat} {xs : List Fl} {i : Nat} (h : i < xs.length) (hc : ckOne S xs[i] = 0) : ckGo S i (xs.drop i) = ckGo (xs[i].key :: S) (i + 1) (xs.drop (i + 1)) := by
  rw [List.drop_eq_getElem_cons h, ckGo, if_pos hc]
theorem ckGo_end {S : List Nat} {xs : List Fl} : ckGo S xs.length (xs.drop xs.length) = none := by
  rw [List.drop_length]; rfl
theorem ckOne_ways (S : List Nat) (x : Fl) : (isName x.host = false ∧ ckOne S x = 4) ∨
    (isName x.host = true ∧ decide (x.til < 0) = true ∧ ckOne S x = 2) ∨
    (isName x.host = true ∧ decide (x.til < 0) = false ∧ decide (x.til > 1099511628776) = true ∧ ckOne S x = 2) ∨
    (isName x.host = true ∧ decide (x.til < 0) = false ∧ decide (x.til > 1099511628776) = false ∧ decide (x.key ∈ S) = true ∧ ckOne S x = 6) ∨
    (isName x.host = true ∧ decide (x.til < 0) = false ∧ decide (x.til > 1099511628776) = false ∧ decide (x.key ∈ S) = false ∧ ckOne S x = 0) := by
  unfold ckOne
  simp only [decide_eq_true_eq, decide_eq_false_iff_not]
  cases isName x.host with
  | false => exact .inl ⟨rfl, rfl⟩
  | true =>
    simp only [Bool.true_eq_false, if_false]
    by_cases h1 : x.til < 0
    · exact .inr (.inl ⟨trivial, h1, if_pos (.inl h1)⟩)
    · by_cases h2 : x.til > 1099511628776
      · exact .inr (.inr (.inl ⟨trivial, h1, h2, if_pos (.inr h2)⟩))
      · rw [if_neg (by omega)]
        by_cases h3 : x.key ∈ S
        · exact .inr (.inr (.inr (.inl ⟨trivial, h1, h2, h3, if_pos h3⟩)))
        · exact .inr (.inr (.inr (.inr ⟨trivial, h1, h2, h3, if_neg h3⟩)))
theorem check_bound (ea : Nat → Addr) (ep : Int) (A : Option Addr) (n c : Nat) (o : Option Flt) (w : World) (hE : ErrsK ea w) (ho : o = some ⟨2, none⟩) (h : ep < 0 ∨ 1099511627776 < ep ∨ 200 < n) :
    Calls Tryz.prog 16 #[.int .i64 ep, .slice A n c] w (CkPost ea o w) := by
  have c2 := hE.c2
  dsimp only [gv] at c2
  rcases ck_ways h with d1 | ⟨d1, d2⟩ | ⟨d1, d2, d3⟩
  all_goals
    clear h
    go_enter Tryz.func16, Tryz.ntmps16
    go_wp2
    go_ret
    exact ckPost_bad ho ⟨_, _, rfl, ⟨rfl, rfl⟩, Below.refl _ _⟩
set_option maxRecDepth 100000 in
set_option maxHeartbeats 1000000 in
theorem check_list (ea : Nat → Addr) (ep : Int) (A : Option Addr) (c B : Nat) (xs : List Fl) (o : Option Flt) (w : World) (hE : ErrsK ea w) (hr : Reads w B 3 A xs.length (flsC xs)) (hB : B ≤ w.heap.size) (hs : ∀ x ∈ xs, x.host.size ≤ maxLen) (hu : ∀ x ∈ xs, U64 x.key) (ho : o = ckGo [] 0 xs) (h : ¬ (ep < 0 ∨ 1099511627776 < ep ∨ 200 < xs.length)) :
    Calls Tryz.prog 16 #[.int .i64 ep, .slice A xs.length c] w (CkPost ea o w) := by
  have d1 : decide (ep < 0) = false := by simp; omega
  have d2 : decide (ep > 1099511627776) = false := by simp; omega
  have d3 : decide ((xs.length : Int) > 200) = false := by simp; omega
  have hn : xs.length ≤ 200 := by omega
  have HE := Lib.hid hE
  have HR := Lib.hid hr
  have HS := Lib.hid hs
  have HU := Lib.hid hu
  have HO := Lib.hid ho
  clear h hE hr hs hu ho
  have hmm := @run_makeMap Tryz.prog
  go_enter Tryz.func16, Tryz.ntmps16
  go_wp2_with fail
  go_loopw [6, 23] (fun _ iv wr => ∃ (i : Nat) (S : List Nat), i ≤ xs.length ∧ iv = .int .i64 (i : Int) ∧ Hid (KeyIs w.heap.size i S wr) ∧ Hid (o = ckGo S i (xs.drop i)) ∧ Hid (Below w.heap.size w wr)) (fun _ iv _ => xs.length + 1 - (intOf iv).toNat)
  case atStart => exact ⟨0, [], Nat.zero_le _, rfl, Lib.hid (KeyIs.made w), HO, Lib.hid ((Below.refl _ _).alloc (Nat.le_refl _) _)⟩
  case round =>
    obtain ⟨i, S, hi, rfl, hS, hG, hb⟩ := hrel
    by_cases hil : i < xs.length
    · have hil2 : (i : Int) < xs.length := by omega
      obtain ⟨ad, rfl, a0, a1, a2⟩ := cellsA (HR.out.keep fun p hp => hb.out.cell (by omega)) hil
      have hsz := HS.out _ (List.getElem_mem hil)
      have hU := HU.out _ (List.getElem_mem hil)
      have HH := Lib.hid (fun c => ckGo_hit (S := S) (c := c) hil)
      have HT := Lib.hid (ckGo_step (S := S) hil)
      have hway := ckOne_ways S xs[i]
      generalize xs[i] = x at *
      have hB1 := Blk.new wr 45 #[.int .u64 (x.key : Int), .string x.host, .int .i64 x.til]
      have hb1 := (Below.refl wr.heap.size wr).alloc (Nat.le_refl _) (.cells #[.int .u64 (x.key : Int), .string x.host, .int .i64 x.til] 45)
      have HN := Lib.hid (fun b hb W => fl_name x.host hsz b hb W)
      obtain ⟨W2, hW2⟩ : ∃ W2, W2 = wr.alloc (.cells #[.int .u64 (x.key : Int), .string x.host, .int .i64 x.til] 45) := ⟨_, rfl⟩
      rw [← hW2] at hB1 hb1
      have HB1 := Lib.hid hB1
      have HK2 := Lib.hid (hS.out.below hb1)
      have HW2 := Lib.hid (hb.out.trans (hb1.mono hb.out.size))
      have q0 : W2.cell? ⟨wr.heap.size, 0, none⟩ = some (.int .u64 (x.key : Int)) := hB1.cell 0
      have q1 : W2.cell? ⟨wr.heap.size, 1, none⟩ = some (.string x.host) := hB1.cell 1
      have q2 : W2.cell? ⟨wr.heap.size, 2, none⟩ = some (.int .i64 x.til) := hB1.cell 2
      have HF : Hid (∀ W (v : Nat), Below W2.heap.size W2 W → o = some ⟨v, some i⟩ → CkPost ea o w (.returned (.iface 77 (.pointer (some ⟨W.heap.size, 0, none⟩)))) (W.alloc (.cells #[.int .i64 (i : Int), .iface 174 (.pointer (some (ea (gv v))))] 79))) := Lib.hid fun W v hW h =>
        ckPost_bad h ⟨_, _, rfl, ⟨rfl, _, rfl, Blk.new _ _ _⟩, (HW2.out.trans (hW.mono HW2.out.size)).alloc (HW2.out.trans (hW.mono HW2.out.size)).size _⟩
      clear hB1 hb1 hS
      rcases hway with ⟨h1, hk⟩ | ⟨h1, d4, hk⟩ | ⟨h1, d4, d5, hk⟩ | ⟨h1, d4, d5, d6, hk⟩ | ⟨h1, d4, d5, d6, hk⟩
      · have HX := Lib.hid (HN.out _ h1)
        have HQ := Lib.hid (hG.out.trans (HH.out _ hk (by decide)))
        clear h1 hk HN HH HT
        go_wp2_with fail
        rw [← hW2]
        refine (HX.out _).mono ?_
        rintro e w1 ⟨rfl, hb2⟩
        have e4 := (HE.out.below (HW2.out.trans (hb2.mono HW2.out.size))).c4
        dsimp only [gv] at e4
        go_wp2
        go_ret
        exact HF.out _ 4 hb2 HQ.out
      · have HX := Lib.hid (HN.out _ h1)
        have HQ := Lib.hid (hG.out.trans (HH.out _ hk (by decide)))
        clear h1 hk HN HH HT
        go_wp2_with fail
        rw [← hW2]
        refine (HX.out _).mono ?_
        rintro e w1 ⟨rfl, hb2⟩
        have hB2 := HB1.out.below hb2 HB1.out.lt
        have r0 : w1.cell? ⟨wr.heap.size, 0, none⟩ = some (.int .u64 (x.key : Int)) := hB2.cell 0
        have r2 : w1.cell? ⟨wr.heap.size, 2, none⟩ = some (.int .i64 x.til) := hB2.cell 2
        have e2 := (HE.out.below (HW2.out.trans (hb2.mono HW2.out.size))).c2
        dsimp only [gv] at e2
        clear hB2 q0 q1 q2
        go_wp2
        go_ret
        exact HF.out _ 2 hb2 HQ.out
      · have HX := Lib.hid (HN.out _ h1)
        have HQ := Lib.hid (hG.out.trans (HH.out _ hk (by decide)))
        clear h1 hk HN HH HT
        go_wp2_with fail
        rw [← hW2]
        refine (HX.out _).mono ?_
        rintro e w1 ⟨rfl, hb2⟩
        have hB2 := HB1.out.below hb2 HB1.out.lt
        have r0 : w1.cell? ⟨wr.heap.size, 0, none⟩ = some (.int .u64 (x.key : Int)) := hB2.cell 0
        have r2 : w1.cell? ⟨wr.heap.size, 2, none⟩ = some (.int .i64 x.til) := hB2.cell 2
        have e2 := (HE.out.below (HW2.out.trans (hb2.mono HW2.out.size))).c2
        dsimp only [gv] at e2
        clear hB2 q0 q1 q2
        go_wp2
        go_ret
        exact HF.out _ 2 hb2 HQ.out
      · have HX := Lib.hid (HN.out _ h1)
        have HQ := Lib.hid (hG.out.trans (HH.out _ hk (by decide)))
        clear h1 hk HN HH HT
        go_wp2_with fail
        rw [← hW2]
        refine (HX.out _).mono ?_
        rintro e w1 ⟨rfl, hb2⟩
        have hB2 := HB1.out.below hb2 HB1.out.lt
        have r0 : w1.cell? ⟨wr.heap.size, 0, none⟩ = some (.int .u64 (x.key : Int)) := hB2.cell 0
        have r2 : w1.cell? ⟨wr.heap.size, 2, none⟩ = some (.int .i64 x.til) := hB2.cell 2
        have e6 := (HE.out.below (HW2.out.trans (hb2.mono HW2.out.size))).c6
        dsimp only [gv] at e6
        have hK1 := HK2.out.below hb2
        clear hB2 q0 q1 q2
        go_wp2_with (first
          | (at_lookup
             go_must (refine wp_keys_look rfl _ _ rfl rfl hK1 x.key rfl hU ?_)
             rw [d6])
          | fail)
        go_ret
        exact HF.out _ 6 hb2 HQ.out
      · have HX := Lib.hid (HN.out _ h1)
        have HQ := Lib.hid (hG.out.trans (HT.out hk))
        clear h1 hk HN HH HT
        go_wp2_with fail
        rw [← hW2]
        refine (HX.out _).mono ?_
        rintro e w1 ⟨rfl, hb2⟩
        have hB2 := HB1.out.below hb2 HB1.out.lt
        have r0 : w1.cell? ⟨wr.heap.size, 0, none⟩ = some (.int .u64 (x.key : Int)) := hB2.cell 0
        have r2 : w1.cell? ⟨wr.heap.size, 2, none⟩ = some (.int .i64 x.til) := hB2.cell 2
        have hmx : i < maxLen := by unfold maxLen; omega
        have hK1 := HK2.out.below hb2
        clear hB2 q0 q1 q2
        go_wp2_with (first
          | (at_lookup
             go_must (refine wp_keys_look rfl _ _ rfl rfl hK1 x.key rfl hU ?_)
             rw [d6])
          | (at_mapUpdate
             refine wp_keys_put rfl _ _ _ rfl rfl hK1 x.key rfl rfl hU hmx ?_
             intro w2 hS2 hg2)
          | fail)
        go_roundw
        case rel => exact ⟨i + 1, x.key :: S, by omega, by go_num, Lib.hid hS2, HQ, Lib.hid (((HW2.out.trans (hb2.mono HW2.out.size))).grown hg2 (HW2.out.trans (hb2.mono HW2.out.size)).size (fun g e => by cases e; exact Nat.le_refl _))⟩
        case measure => simp [intOf]; omega
    · obtain rfl : i = xs.length := by omega
      have hge : ¬ (xs.length : Int) < xs.length := by omega
      have HQ := Lib.hid (hG.out.trans ckGo_end)
      clear hG hS
      go_wp2
      go_ret
      exact ckPost_ok HQ.out hb.out
theorem carCheck_any (ea : Nat → Addr) (ep : Int) (A : Option Addr) (c B : Nat) (xs : List Fl) (w : World) (hE : ErrsK ea w) (hr : Reads w B 3 A xs.length (flsC xs)) (hB : B ≤ w.heap.size) (hs : ∀ x ∈ xs, x.host.size ≤ maxLen) (hu : ∀ x ∈ xs, U64 x.key) :
    Calls Tryz.prog 16 #[.int .i64 ep, .slice A xs.length c] w (CkPost ea (checkOf ep xs) w) := by
  by_cases h : ep < 0 ∨ 1099511627776 < ep ∨ 200 < xs.length
  · exact check_bound ea ep A _ c _ w hE (by unfold checkOf; rw [if_pos h]) h
  · exact check_list ea ep A c B xs _ w hE hr hB hs hu (by unfold checkOf; rw [if_neg h]) h
end Go.Proofs.YtalfjaogpbndeaaGreatDoor
