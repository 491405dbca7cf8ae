/-
  The walk of the reference's CarryFault.
-/
import Derived.Test.YtalfjaogpbndeaaGreatDoorRefFault
import Derived.Test.YtalfjaogpbndeaaGreatDoorCarCheck
import Derived.Deep.QuietTactic
import Derived.BigQuiet
namespace Go.Proofs.YtalfjaogpbndeaaGreatDoor
open Go.RowKit

/-- The reference asks whether any flow ahead has the key. -/
theorem key_seen {xs : List Fl} {i : Nat} (S : List Nat) (hS : ∀ k, k ∈ S ↔ ∃ j, ∃ h : j < xs.length, j < i ∧ xs[j].key = k) (h : i < xs.length) : xs[i].key ∈ S ↔ ∃ j, ∃ h : j < xs.length, j < i ∧ xs[j].key = xs[i].key := hS _
theorem seen_succ {xs : List Fl} {i : Nat} {S : List Nat} (hS : ∀ k, k ∈ S ↔ ∃ j, ∃ h : j < xs.length, j < i ∧ xs[j].key = k) (h : i < xs.length) : ∀ k, k ∈ xs[i].key :: S ↔ ∃ j, ∃ h : j < xs.length, j < i + 1 ∧ xs[j].key = k := by
  intro k
  rw [List.mem_cons, hS k]
  constructor
  · rintro (rfl | ⟨j, hj, h1, h2⟩)
    · exact ⟨i, h, by omega, rfl⟩
    · exact ⟨j, hj, by omega, h2⟩
  · rintro ⟨j, hj, h1, h2⟩
    rcases Nat.lt_succ_iff_lt_or_eq.1 h1 with h3 | rfl
    · exact .inr ⟨j, hj, h3, h2⟩
    · exact .inl h2.symm
set_option maxRecDepth 100000 in
set_option maxHeartbeats 2000000 in
theorem refCarFault_any (ep : Int) (A : Option Addr) (c B : Nat) (xs : List Fl) (w : World) (hr : Reads w B 3 A xs.length (flsC xs)) (hB : B ≤ w.heap.size) (hl : xs.length ≤ maxLen) (hs : ∀ x ∈ xs, x.host.size ≤ maxLen) :
    Calls Tryz.prog 9 #[.int .i64 ep, .slice A xs.length c] w (FaultPost (checkOf ep xs) w) := by
  have hl' := hl
  unfold maxLen at hl'
  by_cases h : ep < 0 ∨ 1099511627776 < ep ∨ 200 < xs.length
  · have HF : Hid (checkOf ep xs = some ⟨2, none⟩) := Lib.hid (by unfold checkOf; rw [if_pos h])
    rcases ck_ways h with d1 | ⟨d1, d2⟩ | ⟨d1, d2, d3⟩
    all_goals
      clear h
      go_enter Tryz.func9, Tryz.ntmps9
      go_wp2_with fail
      refine (bare_any _ _).mono ?_
      rintro e w1 ⟨rfl, hb1⟩
      have hB1 : Blk w1 w.heap.size 31 _ := (Blk.new w 31 #[.int .i64 0, .int .i64 0]).below hb1 (by simp)
      have c0 := hB1.cell 0
      have c1 := hB1.cell 1
      have f0 := hB1.frozen 0
      have f1 := hB1.frozen 1
      have hz : w.heap.size < w1.heap.size := hB1.lt
      have hbb : Below w.heap.size w w1 := ((Below.refl _ _).alloc (Nat.le_refl _) _).trans (hb1.mono (by simp))
      have HB := Lib.hid hbb
      clear hbb hB1
      simp at c0 c1
      go_wp2
      refine bodyPost_ret (v := retFault (some ⟨2, none⟩)) (by simp [results, Tryz.results9, go_sem, retFault, fCode, fAt, c0, c1]) rfl (faultPost_of HF.out rfl ?_)
      exact (HB.out.setCell (p := ⟨w.heap.size, 0, none⟩) (Nat.le_refl _) _).setCell (p := ⟨w.heap.size, 1, none⟩) (Nat.le_refl _) _
  · have d1 : decide (ep < 0) = false := by simp; omega
    have d2 : decide (ep > 1099511627776) = false := by simp; omega
    have d3 : decide ((xs.length : Int) > 200) = false := by simp; omega
    have HF : Hid (checkOf ep xs = ckGo [] 0 xs) := Lib.hid (by unfold checkOf; rw [if_neg h])
    have HR := Lib.hid (hr.alloc hB (.cells #[.int .i64 0, .int .i64 0] 31))
    have HS := Lib.hid hs
    have hn : xs.length ≤ 200 := by omega
    obtain ⟨W, hW⟩ : ∃ W, W = w.alloc (.cells #[.int .i64 0, .int .i64 0] 31) := ⟨_, rfl⟩
    have HB := Lib.hid (show Below w.heap.size w W by rw [hW]; exact (Below.refl _ _).alloc (Nat.le_refl _) _)
    have hBk : Blk W w.heap.size 31 #[.int .i64 0, .int .i64 0] := by rw [hW]; exact Blk.new _ _ _
    have c0 : W.cell? ⟨w.heap.size, 0, none⟩ = some (.int .i64 0) := hBk.cell 0
    have c1 : W.cell? ⟨w.heap.size, 1, none⟩ = some (.int .i64 0) := hBk.cell 1
    have f0 := hBk.frozen 0
    have f1 := hBk.frozen 1
    rw [← hW] at HR
    clear h hs hr
    go_enter Tryz.func9, Tryz.ntmps9
    go_wp2_with fail
    rw [← hW]
    clear c0 c1 f0 f1
    have HBk := Lib.hid hBk
    clear hBk hW
    go_loopw [5, 6, 7] (fun iv _ _ wr => ∃ (i : Nat) (S : List Nat), i ≤ xs.length ∧ iv = .int .i64 (i : Int) ∧ Hid (checkOf ep xs = ckGo S i (xs.drop i)) ∧ Hid (∀ k, k ∈ S ↔ ∃ j, ∃ h : j < xs.length, j < i ∧ xs[j].key = k) ∧ Hid (Below W.heap.size W wr)) (fun iv _ _ _ => xs.length - (intOf iv).toNat)
    case atStart => exact ⟨0, [], Nat.zero_le _, rfl, HF, Lib.hid fun k => ⟨fun h => (by cases h), fun ⟨j, _, h, _⟩ => absurd h (by omega)⟩, Lib.hid (Below.refl _ _)⟩
    case round =>
      obtain ⟨i, S, hi, rfl, hG, hSS, hb⟩ := hrel
      have hBr := HBk.out.below hb.out HBk.out.lt
      have c0 : wr.cell? ⟨w.heap.size, 0, none⟩ = some (.int .i64 0) := hBr.cell 0
      have c1 : wr.cell? ⟨w.heap.size, 1, none⟩ = some (.int .i64 0) := hBr.cell 1
      have f0 := hBr.frozen 0
      have f1 := hBr.frozen 1
      have hlt := hBr.lt
      have HBr := Lib.hid (HB.out.trans (hb.out.mono HB.out.size))
      clear hBr
      by_cases hil : i < xs.length
      · have hil2 : (i : Int) < xs.length := by omega
        have HRr := Lib.hid (HR.out.keep fun p hp => hb.out.cell (p := p) (by have := HB.out.size; omega))
        obtain ⟨ad, hA, a0, a1, a2⟩ := cellsA HRr.out hil
        subst hA
        have HN := Lib.hid (isName_any xs[i].host wr (HS.out _ (List.getElem_mem hil)))
        have HH := Lib.hid (fun c => ckGo_hit (S := S) (c := c) hil)
        have HT := Lib.hid (ckGo_step (S := S) hil)
        have HSU := Lib.hid (seen_succ hSS.out hil)
        have HME := Lib.hid (hSS.out xs[i].key)
        have hway := ckOne_ways S xs[i]
        unfold NameQ at HN
        rcases hway with ⟨h1, hk⟩ | ⟨h1, d4, hk⟩ | ⟨h1, d4, d5, hk⟩ | ⟨h1, d4, d5, d6, hk⟩ | ⟨h1, d4, d5, d6, hk⟩
        · have HQ := Lib.hid (HH.out _ hk (by decide))
          rw [h1] at HN
          clear h1 hk HH HT HSU HME hSS HRr
          generalize xs[i] = x at *
          go_wp2_with fail
          refine HN.out.mono ?_
          rintro e w1 ⟨rfl, rfl⟩
          go_wp2
          refine bodyPost_ret (v := retFault (some ⟨4, some i⟩)) (by simp [results, Tryz.results9, go_sem, retFault, fCode, fAt, c0, c1]) rfl (faultPost_of (hG.out.trans HQ.out) rfl ?_)
          exact (HBr.out.setCell (p := ⟨w.heap.size, 0, none⟩) (Nat.le_refl _) _).setCell (p := ⟨w.heap.size, 1, none⟩) (Nat.le_refl _) _
        · have HQ := Lib.hid (HH.out _ hk (by decide))
          rw [h1] at HN
          clear h1 hk HH HT HSU HME hSS HRr
          generalize xs[i] = x at *
          go_wp2_with fail
          refine HN.out.mono ?_
          rintro e w1 ⟨rfl, rfl⟩
          go_wp2
          refine bodyPost_ret (v := retFault (some ⟨2, some i⟩)) (by simp [results, Tryz.results9, go_sem, retFault, fCode, fAt, c0, c1]) rfl (faultPost_of (hG.out.trans HQ.out) rfl ?_)
          exact (HBr.out.setCell (p := ⟨w.heap.size, 0, none⟩) (Nat.le_refl _) _).setCell (p := ⟨w.heap.size, 1, none⟩) (Nat.le_refl _) _
        · have HQ := Lib.hid (HH.out _ hk (by decide))
          rw [h1] at HN
          clear h1 hk HH HT HSU HME hSS HRr
          generalize xs[i] = x at *
          go_wp2_with fail
          refine HN.out.mono ?_
          rintro e w1 ⟨rfl, rfl⟩
          go_wp2
          refine bodyPost_ret (v := retFault (some ⟨2, some i⟩)) (by simp [results, Tryz.results9, go_sem, retFault, fCode, fAt, c0, c1]) rfl (faultPost_of (hG.out.trans HQ.out) rfl ?_)
          exact (HBr.out.setCell (p := ⟨w.heap.size, 0, none⟩) (Nat.le_refl _) _).setCell (p := ⟨w.heap.size, 1, none⟩) (Nat.le_refl _) _
        · rw [h1] at HN
          have hil3 : i < 200 := by omega
          have HQ := Lib.hid (HH.out _ hk (by decide))
          have HX : Hid (∃ j, ∃ h : j < xs.length, j < i ∧ xs[j].key = xs[i].key) := Lib.hid (HME.out.1 (by simpa using d6))
          clear h1 hk HH HT HSU HME hSS d6
          have HA0 := Lib.hid (fun (wk : World) (hk : Below W.heap.size W wk) => cellsA (HR.out.keep fun p hp => hk.cell (p := p) (by have := HB.out.size; omega)) hil)
          have HAK := Lib.hid (fun (wk : World) (hk : Below W.heap.size W wk) (k : Nat) (hkl : k < xs.length) => cellsA (HR.out.keep fun p hp => hk.cell (p := p) (by have := HB.out.size; omega)) hkl)
          clear HRr c0 c1 f0 f1
          go_wp2_with fail
          refine HN.out.mono ?_
          rintro e w1 ⟨rfl, rfl⟩
          go_wp2_with fail
          clear a0 a1 a2 HN d4 d5
          go_loopw [7] (fun kv wk => ∃ k : Nat, k ≤ i ∧ kv = .int .i64 (k : Int) ∧ Hid (∀ j (h : j < xs.length), j < k → xs[j].key ≠ xs[i].key) ∧ Hid (Below W.heap.size W wk)) (fun kv _ => i - (intOf kv).toNat)
          case atStart => exact ⟨0, Nat.zero_le _, rfl, Lib.hid fun j _ h => absurd h (by omega), hb⟩
          case round =>
            obtain ⟨k, hki, rfl, hne, hbk⟩ := hrel
            by_cases hlk : k < i
            · have hlk2 : (k : Int) < (i : Int) := by omega
              have hkl : k < xs.length := by omega
              have hkl2 : (k : Int) < xs.length := by omega
              obtain ⟨ad0, hA0, a0, _, _⟩ := HA0.out _ hbk.out
              cases hA0
              obtain ⟨ad1, hA1, b0, _, _⟩ := HAK.out _ hbk.out k hkl
              cases hA1
              have hBr := HBk.out.below hbk.out HBk.out.lt
              by_cases hkey : xs[k].key = xs[i].key
              · have HBr2 := Lib.hid (HB.out.trans (hbk.out.mono HB.out.size))
                have c0 : wr.cell? ⟨w.heap.size, 0, none⟩ = some (.int .i64 0) := hBr.cell 0
                have c1 : wr.cell? ⟨w.heap.size, 1, none⟩ = some (.int .i64 0) := hBr.cell 1
                have c0' : ∀ n, (wr.drewN n).cell? ⟨w.heap.size, 0, none⟩ = some (.int .i64 0) := fun _ => c0
                have c1' : ∀ n, (wr.drewN n).cell? ⟨w.heap.size, 1, none⟩ = some (.int .i64 0) := fun _ => c1
                have f0 := hBr.frozen 0
                have f1 := hBr.frozen 1
                have hlt3 := hBr.lt
                rw [hkey] at b0
                have hbe : ((xs[i].key : Int) == (xs[i].key : Int)) = true := beq_self_eq_true _
                clear hBr hne HX hkey HA0 HAK
                generalize xs[i].key = ky at *
                go_wp2_with fail
                go_quiet (fail)
                go_wp2
                refine bodyPost_ret (v := retFault (some ⟨6, some i⟩)) (by simp [results, Tryz.results9, go_sem, retFault, fCode, fAt, c0', c1']) rfl (faultPost_of (hG.out.trans HQ.out) rfl ?_)
                exact ((below_drewN HBr2.out _).setCell (p := ⟨w.heap.size, 0, none⟩) (Nat.le_refl _) _).setCell (p := ⟨w.heap.size, 1, none⟩) (Nat.le_refl _) _
              · have hbe : ((xs[k].key : Int) == (xs[i].key : Int)) = false := beq_false_of_ne (by omega)
                have hbe2 : ¬ (xs[k].key : Int) = (xs[i].key : Int) := by omega
                have HN2 : Hid (∀ j (h : j < xs.length), j < k + 1 → xs[j].key ≠ xs[i].key) := Lib.hid fun j hj h => by
                  rcases Nat.lt_succ_iff_lt_or_eq.1 h with h1 | rfl
                  · exact hne.out j hj h1
                  · exact hkey
                clear hBr hne hkey HA0 HAK
                generalize xs[k].key = kk at *
                go_wp2_with fail
                go_quiet (fail)
                go_wp2_with fail
                go_roundw
                case rel => exact ⟨k + 1, by omega, by go_num, HN2, Lib.hid (below_drewN hbk.out _)⟩
                case measure => simp [intOf]; omega
            · obtain rfl : k = i := by omega
              have hge : ¬ (k : Int) < k := by omega
              obtain ⟨j, hj, h1, h2⟩ := HX.out
              exact absurd h2 (hne.out j hj h1)
        · rw [h1] at HN
          have hil3 : i < 200 := by omega
          have HQ := Lib.hid (hG.out.trans (HT.out hk))
          have HX : Hid (¬ ∃ j, ∃ h : j < xs.length, j < i ∧ xs[j].key = xs[i].key) := Lib.hid (fun h => by have := HME.out.2 h; simp [this] at d6)
          clear h1 hk HH HT HME hSS d6
          have HA0 := Lib.hid (fun (wk : World) (hk : Below W.heap.size W wk) => cellsA (HR.out.keep fun p hp => hk.cell (p := p) (by have := HB.out.size; omega)) hil)
          have HAK := Lib.hid (fun (wk : World) (hk : Below W.heap.size W wk) (k : Nat) (hkl : k < xs.length) => cellsA (HR.out.keep fun p hp => hk.cell (p := p) (by have := HB.out.size; omega)) hkl)
          clear HRr c0 c1 f0 f1
          go_wp2_with fail
          refine HN.out.mono ?_
          rintro e w1 ⟨rfl, rfl⟩
          go_wp2_with fail
          clear a0 a1 a2 HN d4 d5
          go_loopw [7] (fun kv wk => ∃ k : Nat, k ≤ i ∧ kv = .int .i64 (k : Int) ∧ Hid (∀ j (h : j < xs.length), j < k → xs[j].key ≠ xs[i].key) ∧ Hid (Below W.heap.size W wk)) (fun kv _ => i - (intOf kv).toNat)
          case atStart => exact ⟨0, Nat.zero_le _, rfl, Lib.hid fun j _ h => absurd h (by omega), hb⟩
          case round =>
            obtain ⟨k, hki, rfl, hne, hbk⟩ := hrel
            by_cases hlk : k < i
            · have hlk2 : (k : Int) < (i : Int) := by omega
              have hkl : k < xs.length := by omega
              have hkl2 : (k : Int) < xs.length := by omega
              obtain ⟨ad0, hA0, a0, _, _⟩ := HA0.out _ hbk.out
              cases hA0
              obtain ⟨ad1, hA1, b0, _, _⟩ := HAK.out _ hbk.out k hkl
              cases hA1
              have hBr := HBk.out.below hbk.out HBk.out.lt
              by_cases hkey : xs[k].key = xs[i].key
              · exact absurd ⟨k, hkl, hlk, hkey⟩ HX.out
              · have hbe : ((xs[k].key : Int) == (xs[i].key : Int)) = false := beq_false_of_ne (by omega)
                have hbe2 : ¬ (xs[k].key : Int) = (xs[i].key : Int) := by omega
                have HN2 : Hid (∀ j (h : j < xs.length), j < k + 1 → xs[j].key ≠ xs[i].key) := Lib.hid fun j hj h => by
                  rcases Nat.lt_succ_iff_lt_or_eq.1 h with h1 | rfl
                  · exact hne.out j hj h1
                  · exact hkey
                clear hBr hne hkey HA0 HAK
                generalize xs[k].key = kk at *
                go_wp2_with fail
                go_quiet (fail)
                go_wp2_with fail
                go_roundw
                case rel => exact ⟨k + 1, by omega, by go_num, HN2, Lib.hid (below_drewN hbk.out _)⟩
                case measure => simp [intOf]; omega
            · obtain rfl : k = i := by omega
              have hge : ¬ (k : Int) < k := by omega
              go_wp2_with fail
              go_roundw
              case rel => exact ⟨k + 1, xs[k].key :: S, by omega, by go_num, HQ, HSU, hbk⟩
              case measure => simp [intOf]; omega
      · obtain rfl : i = xs.length := by omega
        have hge : ¬ (xs.length : Int) < xs.length := by omega
        have HQ := Lib.hid (hG.out.trans ckGo_end)
        clear hG hSS
        go_wp2_with fail
        refine (fine_any _).mono ?_
        rintro e w1 ⟨rfl, hb1⟩
        have hB1 : Blk w1 w.heap.size 31 #[.int .i64 0, .int .i64 0] := (HBk.out.below hb.out HBk.out.lt).below hb1 hlt
        have e0 : w1.cell? ⟨w.heap.size, 0, none⟩ = some (.int .i64 0) := hB1.cell 0
        have e1 : w1.cell? ⟨w.heap.size, 1, none⟩ = some (.int .i64 0) := hB1.cell 1
        have g0 := hB1.frozen 0
        have g1 := hB1.frozen 1
        have hz := hB1.lt
        have HB1 := Lib.hid (HBr.out.trans (hb1.mono HBr.out.size))
        clear hB1 hb1 c0 c1 f0 f1
        go_wp2
        refine bodyPost_ret (v := retFault none) (by simp [results, Tryz.results9, go_sem, retFault, fCode, fAt, e0, e1]) rfl (faultPost_of HQ.out rfl ?_)
        exact (HB1.out.setCell (p := ⟨w.heap.size, 0, none⟩) (Nat.le_refl _) _).setCell (p := ⟨w.heap.size, 1, none⟩) (Nat.le_refl _) _
end Go.Proofs.YtalfjaogpbndeaaGreatDoor
