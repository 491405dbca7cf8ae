/-
  The law TableCounts: its walk.
-/
import Derived.Test.YtbbbnnooaaelmaaDoorMoves
import Derived.Test.YtbbbnnooaaelmaaDoorFaulted1
import Derived.Test.YtbbbnnooaaelmaaDoorSame
import Derived.Test.YtbbbnnooaaelmaaDoorOwn
import Derived.Deep.CutBlock
import Derived.Deep.DeepCutAuto
namespace Go.Proofs.YtbbbnnooaaelmaaDoor
open Go.RowKit

theorem errsT_w {ea : Nat → Addr} {w : World} (h : ErrsW ea w) : ErrsT ea w :=
  ⟨⟨(h.row 2 (by omega) (by omega)).1, (h.row 4 (by omega) (by omega)).1, (h.row 6 (by omega) (by omega)).1⟩, ⟨(h.row 2 (by omega) (by omega)).1, (h.row 3 (by omega) (by omega)).1⟩, (h.row 5 (by omega) (by omega)).1⟩
def YesB (w : World) (e : Ending) (w' : World) : Prop := e = .returned (.bool true) ∧ Below w.heap.size w w'
theorem sameI_yesB (A B : Option Addr) (ca cb : Nat) (xs : List Int) (w : World) (ha : Reads w w.heap.size 1 A xs.length (xs.map intV)) (hb : Reads w w.heap.size 1 B xs.length (xs.map intV)) (hl : xs.length ≤ maxLen) :
    Calls Tryd.prog 44 #[.slice A xs.length ca, .slice B xs.length cb] w (YesB w) :=
  (sameInts A B ca cb w.heap.size xs xs w ha hb hl hl).mono fun ev w' ⟨h1, q, h2⟩ => ⟨by rw [h1, decide_eq_true rfl], by rw [h2]; exact below_drewN (Below.refl _ _) q⟩
/-- What table.Counts tells, whichever way. -/
def CountsNo (ea : Nat → Addr) (l : List Int) (many : Int) (f : Flt) : Prop := ∀ W A c, ErrsT ea W → Reads W W.heap.size 1 A l.length (l.map intV) → Calls Tryd.prog 16 #[.slice A l.length c, .int .i64 many] W (SortedBad ea f W)
def CountsYes (ea : Nat → Addr) (l : List Int) (m : Nat) : Prop := ∀ W A c, ErrsT ea W → Reads W W.heap.size 1 A l.length (l.map intV) → Calls Tryd.prog 16 #[.slice A l.length c, .int .i64 (m : Int)] W (CountsGood l m W)
def slotsOK (l : List Int) (m k : Nat) : Prop := ∀ i (h : i < l.length), i < k → 0 ≤ l[i] ∧ l[i] < m
theorem counts_both (ea : Nat → Addr) (l : List Int) (many : Int) (hl : l.length ≤ 1000) :
    ((many < 0 ∨ 12 < many) ∧ CountsNo ea l many ⟨2, none⟩) ∨
    (∃ m : Nat, many = (m : Int) ∧ m ≤ 12 ∧ ∃ k, ∃ hk : k < l.length, slotsOK l m k ∧ (l[k] < 0 ∨ (m : Int) ≤ l[k]) ∧ CountsNo ea l m ⟨2, some k⟩) ∨
    ∃ m : Nat, many = (m : Int) ∧ m ≤ 12 ∧ slotsOK l m l.length ∧ CountsYes ea l m := by
  have H := fun W A c hE hr => counts_any ea A c l many W hE hr hl
  by_cases hm : many < 0 ∨ 12 < many
  · refine .inl ⟨hm, fun W A c hE hr => (H W A c hE hr).mono fun e w' h => ?_⟩
    unfold CountsPost countsFault at h
    rw [if_pos hm] at h; exact h
  · obtain ⟨m, rfl⟩ := Int.eq_ofNat_of_zero_le (by omega : 0 ≤ many)
    have hm12 : m ≤ 12 := by omega
    right
    cases hf : l.findIdx? fun x => decide (x < 0 ∨ (m : Int) ≤ x) with
    | some k =>
      obtain ⟨hk, hb, hmin⟩ := List.findIdx?_eq_some_iff_getElem.1 hf
      have hb : l[k] < 0 ∨ (m : Int) ≤ l[k] := by simpa using hb
      have hok : slotsOK l m k := fun i hi hik => by
        have := hmin i hik
        simp at this
        omega
      refine .inl ⟨m, rfl, hm12, k, hk, hok, hb, fun W A c hE hr => (H W A c hE hr).mono fun e w' h => ?_⟩
      unfold CountsPost at h
      rw [countsFault_at hm12 hk hok hb] at h
      exact h
    | none =>
      have hall : slotsOK l m l.length := fun i hi _ => by
        have := List.findIdx?_eq_none_iff.1 hf _ (List.getElem_mem hi)
        simp at this
        omega
      refine .inr ⟨m, rfl, hm12, hall, fun W A c hE hr => (H W A c hE hr).mono fun e w' h => ?_⟩
      unfold CountsPost at h
      rw [countsFault_end hm12 fun i hi => hall i hi hi] at h
      exact h

def CountsRes (ea : Nat → Addr) (l : List Int) (many : Int) (vx ve : Value) (w : World) : Prop := match countsFault l many with
  | some f => vx = .slice none 0 0 ∧ ∃ t a, ve = .iface t (.pointer (some a)) ∧ IsErr ea w f t a
  | none => ve = .nilIface ∧ ∃ g, vx = .slice (some ⟨g, 0, none⟩) many.toNat many.toNat ∧ Blk w g 3 (numsV (countsL many.toNat (l.map Int.toNat))).toArray
theorem counts_res (ea : Nat → Addr) (A : Option Addr) (c : Nat) (l : List Int) (many : Int) (w : World) (hE : ErrsT ea w) (hr : Reads w w.heap.size 1 A l.length (l.map intV)) (hl : l.length ≤ 1000) :
    Calls Tryd.prog 16 #[.slice A l.length c, .int .i64 many] w fun e w' => ∃ vx ve, e = .returned (.tuple #[vx, ve]) ∧ CountsRes ea l many vx ve w' ∧ Below w.heap.size w w' :=
  (counts_any ea A c l many w hE hr hl).mono fun e w' h => by
    unfold CountsPost at h
    unfold CountsRes
    cases hf : countsFault l many with
    | some f =>
      rw [hf] at h
      obtain ⟨t, a, he, hI, hb⟩ := h
      exact ⟨_, _, he, ⟨rfl, t, a, rfl, hI⟩, hb⟩
    | none =>
      rw [hf] at h
      obtain ⟨g, he, hB, _, hb⟩ := h
      exact ⟨_, _, he, ⟨rfl, g, rfl, hB⟩, hb⟩
theorem cases3 (n : Int) : (decide (n < 0) = true ∧ decide (n < 0 ∨ 12 < n) = true) ∨ (decide (n < 0) = false ∧ decide (n > 12) = true ∧ decide (n < 0 ∨ 12 < n) = true) ∨ (decide (n < 0) = false ∧ decide (n > 12) = false ∧ decide (n < 0 ∨ 12 < n) = false) := by
  simp only [decide_eq_true_eq, decide_eq_false_iff_not]; omega
theorem long_sum (a b : Bool) : decide (0 < IntKind.i64.wrap ((if a then (1 : Int) else 0) + (if b then 1 else 0))) = (a || b) := by cases a <;> cases b <;> rfl
def BmC (bm : Bool) (c : Int) : Prop := bm = true ∧ c = 2 ∨ bm = false ∧ c = 0
theorem countsFault_code {l : List Int} {many : Int} {f : Flt} (h : countsFault l many = some f) : f.code = 2 := by
  unfold countsFault at h
  split at h
  · injection h with h; rw [← h]
  · split at h
    · injection h with h; rw [← h]
    · cases h
theorem counts_ints (m : Nat) (xs : List Nat) : numsV (countsL m xs) = ((countsL m xs).map fun k : Nat => (k : Int)).map intV := by
  unfold numsV
  rw [List.map_map]; rfl
set_option maxRecDepth 100000 in
set_option maxHeartbeats 12000000 in
theorem tc_walk (ea : Nat → Addr) (Al : Option Addr) (cl : Nat) (l : List Int) (many : Int) (Aa Ab : Option Addr) (ca cb : Nat) (a b : List ByteArray) (size : Int) (w : World) (hE : ErrsW ea w) (hG : HandleAt w)
    (hRl : Reads w w.heap.size 1 Al l.length (l.map intV)) (hll : l.length ≤ 600) (hIa : TxIn w Aa ca a) (hIb : TxIn w Ab cb b) (hLa : longH a = false) (hLb : longH b = false) :
    Calls Tryd.prog 10 #[.slice Al l.length cl, .int .i64 many, .slice Aa a.length ca, .slice Ab b.length cb, .int .i64 size] w (True1 w) := by
  obtain ⟨hla30, _⟩ := long_no hLa
  obtain ⟨hlb30, _⟩ := long_no hLb
  obtain ⟨i0, hi0, hz0, hz1, hz2⟩ := info_parts info_num
  have HLa : Hid (∀ W, Below w.heap.size w W → Calls Tryd.prog 13 #[.slice Aa a.length ca] W (LongIs false W)) :=
    Lib.hid fun W hW => by rw [← hLa]; exact longHosts_any Aa ca W.heap.size a W (hIa.below hW).r hIa.lm hIa.s
  have HLb : Hid (∀ W, Below w.heap.size w W → Calls Tryd.prog 13 #[.slice Ab b.length cb] W (LongIs false W)) :=
    Lib.hid fun W hW => by rw [← hLb]; exact longHosts_any Ab cb W.heap.size b W (hIb.below hW).r hIb.lm hIb.s
  have HW := Lib.hid (tabled_any ea w (errsT_w hE))
  have t0 : decide ((l.length : Int) > 600) = false := by simp; omega
  have HRL : Hid (∀ W, Below w.heap.size w W → Reads W w.heap.size 1 Al l.length (l.map intV)) := Lib.hid fun W hW => hRl.below hW
  have HC : Hid (∀ W A c, Below w.heap.size w W → Reads W W.heap.size 1 A l.length (l.map intV) → Calls Tryd.prog 16 #[.slice A l.length c, .int .i64 many] W fun e w' => ∃ vx ve, e = .returned (.tuple #[vx, ve]) ∧ CountsRes ea l many vx ve w' ∧ Below W.heap.size W w') := Lib.hid fun W A c hW hr => counts_res ea A c l many W ((errsT_w hE).below hW) hr (by omega)
  have HE := Lib.hid hE
  have HG := Lib.hid hG
  have HIa := Lib.hid hIa
  have HIb := Lib.hid hIb
  have HMa := Lib.hid (make_both ea a size)
  have HMb := Lib.hid (make_both ea b size)
  have HO : Hid (∀ u ∈ l.map intV, u.oneCell' = true) := Lib.hid (fun u hu => by
    obtain ⟨x, _, rfl⟩ := List.mem_map.1 hu
    rfl)
  obtain ⟨cf, hcf⟩ : ∃ cf, cf = countsFault l many := ⟨_, rfl⟩
  obtain ⟨fc, hfc⟩ : ∃ c : Int, c = (fCode cf : Int) := ⟨_, rfl⟩
  obtain ⟨fa, hfa⟩ : ∃ c : Int, c = fAt cf := ⟨_, rfl⟩
  have HCF := Lib.hid hcf
  have HFC := Lib.hid hfc
  have HFA := Lib.hid hfa
  clear hE hG hRl hIa hIb hLa hLb hcf hfc hfa
  go_enter Tryd.func10, Tryd.ntmps10
  go_wp2_with fail
  refine HW.out.mono ?_
  rintro e w1 ⟨rfl, hb1⟩
  go_wp2_with fail
  refine (HLa.out _ hb1).mono ?_
  rintro e w2 ⟨rfl, rfl⟩
  go_wp2_with fail
  refine (HLb.out _ hb1).mono ?_
  rintro e w2 ⟨rfl, rfl⟩
  go_wp2_with (first
    | (at_builtin
       go_must (refine wpList_append_any _ rfl (.tmp 42) (.tmp 43) _ rfl w.heap.size 3 i0 _ 1 8 Tryd.underlying25 hi0 hz0 hz1 hz2 rfl (by omega) (.slice none 0 0) 0 [] rfl (own_none _ _ _) w.heap.size Al l.length cl (l.map intV) rfl (HRL.out _ hb1) HO.out (by simp only [maxLen]; omega) (by omega) hb1.size ?_
                intro v1 w2 hown1 hg1 _
                simp only [Nat.zero_add, List.nil_append] at hown1
                have hb2 := (Below.refl w1.heap.size w1).grown hg1 (Nat.le_refl _) (by simp [Value.ownBlock])
                have hb12 := below_two hb1 hb2
                obtain ⟨A2, c2, hv2, hr2, hc2, _⟩ := own_slice hown1
                subst hv2
                have HR2 := Lib.hid hr2
                clear hown1 hg1 hr2))
    | fail)
  refine (HC.out _ _ _ hb12 HR2.out).mono ?_
  rintro e w3 ⟨vx, ve, rfl, hres, hb3⟩
  have HRES := Lib.hid hres
  have hb13 := below_two hb12 hb3
  clear hres
  go_wp2_with fail
  refine (fine_any _).mono ?_
  rintro e w4 ⟨rfl, hb4⟩
  have hbF := hb4.alloc hb4.size (.cells #[.int .i64 0, .int .i64 (-1)] 47)
  have HBF := Lib.hid (Blk.new w4 47 #[.int .i64 0, .int .i64 (-1)])
  have hgF := hb4.size
  obtain ⟨bm, hbm⟩ : ∃ bm : Bool, bm = decide (many < 0 ∨ 12 < many) := ⟨_, rfl⟩
  have HBM := Lib.hid hbm
  clear hbm hb4
  go_upto_region 7 with fail
  go_cut [55] (fun s55 wx => s55 = .bool bm ∧ wx = w4.alloc (.cells #[.int .i64 0, .int .i64 (-1)] 47))
  case first =>
    rcases cases3 many with ⟨t1, tb⟩ | ⟨t1, t2, tb⟩ | ⟨t1, t2, tb⟩
    all_goals
      rw [← HBM.out] at tb
      subst tb
      go_wp2
      go_meet
      exact ⟨rfl, rfl⟩
  case rest =>
  obtain ⟨rfl, rfl⟩ := hcut
  go_upto_if 55 with fail
  go_cut [] (fun wx => ∃ c1 : Int, BmC bm c1 ∧ Hid (Blk wx w4.heap.size 47 #[.int .i64 c1, .int .i64 (-1)]) ∧ Below w3.heap.size w3 wx)
  case first =>
    cases hbm : bm with
    | true =>
      subst hbm
      go_wp2_with fail
      refine (bare_any _ _).mono ?_
      rintro e w5 ⟨rfl, hb5⟩
      have hB5 := HBF.out.below hb5 HBF.out.lt
      have c0 := hB5.cell 0
      have c1 := hB5.cell 1
      have f0 := hB5.frozen 0
      have f1 := hB5.frozen 1
      have HB6 := Lib.hid ((hB5.set_ 0 (.int .i64 2)).set_ 1 (.int .i64 (-1)))
      have hb6 := ((below_two hbF hb5).setCell (p := ⟨w4.heap.size, 0, none⟩) hgF (.int .i64 2)).setCell (p := ⟨w4.heap.size, 1, none⟩) hgF (.int .i64 (-1))
      clear hB5
      go_wp2_with fail
      go_meet
      exact ⟨2, .inl ⟨rfl, rfl⟩, HB6, hb6⟩
    | false =>
      subst hbm
      go_wp2_with fail
      go_meet
      exact ⟨0, .inr ⟨rfl, rfl⟩, HBF, hbF⟩
  case rest =>
  obtain ⟨c1, hc1, hBc, hbc⟩ := hcut
  go_upto_block 0 with fail
  go_cut [] (fun wx => Hid (Blk wx w4.heap.size 47 #[.int .i64 fc, .int .i64 fa]) ∧ Below w3.heap.size w3 wx)
  case first =>
    rcases hc1 with ⟨rfl, rfl⟩ | ⟨rfl, rfl⟩
    · have hcf : cf = some ⟨2, none⟩ := by
        rw [HCF.out]
        unfold countsFault
        rw [if_pos (by simpa using HBM.out.symm)]
      have HF1 : Hid (fc = 2 ∧ fa = -1) := Lib.hid (by rw [HFC.out, HFA.out, hcf]; exact ⟨rfl, rfl⟩)
      have c0 : wc.cell? ⟨w4.heap.size, 0, none⟩ = some (.int .i64 2) := hBc.out.cell 0
      clear hcf HBM
      go_wp2_with fail
      go_loopg [16] l.length (fun g iv wr => iv = .int .i64 0 ∧ wr = wc)
      case atStart => exact ⟨rfl, rfl⟩
      case round =>
        obtain ⟨rfl, rfl⟩ := hrel
        by_cases h0 : 0 < l.length
        · have h02 : (0 : Int) < l.length := by omega
          have hl0 : ¬ l = [] := fun e => by simp [e] at h0
          go_wp2_with fail
          go_meet
          exact ⟨by rw [HF1.out.1, HF1.out.2]; exact hBc, hbc⟩
        · have h02 : ¬ (0 : Int) < l.length := by omega
          go_wp2_with fail
          go_meet
          exact ⟨by rw [HF1.out.1, HF1.out.2]; exact hBc, hbc⟩
    · obtain ⟨m, hm⟩ : ∃ m : Nat, many = (m : Int) := ⟨many.toNat, by have := HBM.out; simp at this; omega⟩
      have hm12 : m ≤ 12 := by have := HBM.out; simp at this; omega
      have HCFB : Hid (∀ k (hk : k < l.length), slotsOK l m k → (l[k] < 0 ∨ (m : Int) ≤ l[k]) → fc = 2 ∧ fa = (k : Int)) := Lib.hid fun k hk h1 h2 => by
        rw [HFC.out, HFA.out, HCF.out, hm, countsFault_at hm12 hk h1 h2]; exact ⟨rfl, rfl⟩
      have HCFE : Hid (slotsOK l m l.length → fc = 0 ∧ fa = -1) := Lib.hid fun h1 => by
        rw [HFC.out, HFA.out, HCF.out, hm, countsFault_end hm12 fun i h => h1 i h h]; exact ⟨rfl, rfl⟩
      subst hm
      clear HBM
      go_wp2_with fail
      go_loopg [16] l.length (fun g iv wr => ∃ (k : Nat) (c a : Int), g + k = l.length ∧ iv = .int .i64 (k : Int) ∧ Hid (Blk wr w4.heap.size 47 #[.int .i64 c, .int .i64 a]) ∧ ((c = 0 ∧ a = -1 ∧ Hid (slotsOK l m k)) ∨ (c = 2 ∧ Hid (fc = 2 ∧ fa = a))) ∧ Below w3.heap.size w3 wr)
      case atStart => exact ⟨0, 0, -1, by omega, rfl, hBc, .inl ⟨rfl, rfl, Lib.hid fun i _ h => absurd h (by omega)⟩, hbc⟩
      case round =>
        obtain ⟨k, c, a', hgk, rfl, hB, hca, hb⟩ := hrel
        have c0 := hB.out.cell 0
        have c1 := hB.out.cell 1
        have f0 := hB.out.frozen 0
        have f1 := hB.out.frozen 1
        simp only [List.getElem?_toArray, List.getElem?_cons_zero, List.getElem?_cons_succ] at c0 c1
        rcases hca with ⟨rfl, rfl, hok⟩ | ⟨rfl, hfa⟩
        · by_cases hlt : k < l.length
          · have hlt2 : (k : Int) < l.length := by omega
            obtain ⟨ad, rfl, hX⟩ := intsI_at ((HRL.out _ (below_two hb13 hb)).more (below_two hb13 hb).size) hlt
            have g0 := hX wr (Below.refl _ _)
            clear hX
            by_cases hbad : l[k] < 0 ∨ (m : Int) ≤ l[k]
            · have HPB := Lib.hid (HCFB.out k hlt hok.out hbad)
              have hw := counts_ways hbad
              have HB6 := Lib.hid ((hB.out.set_ 0 (.int .i64 2)).set_ 1 (.int .i64 (k : Int)))
              have hb6 := (hb.setCell (p := ⟨w4.heap.size, 0, none⟩) hgF (.int .i64 2)).setCell (p := ⟨w4.heap.size, 1, none⟩) hgF (.int .i64 (k : Int))
              generalize l[k] = x at *
              clear hbad hok hB
              rcases hw with u1 | ⟨u1, u2⟩
              all_goals
                go_wp2_with fail
                go_roundg (l.length - (k + 1))
                case rel => exact ⟨k + 1, 2, k, by omega, by go_num, HB6, .inr ⟨rfl, HPB⟩, hb6⟩
                case measure => omega
            · have hx0 : 0 ≤ l[k] := by omega
              have hxm : l[k] < (m : Int) := by omega
              have HA2 : Hid (slotsOK l m (k + 1)) := Lib.hid fun i h h2 => by
                rcases Nat.lt_succ_iff_lt_or_eq.1 h2 with h3 | rfl
                · exact hok.out i h h3
                · exact ⟨hx0, hxm⟩
              have u1 : decide (l[k] < 0) = false := by simp; omega
              have u2 : decide (l[k] ≥ (m : Int)) = false := by simp; omega
              generalize l[k] = x at *
              clear hbad hok
              go_wp2_with fail
              go_roundg (l.length - (k + 1))
              case rel => exact ⟨k + 1, 0, -1, by omega, by go_num, hB, .inl ⟨rfl, rfl, HA2⟩, hb⟩
              case measure => omega
          · obtain rfl : k = l.length := by omega
            have hge : ¬ (l.length : Int) < l.length := by omega
            have HE0 := Lib.hid (HCFE.out hok.out)
            clear hok
            go_wp2_with fail
            go_meet
            exact ⟨by rw [HE0.out.1, HE0.out.2]; exact hB, hb⟩
        · by_cases hlt : k < l.length
          · have hlt2 : (k : Int) < l.length := by omega
            go_wp2_with fail
            go_meet
            exact ⟨by rw [hfa.out.1, hfa.out.2]; exact hB, hb⟩
          · obtain rfl : k = l.length := by omega
            have hge : ¬ (l.length : Int) < l.length := by omega
            go_wp2_with fail
            go_meet
            exact ⟨by rw [hfa.out.1, hfa.out.2]; exact hB, hb⟩
  case rest =>
  obtain ⟨hBf, hbf⟩ := hcut
  have k0 : wc.cell? ⟨w4.heap.size, 0, none⟩ = some (.int .i64 fc) := hBf.out.cell 0
  have k1 : wc.cell? ⟨w4.heap.size, 1, none⟩ = some (.int .i64 fa) := hBf.out.cell 1
  go_upto_if 85 with fail
  go_cut [] (fun wx => Below w3.heap.size w3 wx)
  case first =>
    cases hcf : cf with
    | some f =>
      have hcf2 : countsFault l many = some f := by rw [← HCF.out, hcf]
      have hcode := countsFault_code hcf2
      have hres := HRES.out
      unfold CountsRes at hres
      rw [hcf2] at hres
      obtain ⟨rfl, t, x, rfl, hX⟩ := hres
      have hfc : fc = (fCode (some f) : Int) := by rw [HFC.out, hcf]
      have hfa : fa = fAt (some f) := by rw [HFA.out, hcf]
      have hfc0 : (0 : Int) < fc := by rw [hfc]; show (0 : Int) < (f.code : Int); omega
      have HX := Lib.hid (faultedlaw1_some (HE.out.below (below_two hb13 hbf)) (HG.out.below (below_two hb13 hbf)) (by omega) (by omega) (hX.below hbf))
      rw [← hfc, ← hfa] at HX
      clear hcf hcf2 hcode hX hfc hfa
      go_wp2_with fail
      refine HX.out.mono ?_
      rintro e w6 ⟨rfl, hb6⟩
      have hb36 := below_two hbf hb6
      go_wp2_with fail
      go_meet
      exact hb36
    | none =>
      have hcf2 : countsFault l many = none := by rw [← HCF.out, hcf]
      obtain ⟨m, rfl, hm12, hall⟩ := countsFault_none hcf2
      have hres := HRES.out
      unfold CountsRes at hres
      rw [hcf2] at hres
      dsimp only at hres
      rw [Int.toNat_natCast] at hres
      obtain ⟨rfl, gx, rfl, hBx⟩ := hres
      obtain rfl : fc = 0 := by rw [HFC.out, hcf]; rfl
      have hmk := make_counts m (by omega)
      have HBX := Lib.hid hBx
      have HALL := Lib.hid hall
      have hb0 := hbf.alloc hbf.size (.cells (numsV (countsL m [])).toArray 3)
      have hB0 := Blk.new wc 3 (numsV (countsL m [])).toArray
      have hgc := hbf.size
      clear hcf hcf2 hBx hall hBf
      go_wp2_with fail
      go_loopg [18] l.length (fun g iv wr => ∃ k : Nat, g + k = l.length ∧ iv = .int .i64 (k : Int) ∧ Hid (Blk wr wc.heap.size 3 (numsV (countsL m ((l.take k).map Int.toNat))).toArray) ∧ Below w3.heap.size w3 wr)
      case atStart => exact ⟨0, by omega, rfl, Lib.hid hB0, hb0⟩
      case round =>
        obtain ⟨k, hgk, rfl, hB, hb⟩ := hrel
        clear hmk
        by_cases hlt : k < l.length
        · have hlt2 : (k : Int) < l.length := by omega
          obtain ⟨ad, rfl, hX⟩ := intsI_at ((HRL.out _ (below_two hb13 hb)).more (below_two hb13 hb).size) hlt
          have c0 := hX wr (Below.refl _ _)
          clear hX
          obtain ⟨hx0, hxm⟩ := HALL.out k hlt
          obtain ⟨j, hj⟩ := Int.eq_ofNat_of_zero_le hx0
          have hjm : j < m := by omega
          have htk : (l.take (k + 1)).map Int.toNat = (l.take k).map Int.toNat ++ [j] := by
            rw [List.take_succ_eq_append_getElem hlt, List.map_append, hj]; rfl
          rw [hj] at c0
          have g0 := (hB.out.cell j).trans (countsL_get ((l.take k).map Int.toNat) hjm)
          have g1 := hB.out.frozen j
          have hcl : ((l.take k).map Int.toNat).count j ≤ 1000 := Nat.le_trans List.count_le_length (by simp; omega)
          have hB2 := hB.out.set_ j (.int .i64 ((((l.take k).map Int.toNat).count j : Nat) + 1 : Int))
          rw [countsL_set _ hjm, ← htk] at hB2
          have HB2 := Lib.hid hB2
          have hb2 := hb.setCell (p := ⟨wc.heap.size, j, none⟩) hgc (.int .i64 ((((l.take k).map Int.toNat).count j : Nat) + 1 : Int))
          have hjm2 : (j : Int) < m := by omega
          clear hB2 hj htk hB hx0 hxm
          generalize ((l.take k).map Int.toNat).count j = ct at *
          go_wp2_with fail
          go_roundg (l.length - (k + 1))
          case rel => exact ⟨k + 1, by omega, by go_num, HB2, hb2⟩
          case measure => omega
        · obtain rfl : k = l.length := by omega
          have hge : ¬ (l.length : Int) < l.length := by omega
          have HBF := hB.out
          rw [List.take_length] at HBF
          have hlx := countsL_length m (l.map Int.toNat)
          have hr1 := blk_reads (HBX.out.below hb HBX.out.lt)
          have hr2 := blk_reads HBF
          rw [show (numsV (countsL m (l.map Int.toNat))).length = m by simp [numsV, hlx]] at hr1 hr2
          rw [counts_ints] at hr1 hr2
          have HS := Lib.hid (fun (xs : List Int) (h : xs.length = m) (h1 : Reads wr wr.heap.size 1 (some ⟨gx, 0, none⟩) m (xs.map intV)) (h2 : Reads wr wr.heap.size 1 (some ⟨wc.heap.size, 0, none⟩) m (xs.map intV)) => (show Calls Tryd.prog 44 #[.slice (some ⟨gx, 0, none⟩) m m, .slice (some ⟨wc.heap.size, 0, none⟩) m m] wr (YesB wr) from by
            subst h
            exact sameI_yesB _ _ _ _ xs wr h1 h2 (by unfold maxLen; omega)))
          have HS2 := Lib.hid (HS.out _ (by simp [hlx]) hr1 hr2)
          clear hr1 hr2 hlx HBF hB
          go_wp2_with fail
          refine HS2.out.mono ?_
          rintro e w6 ⟨rfl, hb6⟩
          have hb36 := below_two hb hb6
          go_wp2_with fail
          go_meet
          exact hb36
  case rest =>
  have hb1c := below_two hb13 hcut
  clear k0 k1 hcut hBf hbf
  have HET : Hid (∀ W, Below w.heap.size w W → ErrsT ea W) := Lib.hid fun W hW => errsT_w (HE.out.below hW)
  have HTa : Hid (∀ W, Below w.heap.size w W → Calls Tryd.prog 15 #[.slice Aa a.length ca] W fun e w' => ∃ A' c', e = .returned (.slice A' a.length c') ∧ TxIn w' A' c' a ∧ Below W.heap.size W w') := Lib.hid fun W hW =>
    (ownTexts_any Aa a.length ca W.heap.size (strV a) W (HIa.out.below hW).r str_one (by omega)).mono fun e w' ⟨A', c', he, ho, hb⟩ => ⟨A', c', he, ⟨Reads.of_own ho, own_ncap2 ho, HIa.out.lm, HIa.out.s⟩, hb⟩
  have HTb : Hid (∀ W, Below w.heap.size w W → Calls Tryd.prog 15 #[.slice Ab b.length cb] W fun e w' => ∃ A' c', e = .returned (.slice A' b.length c') ∧ TxIn w' A' c' b ∧ Below W.heap.size W w') := Lib.hid fun W hW =>
    (ownTexts_any Ab b.length cb W.heap.size (strV b) W (HIb.out.below hW).r str_one (by omega)).mono fun e w' ⟨A', c', he, ho, hb⟩ => ⟨A', c', he, ⟨Reads.of_own ho, own_ncap2 ho, HIb.out.lm, HIb.out.s⟩, hb⟩
  have HFG : Hid (∀ (f : Flt) W t a, 1 ≤ f.code → f.code ≤ 9 → Below w.heap.size w W → IsErr ea W f t a → Calls Tryd.prog 30 #[.iface t (.pointer (some a)), .agg #[.int .i64 (fCode (some f) : Int), .int .i64 (fAt (some f))]] W (Yeslaw1 W)) := Lib.hid fun f W t a h1 h9 hW hI => faultedlaw1_some (HE.out.below hW) (HG.out.below hW) h1 h9 hI
  rcases HMa.out with ⟨f, hf1, hf9, hM⟩ | ⟨xs, hM⟩
  · have HMV : Hid (∀ W A B c d, Below w.heap.size w W → TxIn W A c a → Calls Tryd.prog 55 #[.slice A a.length c, .slice B b.length d, .int .i64 size] W (MovesBad ea f W)) := Lib.hid fun W A B c d hW hI => moves_bad1 ea A B c d a b size f W (HET.out W hW) hI hM
    have HFa := Lib.hid (fun W hW => hM.2 W Aa ca (HIa.out.below hW : TxIn W Aa ca a))
    unfold FaultPost at HFa
    have HFA := Lib.hid (fun W t a => HFG.out f W t a hf1 hf9)
    have hc0 : (0 : Int) < (fCode (some f) : Int) := by show (0 : Int) < (f.code : Int); omega
    have hc0e : ((fCode (some f) : Int) == 0) = false := by rw [beq_eq_false_iff_ne]; omega
    generalize fCode (some f) = fd at *
    generalize fAt (some f) = fe at *
    clear hM hf1 hf9
    go_wp2_with fail
    refine (HTa.out _ hb1c).mono ?_
    rintro e w6 ⟨A6, c6, rfl, hT6, hb6⟩
    have hb16 := below_two hb1c hb6
    go_wp2_with fail
    refine (HTb.out _ hb16).mono ?_
    rintro e w7 ⟨A7, c7, rfl, hT7, hb7⟩
    have hb17 := below_two hb16 hb7
    have HT6 := Lib.hid (hT6.below hb7)
    clear hT6 hT7
    go_wp2_with fail
    refine (HMV.out _ _ _ _ _ hb17 HT6.out).mono ?_
    rintro e w8 ⟨t, x, rfl, hX, hb8⟩
    have hb18 := below_two hb17 hb8
    have HX8 := Lib.hid hX
    clear hX
    go_wp2_with fail
    refine (HFa.out _ hb18).mono ?_
    rintro e w9 ⟨rfl, hb9⟩
    have hb19 := (below_two hb18 hb9).alloc (below_two hb18 hb9).size (.cells #[.int .i64 (fd : Int), .int .i64 fe] 47)
    have hb89 := hb9.alloc hb9.size (.cells #[.int .i64 (fd : Int), .int .i64 fe] 47)
    go_wp2_with fail
    refine (HFA.out _ t x hb19 (HX8.out.below hb89)).mono ?_
    rintro e w10 ⟨rfl, hb10⟩
    have hbE := below_two hb19 hb10
    go_wp2
    go_ret
    exact ⟨rfl, hbE⟩
  have HFa : Hid (∀ W, Below w.heap.size w W → Calls Tryd.prog 48 #[.slice Aa a.length ca, .int .i64 size] W (FineIs W)) := Lib.hid (fun W hW => hM.fault W Aa ca (HIa.out.below hW : TxIn W Aa ca a))
  unfold FineIs at HFa
  rcases HMb.out with ⟨f, hf1, hf9, hM2⟩ | ⟨ys, hM2⟩
  · have HMV : Hid (∀ W A B c d, Below w.heap.size w W → TxIn W A c a → TxIn W B d b → Calls Tryd.prog 55 #[.slice A a.length c, .slice B b.length d, .int .i64 size] W (MovesBad ea f W)) := Lib.hid fun W A B c d hW hI hJ => moves_bad2 ea A B c d a b size xs f W (HET.out W hW) hI hJ hM hM2
    have HFb := Lib.hid (fun W hW => hM2.2 W Ab cb (HIb.out.below hW : TxIn W Ab cb b))
    unfold FaultPost at HFb
    have HFA := Lib.hid (fun W t a => HFG.out f W t a hf1 hf9)
    have hc0 : (0 : Int) < (fCode (some f) : Int) := by show (0 : Int) < (f.code : Int); omega
    generalize fCode (some f) = fd at *
    generalize fAt (some f) = fe at *
    clear hM hM2 hf1 hf9
    go_wp2_with fail
    refine (HTa.out _ hb1c).mono ?_
    rintro e w6 ⟨A6, c6, rfl, hT6, hb6⟩
    have hb16 := below_two hb1c hb6
    go_wp2_with fail
    refine (HTb.out _ hb16).mono ?_
    rintro e w7 ⟨A7, c7, rfl, hT7, hb7⟩
    have hb17 := below_two hb16 hb7
    have HT6 := Lib.hid (hT6.below hb7)
    have HT7 := Lib.hid hT7
    clear hT6 hT7
    go_wp2_with fail
    refine (HMV.out _ _ _ _ _ hb17 HT6.out HT7.out).mono ?_
    rintro e w8 ⟨t, x, rfl, hX, hb8⟩
    have hb18 := below_two hb17 hb8
    have HX8 := Lib.hid hX
    clear hX
    go_wp2_with fail
    refine (HFa.out _ hb18).mono ?_
    rintro e w9 ⟨rfl, hb9⟩
    have hb19 := (below_two hb18 hb9).alloc (below_two hb18 hb9).size (.cells #[.int .i64 0, .int .i64 (-1)] 47)
    have hb89 := hb9.alloc hb9.size (.cells #[.int .i64 0, .int .i64 (-1)] 47)
    have HB9 := Lib.hid (Blk.new w9 47 #[.int .i64 0, .int .i64 (-1)])
    have hs9 := (below_two hb18 hb9).size
    have hs89 := hb9.size
    go_wp2_with fail
    refine (HFb.out _ hb19).mono ?_
    rintro e w10 ⟨rfl, hb10⟩
    have hB10 := HB9.out.below hb10 HB9.out.lt
    have c0 := hB10.cell 0
    have c1 := hB10.cell 1
    have f0 := hB10.frozen 0
    have f1 := hB10.frozen 1
    have hb1A := ((below_two hb19 hb10).setCell (p := ⟨w9.heap.size, 0, none⟩) hs9 (.int .i64 (fd : Int))).setCell (p := ⟨w9.heap.size, 1, none⟩) hs9 (.int .i64 fe)
    have hb8A := ((below_two hb89 hb10).setCell (p := ⟨w9.heap.size, 0, none⟩) hs89 (.int .i64 (fd : Int))).setCell (p := ⟨w9.heap.size, 1, none⟩) hs89 (.int .i64 fe)
    have HFA2 := Lib.hid (HFA.out _ t x hb1A (HX8.out.below hb8A))
    clear hB10
    go_wp2_with fail
    refine HFA2.out.mono ?_
    rintro e w11 ⟨rfl, hb11⟩
    have hbE := below_two hb1A hb11
    go_wp2
    go_ret
    exact ⟨rfl, hbE⟩
  · have hxl := hM.len
    unfold maxLen at hxl
    have hyl : ys.length = xs.length := by
      have h1 := hM.sz
      have h2 := hM2.sz
      omega
    have HMV : Hid (∀ W A B c d, Below w.heap.size w W → TxIn W A c a → TxIn W B d b → Calls Tryd.prog 55 #[.slice A a.length c, .slice B b.length d, .int .i64 size] W (MovesGood (movN a b xs ys xs.length) W)) := Lib.hid fun W A B c d hW hI hJ => moves_good ea A B c d a b size xs ys W (HET.out W hW) hI hJ hM hM2
    have HFb : Hid (∀ W, Below w.heap.size w W → Calls Tryd.prog 48 #[.slice Ab b.length cb, .int .i64 size] W (FineIs W)) := Lib.hid (fun W hW => hM2.fault W Ab cb (HIb.out.below hW : TxIn W Ab cb b))
    unfold FineIs at HFb
    have HRa := Lib.hid (fun W hW => hM.ref W Aa ca (HIa.out.below hW : TxIn W Aa ca a))
    have HRb := Lib.hid (fun W hW => hM2.ref W Ab cb (HIb.out.below hW : TxIn W Ab cb b))
    unfold IntsPost at HRa HRb
    have HS : Hid (∀ k (h : k < xs.length), ∃ j : Nat, ∃ hj : j < a.length, xs[k] = (j : Int) ∧ a[j] = hOf a xs k) := Lib.hid fun k h => hOf_at hM h
    have HS2 : Hid (∀ k (h : k < ys.length), ∃ j : Nat, ∃ hj : j < b.length, ys[k] = (j : Int) ∧ b[j] = hOf b ys k) := Lib.hid fun k h => hOf_at hM2 h
    have HYL := Lib.hid hyl
    have hsz := hM.sz
    have hmn := movN_le a b xs ys xs.length
    obtain ⟨n, hn⟩ : ∃ n, n = movN a b xs ys xs.length := ⟨_, rfl⟩
    rw [← hn] at HMV hmn
    have HN := Lib.hid hn
    subst hsz
    clear hM hM2 hyl hn
    go_wp2_with fail
    refine (HTa.out _ hb1c).mono ?_
    rintro e w6 ⟨A6, c6, rfl, hT6, hb6⟩
    have hb16 := below_two hb1c hb6
    go_wp2_with fail
    refine (HTb.out _ hb16).mono ?_
    rintro e w7 ⟨A7, c7, rfl, hT7, hb7⟩
    have hb17 := below_two hb16 hb7
    have HT6 := Lib.hid (hT6.below hb7)
    have HT7 := Lib.hid hT7
    clear hT6 hT7
    go_wp2_with fail
    refine (HMV.out _ _ _ _ _ hb17 HT6.out HT7.out).mono ?_
    rintro e w8 ⟨rfl, hb8⟩
    have hb18 := below_two hb17 hb8
    go_wp2_with fail
    refine (HFa.out _ hb18).mono ?_
    rintro e w9 ⟨rfl, hb9⟩
    have hb19 := (below_two hb18 hb9).alloc (below_two hb18 hb9).size (.cells #[.int .i64 0, .int .i64 (-1)] 47)
    have HB9 := Lib.hid (Blk.new w9 47 #[.int .i64 0, .int .i64 (-1)])
    have hs9 := (below_two hb18 hb9).size
    go_wp2_with fail
    refine (HFb.out _ hb19).mono ?_
    rintro e w10 ⟨rfl, hb10⟩
    have hB10 := HB9.out.below hb10 HB9.out.lt
    have c0 := hB10.cell 0
    have c1 := hB10.cell 1
    have f0 := hB10.frozen 0
    have f1 := hB10.frozen 1
    have hb1A := ((below_two hb19 hb10).setCell (p := ⟨w9.heap.size, 0, none⟩) hs9 (.int .i64 0)).setCell (p := ⟨w9.heap.size, 1, none⟩) hs9 (.int .i64 (-1))
    have HRa2 := Lib.hid (HRa.out _ hb1A)
    clear hB10
    go_wp2_with fail
    refine HRa2.out.mono ?_
    rintro e w11 ⟨Ap, cp, rfl, hX, hb11⟩
    have hb1B := below_two hb1A hb11
    have HX := Lib.hid hX
    clear hX
    go_wp2_with fail
    refine (HRb.out _ hb1B).mono ?_
    rintro e w12 ⟨Aq, cq, rfl, hY, hb12⟩
    have hb1C := below_two hb1B hb12
    have HY := Lib.hid hY
    clear hY c0 c1 f0 f1
    go_wp2_with fail
    go_loopg [1, 23] xs.length (fun g mv iv wr => ∃ k m : Nat, g + k = xs.length ∧ iv = .int .i64 (k : Int) ∧ mv = .int .i64 (movN a b xs ys k : Int) ∧ wr = w12.drewN m)
    case atStart => exact ⟨0, 0, by omega, rfl, rfl, rfl⟩
    case round =>
      obtain ⟨k, m, hgk, rfl, rfl, rfl⟩ := hrel
      have hle := movN_le a b xs ys k
      by_cases hlt : k < xs.length
      · have hlt2 : (k : Int) < xs.length := by omega
        obtain ⟨ad1, rfl, hc1⟩ := intsI_at HX.out hlt
        obtain ⟨ad2, rfl, hc2⟩ := intsI_at HY.out (by rw [HYL.out]; exact hlt : k < ys.length)
        obtain ⟨j1, hj1, e1, e2⟩ := HS.out k hlt
        obtain ⟨j2, hj2, e3, e4⟩ := HS2.out k (by rw [HYL.out]; exact hlt)
        obtain ⟨ad3, rfl, hc3⟩ := strAt_of HIa.out.r hj1
        obtain ⟨ad4, rfl, hc4⟩ := strAt_of HIb.out.r hj2
        have g1 := hc1 _ hb12
        have g2 := hc2 _ (Below.refl _ _)
        have g3 := hc3 _ hb1C
        have g4 := hc4 _ hb1C
        rw [e1] at g1
        rw [e3] at g2
        rw [e2] at g3
        rw [e4] at g4
        have hj1' : (j1 : Int) < a.length := by omega
        have hj2' : (j2 : Int) < b.length := by omega
        have hlty : (k : Int) < ys.length := by have := HYL.out; omega
        clear hc1 hc2 hc3 hc4 e1 e2 e3 e4
        by_cases he : hOf a xs k = hOf b ys k
        · have HN1 := Lib.hid (movN_same he)
          rw [← he] at g4
          have q1 : ((hOf a xs k).toList == (hOf a xs k).toList) = true := by simp
          have q2 : ((hOf a xs k).toList != (hOf a xs k).toList) = false := by simp
          clear he
          generalize hOf a xs k = s at *
          generalize movN a b xs ys k = mv at *
          go_wp2
          go_quiet (fail)
          go_wp2
          go_roundg (xs.length - (k + 1))
          case rel => exact ⟨k + 1, _, by omega, by go_num, by rw [HN1.out], rfl⟩
          case measure => omega
        · have HN1 := Lib.hid (movN_other he)
          have q1 : ((hOf a xs k).toList == (hOf b ys k).toList) = false := by rw [str_eq]; simpa using he
          have q2 : ((hOf a xs k).toList != (hOf b ys k).toList) = true := by rw [bne, q1]; rfl
          clear he
          generalize hOf a xs k = s at *
          generalize hOf b ys k = t at *
          generalize movN a b xs ys k = mv at *
          go_wp2
          go_quiet (fail)
          go_wp2
          go_roundg (xs.length - (k + 1))
          case rel => exact ⟨k + 1, _, by omega, by go_num, by rw [HN1.out]; go_num, rfl⟩
          case measure => omega
      · obtain rfl : k = xs.length := by omega
        have hge : ¬ ((xs.length : Int) < xs.length) := by omega
        have hbm := below_drewN hb1C m
        rw [← HN.out]
        go_wp2
        go_ret
        exact ⟨rfl, hbm⟩
theorem tc_ways (n : Nat) (la lb : Bool) (h : 600 < n ∨ la = true ∨ lb = true) : (decide ((n : Int) > 600) = true) ∨ (decide ((n : Int) > 600) = false ∧ ((la = true ∧ lb = true) ∨ (la = true ∧ lb = false) ∨ (la = false ∧ lb = true))) := by
  simp only [decide_eq_true_eq, decide_eq_false_iff_not]
  cases la <;> cases lb <;> simp at h ⊢ <;> omega
set_option maxRecDepth 100000 in
set_option maxHeartbeats 2000000 in
theorem tc_skip (ea : Nat → Addr) (Al : Option Addr) (cl n : Nat) (many : Int) (Aa Ab : Option Addr) (ca cb : Nat) (a b : List ByteArray) (size : Int) (w : World) (hE : ErrsT ea w)
    (hIa : TxIn w Aa ca a) (hIb : TxIn w Ab cb b) (h : 600 < n ∨ longH a = true ∨ longH b = true) :
    Calls Tryd.prog 10 #[.slice Al n cl, .int .i64 many, .slice Aa a.length ca, .slice Ab b.length cb, .int .i64 size] w (True1 w) := by
  have HLa : Hid (∀ W, Below w.heap.size w W → Calls Tryd.prog 13 #[.slice Aa a.length ca] W (LongIs (longH a) W)) :=
    Lib.hid fun W hW => longHosts_any Aa ca W.heap.size a W (hIa.below hW).r hIa.lm hIa.s
  have HLb : Hid (∀ W, Below w.heap.size w W → Calls Tryd.prog 13 #[.slice Ab b.length cb] W (LongIs (longH b) W)) :=
    Lib.hid fun W hW => longHosts_any Ab cb W.heap.size b W (hIb.below hW).r hIb.lm hIb.s
  have HW := Lib.hid (tabled_any ea w hE)
  have hways := tc_ways n (longH a) (longH b) h
  generalize longH a = la at *
  generalize longH b = lb at *
  clear hE hIa hIb h
  rcases hways with t1 | ⟨t1, ⟨rfl, rfl⟩ | ⟨rfl, rfl⟩ | ⟨rfl, rfl⟩⟩
  · go_enter Tryd.func10, Tryd.ntmps10
    go_wp2_with fail
    refine HW.out.mono ?_
    rintro e w1 ⟨rfl, hb1⟩
    go_wp2
    go_ret
    exact ⟨rfl, hb1⟩
  all_goals
    go_enter Tryd.func10, Tryd.ntmps10
    go_wp2_with fail
    refine HW.out.mono ?_
    rintro e w1 ⟨rfl, hb1⟩
    go_wp2_with fail
    refine (HLa.out _ hb1).mono ?_
    rintro e w2 ⟨rfl, rfl⟩
    go_wp2_with fail
    refine (HLb.out _ hb1).mono ?_
    rintro e w2 ⟨rfl, rfl⟩
    go_wp2
    go_ret
    exact ⟨rfl, hb1⟩
theorem tableCounts_args (ea : Nat → Addr) (Al : Option Addr) (cl : Nat) (l : List Int) (many : Int) (Aa Ab : Option Addr) (ca cb : Nat) (a b : List ByteArray) (size : Int) (w : World) (hE : ErrsW ea w) (hG : HandleAt w)
    (R0 : Reads w w.heap.size 1 Al l.length (l.map (Value.int .i64)))
    (R2 : Reads w w.heap.size 1 Aa a.length (a.map Value.string)) (lc2 : a.length ≤ ca) (cm2 : ca ≤ maxLen) (wf2 : ∀ s ∈ a, s.size ≤ maxLen)
    (R3 : Reads w w.heap.size 1 Ab b.length (b.map Value.string)) (lc3 : b.length ≤ cb) (cm3 : cb ≤ maxLen) (wf3 : ∀ s ∈ b, s.size ≤ maxLen) :
    Calls Tryd.prog 10 #[.slice Al l.length cl, .int .i64 many, .slice Aa a.length ca, .slice Ab b.length cb, .int .i64 size] w (True1 w) := by
  have hIa : TxIn w Aa ca a := ⟨R2, lc2, Nat.le_trans lc2 cm2, wf2⟩
  have hIb : TxIn w Ab cb b := ⟨R3, lc3, Nat.le_trans lc3 cm3, wf3⟩
  by_cases h : 600 < l.length ∨ longH a = true ∨ longH b = true
  · exact tc_skip ea Al cl l.length many Aa Ab ca cb a b size w (errsT_w hE) hIa hIb h
  · simp only [not_or, Bool.not_eq_true] at h
    exact tc_walk ea Al cl l many Aa Ab ca cb a b size w hE hG R0 (by omega) hIa hIb h.2.1 h.2.2
end Go.Proofs.YtbbbnnooaaelmaaDoor
