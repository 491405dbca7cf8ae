/-
  The law FillCaps: its walk.
-/
import Derived.Test.YtajdokogahlgaaaDoorPlaced
namespace Go.Proofs.YtajdokogahlgaaaDoor
open Go.RowKit Go.Maps

theorem caps_ways (lg : Bool) (m : Nat) (h : lg = true ∨ 60 < m) : (lg = true) ∨ (lg = false ∧ decide ((m : Int) > 60) = true) := by
  cases lg <;> simp only [decide_eq_true_eq] <;> simp <;> simp at h <;> omega
set_option maxRecDepth 100000 in
set_option maxHeartbeats 2000000 in
theorem caps_skip (ea : Nat → Addr) (A : Option Addr) (c : Nat) (l : List ByteArray) (copies : Int) (A3 : Option Addr) (c3 : Nat) (keys : List Nat) (p : Int) (w : World) (hE : ErrsR ea w) (hI : RingIn w A c l A3 keys) (h : longH l = true ∨ 60 < keys.length) :
    Calls Tryd.prog 8 #[.slice A l.length c, .int .i64 copies, .slice A3 keys.length c3, .int .i64 p] w (True1 w) := by
  have hm := Nat.le_trans hI.lc hI.cm
  have hk := hI.km
  unfold maxLen at hm hk
  have HL : Hid (∀ W, Below w.heap.size w W → Calls Tryd.prog 18 #[.slice A l.length c] W (LongIs (longH l) W)) :=
    Lib.hid fun W hW => longHosts_any A c W.heap.size l W (hI.below hW).r (Nat.le_trans hI.lc hI.cm) hI.s
  have HW := Lib.hid (filled_any ea w hE)
  have hways := caps_ways (longH l) keys.length h
  generalize longH l = lg at *
  clear hE hI h
  rcases hways with rfl | ⟨rfl, t1⟩
  all_goals
    go_enter Tryd.func8, Tryd.ntmps8
    go_wp2_with fail
    refine HW.out.mono ?_
    rintro e w1 ⟨rfl, hb1⟩
    go_wp2_with fail
    refine (HL.out _ hb1).mono ?_
    rintro e w2 ⟨rfl, rfl⟩
    go_wp2
    go_ret
    exact ⟨rfl, hb1⟩

/-- Have all of the first k room? -/
def freeTo (xs : List Nat) (most k : Nat) : Bool := (List.range k).all fun j => decide (xs.count j < most)
theorem freeTo_zero (xs : List Nat) (most : Nat) : freeTo xs most 0 = true := rfl
theorem freeTo_succ (xs : List Nat) (most k : Nat) : freeTo xs most (k + 1) = (freeTo xs most k && decide (xs.count k < most)) := by
  simp [freeTo, List.range_succ]
theorem freeTo_iff {xs : List Nat} {most k : Nat} : freeTo xs most k = true ↔ ∀ j, j < k → xs.count j < most := by
  simp [freeTo]
/-- One place, as the law looks at it. -/
def CapsIs (l : List ByteArray) (cp most : Nat) (keys xs : List Nat) : Prop :=
  ∀ i (h : i < xs.length), xs[i] < l.length ∧ (xs.take i).count xs[i] < most ∧ (freeTo (xs.take i) most l.length = true → ∃ k s, keys[i]? = some k ∧ l[xs[i]]? = some s ∧ (hostsOf l cp k)[0]? = some s)
theorem PlaceOK.caps {l : List ByteArray} {cp most : Nat} {keys xs : List Nat} (h : PlaceOK l cp most keys xs) : CapsIs l cp most keys xs := by
  intro i hi
  obtain ⟨s, hs, hc, hf, _⟩ := h i xs[i] (List.getElem?_eq_getElem hi)
  refine ⟨(List.getElem?_eq_some_iff.1 hs).1, hc, fun hfree => ?_⟩
  obtain ⟨k, hk, hh⟩ := hf (freeTo_iff.1 hfree)
  exact ⟨k, s, hk, hs, hh⟩

set_option maxRecDepth 100000 in
set_option maxHeartbeats 4000000 in
theorem caps_walk (ea : Nat → Addr) (A : Option Addr) (c : Nat) (l : List ByteArray) (copies : Int) (A3 : Option Addr) (c3 : Nat) (keys : List Nat) (p : Int) (w : World) (hE : ErrsR ea w) (hI : RingIn w A c l A3 keys) (hL : longH l = false) (h60 : keys.length ≤ 60) :
    Calls Tryd.prog 8 #[.slice A l.length c, .int .i64 copies, .slice A3 keys.length c3, .int .i64 p] w (True1 w) := by
  obtain ⟨hl30, hsz⟩ := long_no hL
  have HL : Hid (∀ W, Below w.heap.size w W → Calls Tryd.prog 18 #[.slice A l.length c] W (LongIs false W)) :=
    Lib.hid fun W hW => by rw [← hL]; exact longHosts_any A c W.heap.size l W (hI.below hW).r (Nat.le_trans hI.lc hI.cm) hI.s
  have HW := Lib.hid (filled_any ea w hE)
  have t4 : decide ((keys.length : Int) > 60) = false := by simp; omega
  have hlm : l.length ≤ maxLen := Nat.le_trans hI.lc hI.cm
  have HP : Hid (∀ W A' c' A'' c'', Below w.heap.size w W → Reads W W.heap.size 1 A' l.length (strV l) → l.length ≤ c' → Reads W W.heap.size 1 A'' keys.length (keysV keys) → Calls Tryd.prog 48 #[.slice A' l.length c', .int .i64 copies, .slice A'' keys.length c'', .int .i64 p] W (PlaceAny ea l copies p keys W)) :=
    Lib.hid fun W A' c' A'' c'' hW hr hc hk => place_any ea A' c' l copies A'' c'' keys p W (hE.below hW) ⟨hr, hc, hlm, hI.s, hk, hI.u⟩ (by omega)
  have HN : Hid (∀ cp : Nat, ringFault l (cp : Int) = none → ∀ W A' c', Below w.heap.size w W → Reads W W.heap.size 1 A' l.length (strV l) → l.length ≤ c' → Calls Tryd.prog 37 #[.slice A' l.length c', .int .i64 (cp : Int)] W (RingMade l cp W)) :=
    Lib.hid fun cp hf W A' c' hW hr hc => ringNew_made ea A' c' W.heap.size l cp W (hE.below hW).e3 hr (Nat.le_refl _) hc hlm hI.s hf
  have HI := Lib.hid hI
  clear hE hI hL hsz
  go_enter Tryd.func8, Tryd.ntmps8
  go_wp2_with fail
  refine HW.out.mono ?_
  rintro e w1 ⟨rfl, hb1⟩
  go_wp2_with fail
  refine (HL.out _ hb1).mono ?_
  rintro e w2 ⟨rfl, rfl⟩
  go_wp2_with fail
  refine (ownTexts_any A l.length c w1.heap.size (strV l) w1 (HI.out.below hb1).r str_one (by omega)).mono ?_
  rintro e w2 ⟨A', c', rfl, ho2, hb2⟩
  have hb12 := below_two hb1 hb2
  have hr2 := Reads.of_own ho2
  have hnc := own_ncap2 ho2
  go_wp2_with fail
  refine (ownKeys_any A3 keys.length c3 w2.heap.size (keysV keys) w2 (HI.out.below hb12).k keys_one (by omega)).mono ?_
  rintro e w3 ⟨A'', c'', rfl, ho3, hb3⟩
  have hb13 := below_two hb12 hb3
  have hr3 := (hr2.below hb3).more hb3.size
  have hk3 := Reads.of_own ho3
  clear ho2 ho3 hr2
  go_wp2_with fail
  refine (HP.out _ _ _ _ _ hb13 hr3 hnc hk3).mono ?_
  clear hr3 hk3
  rintro e w4 (⟨f, t, a, rfl, _, hb4⟩ | ⟨hf, hp0, hp1, xs, A4, c4, rfl, ho4, hxl, hOK, _, hb4⟩)
  · go_wp2
    go_ret
    exact ⟨rfl, below_two hb13 hb4⟩
  · obtain ⟨h0, ho, hc1, hc2⟩ := ringFault_none hf
    obtain ⟨h12, _, _⟩ := hostsFault_none.1 ho
    obtain ⟨cp, rfl⟩ := Int.eq_ofNat_of_zero_le (by omega : 0 ≤ copies)
    obtain ⟨pn, rfl⟩ := Int.eq_ofNat_of_zero_le hp0
    simp only [Int.toNat_natCast] at hOK
    have hb14 := below_two hb13 hb4
    have HC := Lib.hid (fun W => cap_ok keys.length l.length pn W (by omega) (by omega) h12 (by omega))
    unfold CapPost at HC
    generalize capN keys.length l.length pn = most at *
    have HCP := Lib.hid hOK.caps
    have HR4 := Lib.hid (Reads.of_own ho4)
    have hmk := make_counts l.length (by omega)
    have HF := Lib.hid hf
    have HXL := Lib.hid hxl
    have tx : ((xs.length : Int) != (keys.length : Int)) = false := by simp; omega
    have hx60 : xs.length ≤ 60 := by omega
    have HB14 := Lib.hid hb14
    clear hOK hf ho hxl ho4
    go_wp2_with fail
    refine (HC.out _).mono ?_
    rintro e w5 ⟨rfl, rfl⟩
    go_wp2_with fail
    refine (ownTexts_any A l.length c w4.heap.size (strV l) w4 (HI.out.below hb14).r str_one (by omega)).mono ?_
    rintro e w5 ⟨A5, c5, rfl, ho5, hb5⟩
    have hb15 := below_two hb14 hb5
    have hr5 := Reads.of_own ho5
    have hnc5 := own_ncap2 ho5
    clear ho5
    go_wp2_with fail
    refine (HN.out _ HF.out _ _ _ hb15 hr5 hnc5).mono ?_
    rintro e w6 ⟨rp, rfl, hR, hb6⟩
    have hb46 := below_two hb5 hb6
    have hb16 := below_two hb15 hb6
    have HR := Lib.hid hR
    clear hR hr5 hnc5
    go_wp2_with fail
    have hb67 : Below w6.heap.size w6 (w6.alloc (.cells (numsV (countsL l.length [])).toArray 3)) := (Below.refl _ _).alloc (Nat.le_refl _) _
    go_loopw [17] (fun iv wr => ∃ i : Nat, i ≤ xs.length ∧ iv = .int .i64 (i : Int) ∧ Blk wr w6.heap.size 3 (numsV (countsL l.length (xs.take i))).toArray ∧ Below w6.heap.size w6 wr) (fun iv _ => xs.length - (intOf iv).toNat)
    case atStart => exact ⟨0, Nat.zero_le _, rfl, Blk.new _ _ _, hb67⟩
    case round =>
      obtain ⟨i, hi, rfl, hB, hb⟩ := hrel
      clear hmk
      have hb4r := below_two hb46 hb
      have hb1r := below_two hb14 hb4r
      by_cases hlt : i < xs.length
      · have hlt2 : (i : Int) < xs.length := by omega
        obtain ⟨hjl, hcm, hfree⟩ := HCP.out i hlt
        obtain ⟨ad4, hA4, hN4⟩ := numAt_of HR4.out hlt
        subst hA4
        obtain ⟨adA, rfl, hSA⟩ := strAt_of (HI.out.below hb1r).r hjl
        have hik : i < keys.length := by have := HXL.out; omega
        obtain ⟨adK, rfl, hKK⟩ := keyAt2_of (HI.out.below hb1r).k hik
        have hU := HI.out.u _ (List.getElem_mem hik)
        have gk : keys[i]? = some keys[i] := List.getElem?_eq_getElem hik
        have gl : l[xs[i]]? = some l[xs[i]] := List.getElem?_eq_getElem hjl
        have htk : xs.take (i + 1) = xs.take i ++ [xs[i]] := List.take_succ_eq_append_getElem hlt
        have hset := countsL_set (xs.take i) hjl
        have hcount := countsL_get (xs.take i) hjl
        rw [← htk] at hset
        have hgets : Hid (∀ k, k < l.length → (numsV (countsL l.length (xs.take i))).toArray[k]? = some (.int .i64 (((xs.take i).count k : Nat) : Int))) := Lib.hid fun k hk => countsL_get (xs.take i) hk
        have HB := Lib.hid hB
        have hcle : ∀ k, (xs.take i).count k ≤ 60 := fun k => Nat.le_trans List.count_le_length (by rw [List.length_take]; omega)
        have HFr := Lib.hid hfree
        have HN4 := Lib.hid hN4
        have HSA := Lib.hid hSA
        have HKK := Lib.hid hKK
        have HSet := Lib.hid hset
        have HCle := Lib.hid hcle
        have HCount := Lib.hid hcount
        have GK := Lib.hid gk
        have GL := Lib.hid gl
        clear hB htk hset hcount hfree hN4 hSA hKK hcle gk gl
        generalize keys[i] = key at *
        generalize l[xs[i]] = s at *
        generalize xs[i] = j at *
        generalize xs.take i = ys at *
        generalize (numsV (countsL l.length ys)).toArray = cs at *
        generalize hcs2 : (numsV (countsL l.length (xs.take (i + 1)))).toArray = cs2 at *
        have HC2 := Lib.hid hcs2
        clear hcs2
        have d0 : decide ((j : Int) < 0) = false := by simp
        have d1 : decide ((j : Int) ≥ l.length) = false := by simp; omega
        have c0 := HN4.out wr hb4r
        go_wp2_with fail
        go_loopw [18, 19] (fun fv kv wi => ∃ (k : Nat) (b : Bool), k ≤ l.length ∧ fv = .bool b ∧ kv = .int .i64 (k : Int) ∧ Hid (b = freeTo ys most k) ∧ wi = wr) (fun _ kv _ => l.length - (intOf kv).toNat)
        case atStart => exact ⟨0, true, Nat.zero_le _, rfl, rfl, Lib.hid (freeTo_zero _ _).symm, rfl⟩
        case round =>
          obtain ⟨k, b, hk, rfl, rfl, hfr, rfl⟩ := hrel
          by_cases hkl : k < l.length
          · have hkl2 : (k : Int) < l.length := by omega
            have ck := (HB.out.cell k).trans (hgets.out k hkl)
            have hk1 : k + 1 ≤ l.length := hkl
            by_cases hck : ys.count k < most
            · have tk : decide (((ys.count k : Nat) : Int) ≥ most) = false := by simp; omega
              have hfr2 : Hid (b = freeTo ys most (k + 1)) := Lib.hid (by rw [freeTo_succ, ← hfr.out]; simp [hck])
              generalize ys.count k = ct at *
              go_wp2
              go_roundw
              case rel => exact ⟨k + 1, b, hk1, rfl, by go_num, hfr2, trivial⟩
              case measure => simp [intOf]; omega
            · have tk : decide (((ys.count k : Nat) : Int) ≥ most) = true := by simp; omega
              have hfr2 : Hid (false = freeTo ys most (k + 1)) := Lib.hid (by rw [freeTo_succ]; simp [hck])
              generalize ys.count k = ct at *
              go_wp2
              go_roundw
              case rel => exact ⟨k + 1, false, hk1, rfl, by go_num, hfr2, trivial⟩
              case measure => simp [intOf]; omega
          · obtain rfl : k = l.length := by omega
            have hkl2 : ¬ ((l.length : Int) < l.length) := by omega
            have c1 := HSA.out wr (Below.refl _ _)
            have c2 := HKK.out wr (Below.refl _ _)
            have g0 := (HB.out.cell j).trans HCount.out
            have g1 := HB.out.frozen j
            have hcj : ys.count j ≤ 60 := HCle.out j
            have hjn : (j : Int) < l.length := by omega
            have HFree := Lib.hid (fun (hb : b = true) => HFr.out (by rw [← hfr.out]; exact hb))
            cases b with
            | true =>
              obtain ⟨key', s', hk1, hs1, hh1⟩ := HFree.out rfl
              rw [GK.out] at hk1
              rw [GL.out] at hs1
              obtain rfl := Option.some.inj hk1
              obtain rfl := Option.some.inj hs1
              have HH : Hid (∀ W, Below w6.heap.size w6 W → Calls Tryd.prog 38 #[.pointer (some ⟨rp, 0, none⟩), .int .u64 (key : Int)] W (HostPost s W)) := Lib.hid fun W hW => ringIs_host (HR.out.below hW) hU hh1
              clear hk1 hs1 hh1
              go_wp2_with fail
              go_region_held3 (fun w' => w'.cell? (ad4.add i) = some (.int .i64 (j : Int)) ∧ w'.cell? (adA.add j) = some (.string s) ∧ w'.cell? (adK.add i) = some (.int .u64 (key : Int))) (first | exact ⟨c0, c1, c2⟩ | exact ⟨HN4.out _ (below_two hb4r (below_undrew hb8)), HSA.out _ (below_undrew hb8), HKK.out _ (below_undrew hb8)⟩ | go_keep)
                ((go_at_call 38; refine (HH.out _ (below_drew hb)).mono ?_; rintro e w8 ⟨rfl, hb8⟩))
              have hb8r := below_undrew hb8
              have hB8 := HB.out.below hb8r HB.out.lt
              have HB8 := Lib.hid hB8
              have g2 := (hB8.cell j).trans HCount.out
              have g3 := hB8.frozen j
              have c8 := HN4.out w8 (below_two hb4r hb8r)
              have hbx := (below_two hb hb8r).setCell (p := ⟨w6.heap.size, j, none⟩) (Nat.le_refl _) (.int .i64 (((ys.count j : Nat) : Int) + 1))
              have hBx := hB8.set_ j (.int .i64 (((ys.count j : Nat) : Int) + 1))
              rw [HSet.out] at hBx
              have HBx := Lib.hid hBx
              have HBE := Lib.hid hbx
              have c9 := HN4.out _ (below_two hb46 hbx)
              clear hBx hB8 hbx c0 c1 c2 g0 g1
              generalize ys.count j = ct at *
              have tl : decide ((ct : Int) + 1 > most) = false := by simp; omega
              go_wp2_with fail
              go_roundw
              case rel => exact ⟨i + 1, by omega, by go_num, by rw [HC2.out]; exact HBx.out, HBE.out⟩
              case measure => simp [intOf]; omega
            | false =>
              go_wp2_with fail
              go_quiet (fail)
              have hbd := below_drewN hb nq
              have hB8 : Blk (wr.drewN nq) w6.heap.size 3 cs := HB.out
              have HB8 := Lib.hid hB8
              have g2 := (hB8.cell j).trans HCount.out
              have g3 := hB8.frozen j
              have c8 := HN4.out (wr.drewN nq) (below_drewN hb4r nq)
              have hbx := hbd.setCell (p := ⟨w6.heap.size, j, none⟩) (Nat.le_refl _) (.int .i64 (((ys.count j : Nat) : Int) + 1))
              have hBx := hB8.set_ j (.int .i64 (((ys.count j : Nat) : Int) + 1))
              rw [HSet.out] at hBx
              have HBx := Lib.hid hBx
              have HBE := Lib.hid hbx
              have c9 := HN4.out _ (below_two hb46 hbx)
              clear hBx hB8 hbx c0 c1 c2 g0 g1
              generalize ys.count j = ct at *
              have tl : decide ((ct : Int) + 1 > most) = false := by simp; omega
              go_wp2_with fail
              go_roundw
              case rel => exact ⟨i + 1, by omega, by go_num, by rw [HC2.out]; exact HBx.out, HBE.out⟩
              case measure => simp [intOf]; omega
      · have hlt2 : ¬ ((i : Int) < xs.length) := by omega
        go_wp2
        go_ret
        exact ⟨rfl, below_two hb16 hb⟩
theorem fillCaps_args (ea : Nat → Addr) (A : Option Addr) (c : Nat) (l : List ByteArray) (copies : Int) (A3 : Option Addr) (c3 : Nat) (l3 : List Int) (p : Int) (w : World) (hE : ErrsR ea w) (R0 : Reads w w.heap.size 1 A l.length (l.map Value.string)) (lc0 : l.length ≤ c) (cm0 : c ≤ maxLen) (wf0 : ∀ s ∈ l, s.size ≤ maxLen)
    (R3 : Reads w w.heap.size 1 A3 l3.length (l3.map (Value.int .u64))) (m3 : l3.length ≤ maxLen) (wf3 : ∀ n ∈ l3, (Lit.int .u64 n).wf = true) :
    Calls Tryd.prog 8 #[.slice A l.length c, .int .i64 copies, .slice A3 l3.length c3, .int .i64 p] w (True1 w) := by
  obtain ⟨keys, he, hr, hu⟩ := keys_arg R3 wf3
  rw [he]
  by_cases hs : longH l = true ∨ 60 < keys.length
  · exact caps_skip ea A c l copies A3 c3 keys p w hE ⟨R0, lc0, cm0, wf0, hr, by omega, hu⟩ hs
  simp only [not_or, Bool.not_eq_true] at hs
  exact caps_walk ea A c l copies A3 c3 keys p w hE ⟨R0, lc0, cm0, wf0, hr, by omega, hu⟩ hs.1 (by omega)
end Go.Proofs.YtajdokogahlgaaaDoor
