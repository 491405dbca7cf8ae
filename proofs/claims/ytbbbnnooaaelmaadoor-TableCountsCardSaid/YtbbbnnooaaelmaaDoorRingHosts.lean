/-
  The law RingHosts: its walk.
-/
import Derived.Test.YtbbbnnooaaelmaaDoorRefRings
import Derived.Test.YtbbbnnooaaelmaaDoorFaulted1
import Derived.Test.YtbbbnnooaaelmaaDoorHandle
namespace Go.Proofs.YtbbbnnooaaelmaaDoor
open Go.RowKit Go.Sort

theorem errsR_of_w {ea : Nat → Addr} {w : World} (h : ErrsW ea w) : ErrsR ea w := ⟨⟨(h.row 2 (by decide) (by decide)).1, (h.row 4 (by decide) (by decide)).1, (h.row 6 (by decide) (by decide)).1⟩, (h.row 5 (by decide) (by decide)).1⟩
/-- The reference's ring. -/
def RefIs (rp : Nat) (l : List ByteArray) (cp : Nat) (w : World) : Prop := ∃ g cap, RingAt w rp g cap (pointsOf l cp)
theorem RefIs.below {rp cp : Nat} {l : List ByteArray} {w w' : World} (h : RefIs rp l cp w) (hb : Below w.heap.size w w') : RefIs rp l cp w' := by
  obtain ⟨g, cap, h⟩ := h
  exact ⟨g, cap, h.below hb⟩
theorem refIs_next {rp cp key : Nat} {l : List ByteArray} {w : World} (many : Int) (h : RefIs rp l cp w) (hk : U64 key) :
    Calls Tryd.prog 37 #[.pointer (some ⟨rp, 0, none⟩), .int .u64 (key : Int), .int .i64 many] w (TextsPost (nextGo many [] (hostsOf l cp key)) w) := by
  obtain ⟨g, cap, h⟩ := h
  have hs := isSort_sorted l cp
  have := nextOf_any rp g cap key many (pointsOf l cp) (cyc (Mx.turn key) (sortedOf l cp)) w h hk ((cyc_perm _ _).trans hs.1) (cyc_sorted _ hs.2)
  unfold hostsOf
  rw [around_cyc]
  exact this
def RefMade (l : List ByteArray) (cp : Nat) (w : World) (e : Ending) (w' : World) : Prop := ∃ rp, e = .returned (.pointer (some ⟨rp, 0, none⟩)) ∧ RefIs rp l cp w' ∧ Below w.heap.size w w'
theorem refMade (A : Option Addr) (c : Nat) (l : List ByteArray) (cp : Nat) (w : World) (hr : Reads w w.heap.size 1 A l.length (strV l)) (hf : ringFault l (cp : Int) = none) (hs : ∀ s ∈ l, s.size ≤ maxLen) :
    Calls Tryd.prog 36 #[.slice A l.length c, .int .i64 (cp : Int)] w (RefMade l cp w) := by
  obtain ⟨h0, ho, hc1, hc2⟩ := ringFault_none hf
  obtain ⟨h12, _, _⟩ := hostsFault_none.1 ho
  have hpl := pointsOf_length l cp
  have hm : l.length * cp ≤ 12 * 16 := Nat.mul_le_mul h12 (by omega)
  have hp : 0 < l.length * cp := Nat.mul_pos h0 (by omega)
  refine (ringOf_any A c l cp w hr h12 hs (by omega)).mono fun e w' h => ?_
  obtain ⟨rp, sv, he, hR, hb⟩ := h
  obtain ⟨g, cap, hA⟩ := hR.ringAt (by omega) (by omega)
  exact ⟨rp, he, ⟨g, cap, hA⟩, hb⟩
theorem own_le {w : World} {b size n cap : Nat} {A : Option Addr} {e : TypeId} {xs : List Value} (h : w.ownsRow b e size (.slice A n cap) n xs) : n ≤ maxLen := by
  obtain ⟨_, _, _, _, _, h⟩ := own_slice h
  exact h
def OneP (x : ByteArray) (w : World) (e : Ending) (w' : World) : Prop := ∃ g cap, e = .returned (.slice (some ⟨g, 0, none⟩) 1 cap) ∧ w'.cell? ⟨g, 0, none⟩ = some (.string x) ∧ 1 ≤ cap ∧ Below w.heap.size w w'
theorem oneP_of {x : ByteArray} {w w' : World} {e : Ending} (h : TextsPost [x] w e w') : OneP x w e w' := by
  obtain ⟨A, cap, he, ho, hb⟩ := h
  have hc := own_ncap2 ho
  obtain ⟨g, cap', hv, _, _⟩ := ho.form (by simp)
  have hA : A = some ⟨g, 0, none⟩ := by injection hv
  subst hA
  exact ⟨g, cap, he, (ho.cellAt 0 (by simp)).trans rfl, hc, hb⟩
theorem next_one1 (x : ByteArray) (r : List ByteArray) : nextGo 1 [] (x :: r) = [x] := by
  rw [nextGo_more (by simp) (by rfl), List.nil_append, nextGo_stop (by simp)]
theorem hosts_first {l : List ByteArray} {cp key : Nat} (h0 : 0 < l.length) (hc : 1 ≤ cp) : ∃ x, (hostsOf l cp key)[0]? = some x ∧ nextGo 1 [] (hostsOf l cp key) = [x] := by
  have hm : l[0] ∈ hostsOf l cp key := mem_hostsOf (List.getElem_mem h0) hc
  cases hH : hostsOf l cp key with
  | nil => rw [hH] at hm; cases hm
  | cons x r => exact ⟨x, rfl, next_one1 x r⟩
theorem rh_ways (lg : Bool) (m : Nat) (h : lg = true ∨ 30 < m) : (lg = true) ∨ (lg = false ∧ decide ((m : Int) > 30) = true) := by
  cases lg <;> simp only [decide_eq_true_eq] <;> simp <;> simp at h <;> omega
set_option maxRecDepth 100000 in
set_option maxHeartbeats 2000000 in
theorem rh_skip (ea : Nat → Addr) (A : Option Addr) (c : Nat) (l : List ByteArray) (copies : Int) (A3 : Option Addr) (c3 : Nat) (keys : List Nat) (many : Int) (w : World) (hE : ErrsR ea w) (hI : RingIn w A c l A3 keys) (h : longH l = true ∨ 30 < keys.length) :
    Calls Tryd.prog 7 #[.slice A l.length c, .int .i64 copies, .slice A3 keys.length c3, .int .i64 many] w (True1 w) := by
  have hm := Nat.le_trans hI.lc hI.cm
  have hk := hI.km
  unfold maxLen at hm hk
  have HL : Hid (∀ W, Below w.heap.size w W → Calls Tryd.prog 13 #[.slice A l.length c] W (LongIs (longH l) W)) :=
    Lib.hid fun W hW => longHosts_any A c W.heap.size l W (hI.below hW).r (Nat.le_trans hI.lc hI.cm) hI.s
  have HW := Lib.hid (ringed_any ea w hE)
  have hways := rh_ways (longH l) keys.length h
  generalize longH l = lg at *
  clear hE hI h
  rcases hways with rfl | ⟨rfl, t1⟩
  all_goals
    go_enter Tryd.func7, Tryd.ntmps7
    go_wp2_with fail
    refine HW.out.mono ?_
    rintro e w1 ⟨rfl, hb1⟩
    go_wp2_with fail
    refine (HL.out _ hb1).mono ?_
    rintro e w2 ⟨rfl, rfl⟩
    go_wp2
    go_ret
    exact ⟨rfl, hb1⟩
set_option maxRecDepth 100000 in
set_option maxHeartbeats 2000000 in
theorem rh_bad (ea : Nat → Addr) (A : Option Addr) (c : Nat) (l : List ByteArray) (copies : Int) (A3 : Option Addr) (c3 : Nat) (keys : List Nat) (many : Int) (f : Flt) (w : World) (hE : ErrsW ea w) (hG : HandleAt w) (hI : RingIn w A c l A3 keys) (hL : longH l = false) (h30 : keys.length ≤ 30) (hf : ringFault l copies = some f) :
    Calls Tryd.prog 7 #[.slice A l.length c, .int .i64 copies, .slice A3 keys.length c3, .int .i64 many] w (True1 w) := by
  obtain ⟨hl30, _⟩ := long_no hL
  have hlm : l.length ≤ maxLen := Nat.le_trans hI.lc hI.cm
  have HL : Hid (∀ W, Below w.heap.size w W → Calls Tryd.prog 13 #[.slice A l.length c] W (LongIs false W)) :=
    Lib.hid fun W hW => by rw [← hL]; exact longHosts_any A c W.heap.size l W (hI.below hW).r hlm hI.s
  have HW := Lib.hid (ringed_any ea w (errsR_of_w hE))
  have t4 : decide ((keys.length : Int) > 30) = false := by simp; omega
  have HN : Hid (∀ W A' c', Below w.heap.size w W → Reads W W.heap.size 1 A' l.length (strV l) → l.length ≤ c' → Calls Tryd.prog 34 #[.slice A' l.length c', .int .i64 copies] W (RingBad ea f W)) :=
    Lib.hid fun W A' c' hW hr hc => ringNew_bad ea A' c' W.heap.size l copies f W (errsR_of_w (hE.below hW)) hr (Nat.le_refl _) hc hlm hI.s hf
  have HF : Hid (∀ W, Below w.heap.size w W → Calls Tryd.prog 35 #[.slice A l.length c, .int .i64 copies] W (FaultPost (some f) W)) :=
    Lib.hid fun W hW => by rw [← hf]; exact ringFault_ref A c W.heap.size l copies W (hI.below hW).r (Nat.le_refl _) hlm hI.s
  unfold FaultPost at HF
  obtain ⟨hf1, hf9⟩ := ringFault_code hf
  have HFA : Hid (∀ W t a, Below w.heap.size w W → IsErr ea W f t a → Calls Tryd.prog 30 #[.iface t (.pointer (some a)), .agg #[.int .i64 (fCode (some f) : Int), .int .i64 (fAt (some f))]] W (Yeslaw1 W)) := Lib.hid fun W t a hW hI => faultedlaw1_some (hE.below hW) (hG.below hW) hf1 hf9 hI
  have hc1 : (0 : Int) < (fCode (some f) : Int) := by show (0 : Int) < (f.code : Int); omega
  have HI := Lib.hid hI
  generalize fCode (some f) = fc at *
  generalize fAt (some f) = fa at *
  clear hI hE hG hf hL hlm
  go_enter Tryd.func7, Tryd.ntmps7
  go_wp2_with fail
  refine HW.out.mono ?_
  rintro e w1 ⟨rfl, hb1⟩
  go_wp2_with fail
  refine (HL.out _ hb1).mono ?_
  rintro e w2 ⟨rfl, rfl⟩
  go_wp2_with fail
  refine (ownTexts_any A l.length c w1.heap.size (strV l) w1 (HI.out.below hb1).r str_one (by omega)).mono ?_
  rintro e w2 ⟨A', c', rfl, ho2, hb2⟩
  have hb12 := below_two hb1 hb2
  have hr2 := Reads.of_own ho2
  have hnc := own_ncap2 ho2
  clear ho2
  go_wp2_with fail
  refine (HN.out _ _ _ hb12 hr2 hnc).mono ?_
  rintro e w3 ⟨t, a, rfl, hX, hb3⟩
  have hb13 := below_two hb12 hb3
  clear hr2 hnc
  go_wp2_with fail
  refine (HF.out _ hb13).mono ?_
  rintro e w4 ⟨rfl, hb4⟩
  have hb14 := below_two hb13 hb4
  go_wp2_with fail
  have hX4 := hX.below (hb4.alloc hb4.size (.cells #[.int .i64 (fc : Int), .int .i64 fa] 47))
  have hb15 := hb14.alloc hb14.size (.cells #[.int .i64 (fc : Int), .int .i64 fa] 47)
  refine (HFA.out _ t a hb15 hX4).mono ?_
  rintro e w5 ⟨rfl, hb5⟩
  go_wp2
  go_ret
  exact ⟨rfl, below_two hb15 hb5⟩
set_option maxRecDepth 100000 in
set_option maxHeartbeats 4000000 in
theorem rh_good (ea : Nat → Addr) (A : Option Addr) (c : Nat) (l : List ByteArray) (cp : Nat) (A3 : Option Addr) (c3 : Nat) (keys : List Nat) (many : Int) (w : World) (hE : ErrsR ea w) (hI : RingIn w A c l A3 keys) (hL : longH l = false) (h30 : keys.length ≤ 30) (hf : ringFault l (cp : Int) = none) :
    Calls Tryd.prog 7 #[.slice A l.length c, .int .i64 (cp : Int), .slice A3 keys.length c3, .int .i64 many] w (True1 w) := by
  obtain ⟨hl30, _⟩ := long_no hL
  have hlm : l.length ≤ maxLen := Nat.le_trans hI.lc hI.cm
  have HL : Hid (∀ W, Below w.heap.size w W → Calls Tryd.prog 13 #[.slice A l.length c] W (LongIs false W)) :=
    Lib.hid fun W hW => by rw [← hL]; exact longHosts_any A c W.heap.size l W (hI.below hW).r hlm hI.s
  have HW := Lib.hid (ringed_any ea w hE)
  have t4 : decide ((keys.length : Int) > 30) = false := by simp; omega
  have HN : Hid (∀ W A' c', Below w.heap.size w W → Reads W W.heap.size 1 A' l.length (strV l) → l.length ≤ c' → Calls Tryd.prog 34 #[.slice A' l.length c', .int .i64 (cp : Int)] W (RingMade l cp W)) :=
    Lib.hid fun W A' c' hW hr hc => ringNew_made ea A' c' W.heap.size l cp W (hE.below hW).e3 hr (Nat.le_refl _) hc hlm hI.s hf
  have HF : Hid (∀ W, Below w.heap.size w W → Calls Tryd.prog 35 #[.slice A l.length c, .int .i64 (cp : Int)] W fun e w' => e = .returned (.agg #[.int .i64 0, .int .i64 (-1)]) ∧ Below W.heap.size W w') :=
    Lib.hid fun W hW => by
      have := ringFault_ref A c W.heap.size l (cp : Int) W (hI.below hW).r (Nat.le_refl _) hlm hI.s
      rw [hf] at this
      exact this
  have HRef : Hid (∀ W, Below w.heap.size w W → Calls Tryd.prog 36 #[.slice A l.length c, .int .i64 (cp : Int)] W (RefMade l cp W)) :=
    Lib.hid fun W hW => refMade A c l cp W (hI.below hW).r hf hI.s
  obtain ⟨h0, _, hc1, _⟩ := ringFault_none hf
  have HI := Lib.hid hI
  clear hE hI hf hL hlm
  go_enter Tryd.func7, Tryd.ntmps7
  go_wp2_with fail
  refine HW.out.mono ?_
  rintro e w1 ⟨rfl, hb1⟩
  go_wp2_with fail
  refine (HL.out _ hb1).mono ?_
  rintro e w2 ⟨rfl, rfl⟩
  go_wp2_with fail
  refine (ownTexts_any A l.length c w1.heap.size (strV l) w1 (HI.out.below hb1).r str_one (by omega)).mono ?_
  rintro e w2 ⟨A', c', rfl, ho2, hb2⟩
  have hb12 := below_two hb1 hb2
  have hr2 := Reads.of_own ho2
  have hnc := own_ncap2 ho2
  clear ho2
  go_wp2_with fail
  refine (HN.out _ _ _ hb12 hr2 hnc).mono ?_
  rintro e w3 ⟨rp, rfl, hR, hb3⟩
  have hb13 := below_two hb12 hb3
  have HR := Lib.hid hR
  clear hr2 hnc hR
  go_wp2_with fail
  refine (HF.out _ hb13).mono ?_
  rintro e w4 ⟨rfl, hb4⟩
  have hb14 := below_two hb13 hb4
  go_wp2_with fail
  have hb34 := hb4.alloc hb4.size (.cells #[.int .i64 0, .int .i64 (-1)] 47)
  have hb15 := hb14.alloc hb14.size (.cells #[.int .i64 0, .int .i64 (-1)] 47)
  refine (HRef.out _ hb15).mono ?_
  rintro e w5 ⟨mp, rfl, hM, hb5⟩
  have hb35 := below_two hb34 hb5
  have hb05 := below_two hb15 hb5
  have HM := Lib.hid hM
  clear hM hb15 hb34 hb4 hb5
  go_wp2_with fail
  go_loopw [14] (fun iv wr => ∃ i : Nat, i ≤ keys.length ∧ iv = .int .i64 (i : Int) ∧ Below w5.heap.size w5 wr) (fun iv _ => keys.length - (intOf iv).toNat)
  case atStart => exact ⟨0, Nat.zero_le _, rfl, Below.refl _ _⟩
  case round =>
    obtain ⟨i, hi, rfl, hb⟩ := hrel
    have hb3r := below_two hb35 hb
    have hbr := below_two hb05 hb
    by_cases hlt : i < keys.length
    · have hlt2 : (i : Int) < keys.length := by omega
      obtain ⟨ad3, rfl, hK⟩ := keyAt2_of (HI.out.below hbr).k hlt
      have hU := HI.out.u _ (List.getElem_mem hlt)
      have HK := Lib.hid hK
      clear hK
      generalize keys[i] = key at *
      obtain ⟨x, hx, h1x⟩ := hosts_first (l := l) (cp := cp) (key := key) h0 (by omega)
      have HA : Hid (∀ W, Below w5.heap.size w5 W → Calls Tryd.prog 37 #[.pointer (some ⟨mp, 0, none⟩), .int .u64 (key : Int), .int .i64 many] W (TextsPost (nextGo many [] (hostsOf l cp key)) W)) := Lib.hid fun W hW => refIs_next many (HM.out.below hW) hU
      have HB : Hid (∀ W, Below w5.heap.size w5 W → Calls Tryd.prog 37 #[.pointer (some ⟨mp, 0, none⟩), .int .u64 (key : Int), .int .i64 1] W (OneP x W)) := Lib.hid fun W hW => by
        have := refIs_next (key := key) 1 (HM.out.below hW) hU
        rw [h1x] at this
        exact this.mono fun e w' h => oneP_of h
      have HC : Hid (∀ W, Below w3.heap.size w3 W → Calls Tryd.prog 38 #[.pointer (some ⟨rp, 0, none⟩), .int .u64 (key : Int), .int .i64 many] W (TextsPost (nextGo many [] (hostsOf l cp key)) W)) := Lib.hid fun W hW => ringIs_next many (HR.out.below hW) hU
      have HD : Hid (∀ W, Below w3.heap.size w3 W → Calls Tryd.prog 39 #[.pointer (some ⟨rp, 0, none⟩), .int .u64 (key : Int)] W (HostPost x W)) := Lib.hid fun W hW => ringIs_host (HR.out.below hW) hU hx
      generalize nextGo many [] (hostsOf l cp key) = out at *
      have c0 := HK.out wr (Below.refl _ _)
      clear hU hx h1x
      go_wp2_with fail
      refine (HA.out _ hb).mono ?_
      rintro e w6 ⟨A6, c6, rfl, ho6, hb6⟩
      have hb56 := below_two hb hb6
      have HR6 := Lib.hid (Reads.of_own ho6)
      have HLN : Hid (out.length ≤ maxLen) := Lib.hid (own_le ho6)
      have c6 := HK.out w6 hb6
      clear ho6
      go_wp2_with fail
      refine (HB.out _ hb56).mono ?_
      rintro e w7 ⟨g7, c7, rfl, d7, hc7, hb7⟩
      have hb57 := below_two hb56 hb7
      have hbr7 := below_two hb6 hb7
      have hb37 := below_two hb35 hb57
      have c7 := HK.out w7 hbr7
      have HR7 := Lib.hid ((HR6.out.below hb7).more hb7.size)
      have HD7 : Hid (∀ W, Below w7.heap.size w7 W → W.cell? (ad3.add i) = some (.int .u64 (key : Int)) ∧ W.cell? ⟨g7, 0, none⟩ = some (.string x)) := Lib.hid fun W hW => ⟨HK.out W (below_two hbr7 hW), (hW.cell (lt_of_cell d7)).trans d7⟩
      go_wp2_with fail
      go_region_held3 (fun w' => w'.cell? (ad3.add i) = some (.int .u64 (key : Int)) ∧ w'.cell? ⟨g7, 0, none⟩ = some (.string x)) (first | exact ⟨c7, d7⟩ | exact HD7.out _ (below_undrew hb8) | exact HD7.out _ (below_drewN (below_undrew hb8) _) | exact HD7.out _ (below_two (below_drewN (below_undrew hb8) _) hb9) | go_keep)
        (first
          | (go_at_call 38; refine (HC.out _ (below_drew hb37)).mono ?_; rintro e w8 ⟨A8, c8, rfl, ho8, hb8⟩)
          | (go_at_call 20; refine (sameTexts_yes _ _ _ _ w8.heap.size out w8 (Reads.of_own ho8) ((HR7.out.below (below_undrew hb8)).more (below_undrew hb8).size) HLN.out).mono ?_; rintro e w9 ⟨rfl, q, rfl⟩)
          | (go_at_call 39; refine (HD.out _ (below_drewN (below_two hb37 (below_undrew hb8)) _)).mono ?_; rintro e w9 ⟨rfl, hb9⟩))
      have hb5z := below_two (below_drewN (below_two hb57 (below_undrew hb8)) q) hb9
      clear hb8 hb9
      go_wp2
      go_roundw
      case rel => exact ⟨i + 1, by omega, by go_num, hb5z⟩
      case measure => simp [intOf]; omega
    · obtain rfl : i = keys.length := by omega
      go_wp2
      go_ret
      exact ⟨rfl, hbr⟩
theorem ringHosts_args (ea : Nat → Addr) (A : Option Addr) (c : Nat) (l : List ByteArray) (copies : Int) (A3 : Option Addr) (c3 : Nat) (l3 : List Int) (many : Int) (w : World) (hE : ErrsW ea w) (hG : HandleAt w) (R0 : Reads w w.heap.size 1 A l.length (l.map Value.string)) (lc0 : l.length ≤ c) (cm0 : c ≤ maxLen) (wf0 : ∀ s ∈ l, s.size ≤ maxLen)
    (R3 : Reads w w.heap.size 1 A3 l3.length (l3.map (Value.int .u64))) (m3 : l3.length ≤ maxLen) (wf3 : ∀ n ∈ l3, (Lit.int .u64 n).wf = true) :
    Calls Tryd.prog 7 #[.slice A l.length c, .int .i64 copies, .slice A3 l3.length c3, .int .i64 many] w (True1 w) := by
  obtain ⟨keys, he, hr, hu⟩ := keys_arg R3 wf3
  rw [he]
  have hI : RingIn w A c l A3 keys := ⟨R0, lc0, cm0, wf0, hr, by omega, hu⟩
  by_cases hs : longH l = true ∨ 30 < keys.length
  · exact rh_skip ea A c l copies A3 c3 keys many w (errsR_of_w hE) hI hs
  simp only [not_or, Bool.not_eq_true] at hs
  cases hf : ringFault l copies with
  | some f => exact rh_bad ea A c l copies A3 c3 keys many f w hE hG hI hs.1 (by omega) hf
  | none =>
    obtain ⟨_, _, hc1, _⟩ := ringFault_none hf
    obtain ⟨cp, rfl⟩ := Int.eq_ofNat_of_zero_le (by omega : 0 ≤ copies)
    exact rh_good ea A c l cp A3 c3 keys many w (errsR_of_w hE) hI hs.1 (by omega) hf
end Go.Proofs.YtbbbnnooaaelmaaDoor
