/-
  The law RivalOrders: its walk.
-/
import Derived.Test.YtbbbnnooaaelmaaDoorGroups
import Derived.Test.YtbbbnnooaaelmaaDoorRefOrder
import Derived.Test.YtbbbnnooaaelmaaDoorRefSome
import Derived.Test.YtbbbnnooaaelmaaDoorRefHosts
import Derived.Test.YtbbbnnooaaelmaaDoorFaulted1
import Derived.Deep.DeepCutAuto
namespace Go.Proofs.YtbbbnnooaaelmaaDoor
open Go.RowKit

theorem ErrsW.errsR {ea : Nat → Addr} {w : World} (h : ErrsW ea w) : ErrsR ea w := ⟨⟨(h.row 2 (by decide) (by decide)).1, (h.row 4 (by decide) (by decide)).1, (h.row 6 (by decide) (by decide)).1⟩, (h.row 5 (by decide) (by decide)).1⟩
theorem ords_ways (lg : Bool) (m : Nat) (h : lg = true ∨ (60 < m ∧ m ≤ 500) ∨ 600 < m) :
    lg = true ∨ (lg = false ∧ decide ((m : Int) > 60) = true ∧ decide ((m : Int) ≤ 500) = true) ∨ (lg = false ∧ decide ((m : Int) > 60) = true ∧ decide ((m : Int) ≤ 500) = false ∧ decide ((m : Int) > 600) = true) := by
  cases lg <;> simp only [decide_eq_true_eq, decide_eq_false_iff_not] <;> simp <;> simp at h <;> omega
theorem ords_in (m : Nat) (h : m ≤ 60 ∨ (500 < m ∧ m ≤ 600)) :
    (decide ((m : Int) > 60) = false ∧ decide ((m : Int) > 600) = false) ∨ (decide ((m : Int) > 60) = true ∧ decide ((m : Int) ≤ 500) = false ∧ decide ((m : Int) > 600) = false) := by
  simp only [decide_eq_true_eq, decide_eq_false_iff_not]; omega
set_option maxRecDepth 100000 in
set_option maxHeartbeats 2000000 in
theorem ords_skip (ea : Nat → Addr) (A : Option Addr) (c : Nat) (l : List ByteArray) (A2 : Option Addr) (m c2 : Nat) (w : World) (hE : ErrsR ea w) (hI : TextsIn w A c l) (h : longH l = true ∨ (60 < m ∧ m ≤ 500) ∨ 600 < m) :
    Calls Tryd.prog 11 #[.slice A l.length c, .slice A2 m c2] w (True1 w) := by
  have hlm := hI.lm
  unfold maxLen at hlm
  have HL : Hid (∀ W, Below w.heap.size w W → Calls Tryd.prog 13 #[.slice A l.length c] W (LongIs (longH l) W)) :=
    Lib.hid fun W hW => longHosts_any A c W.heap.size l W (hI.below hW).r hI.lm hI.s
  have HW := Lib.hid (rivals_any ea w hE)
  have hways := ords_ways (longH l) m h
  generalize longH l = lg at *
  clear hE hI h
  rcases hways with rfl | ⟨rfl, t1, t2⟩ | ⟨rfl, t1, t2, t3⟩
  all_goals
    go_enter Tryd.func11, Tryd.ntmps11
    go_wp2_with fail
    refine HW.out.mono ?_
    rintro e w1 ⟨rfl, hb1⟩
    go_wp2_with fail
    refine (HL.out _ hb1).mono ?_
    rintro e w2 ⟨rfl, rfl⟩
    go_wp2
    go_ret
    exact ⟨rfl, hb1⟩
theorem groups_no (ea : Nat → Addr) (A : Option Addr) (c : Nat) (l : List ByteArray) (A2 : Option Addr) (m c2 : Nat) (f : Flt) (w : World) (hE : ErrsR ea w) (hI : TextsIn w A c l) (hf : orderFault l = some f) :
    Calls Tryd.prog 56 #[.slice A l.length c, .slice A2 m c2] w (SortedBad ea f w) := by
  by_cases h0 : l.length = 0
  · unfold orderFault at hf
    rw [if_pos h0] at hf
    obtain rfl := Option.some.inj hf
    rw [h0]
    exact groups_none ea A c A2 m c2 w hE
  · unfold orderFault at hf
    rw [if_neg h0] at hf
    exact groups_bad ea A c l A2 m c2 f w hE hI (by omega) hf
set_option maxRecDepth 100000 in
set_option maxHeartbeats 2000000 in
theorem ords_bad (ea : Nat → Addr) (A : Option Addr) (c : Nat) (l : List ByteArray) (A2 : Option Addr) (c2 : Nat) (ks : List Nat) (f : Flt) (w : World) (hE : ErrsW ea w) (hG : HandleAt w) (hI : TextsIn w A c l) (hr : Reads w w.heap.size 1 A2 ks.length (keysV ks)) (hU : ∀ k ∈ ks, U64 k) (hL : longH l = false) (hm : ks.length ≤ 60 ∨ (500 < ks.length ∧ ks.length ≤ 600)) (hf : orderFault l = some f) (hf1 : 1 ≤ f.code) (hf9 : f.code ≤ 9) :
    Calls Tryd.prog 11 #[.slice A l.length c, .slice A2 ks.length c2] w (True1 w) := by
  obtain ⟨hl30, _⟩ := long_no hL
  have hm6 : ks.length ≤ 600 := by omega
  have HL : Hid (∀ W, Below w.heap.size w W → Calls Tryd.prog 13 #[.slice A l.length c] W (LongIs false W)) :=
    Lib.hid fun W hW => by rw [← hL]; exact longHosts_any A c W.heap.size l W (hI.below hW).r hI.lm hI.s
  have HW := Lib.hid (rivals_any ea w hE.errsR)
  have HGr : Hid (∀ W A' c' A2' c2', Below w.heap.size w W → TextsIn W A' c' l → Calls Tryd.prog 56 #[.slice A' l.length c', .slice A2' ks.length c2'] W (SortedBad ea f W)) := Lib.hid fun W A' c' A2' c2' hW hT => groups_no ea A' c' l A2' ks.length c2' f W (hE.below hW).errsR hT hf
  have HO : Hid (∀ i (h : i < ks.length) W A' c', Below w.heap.size w W → TextsIn W A' c' l → Calls Tryd.prog 19 #[.slice A' l.length c', .int .u64 (ks[i] : Int)] W (SortedBad ea f W)) := Lib.hid fun i h W A' c' hW hT => by
    have := order_any ea A' c' l ks[i] W (hE.below hW).errsR hT (hU _ (List.getElem_mem h))
    unfold OrderPost at this
    rw [hf] at this
    exact this
  have HH : Hid (∀ i (h : i < ks.length) W A' c', Below w.heap.size w W → TextsIn W A' c' l → Calls Tryd.prog 21 #[.slice A' l.length c', .int .u64 (ks[i] : Int)] W (HostBad ea f W)) := Lib.hid fun i h W A' c' hW hT => by
    have := rhost_any ea A' c' l ks[i] W (hE.below hW).errsR hT (hU _ (List.getElem_mem h))
    unfold RHostPost at this
    rw [hf] at this
    exact this
  have HT : Hid (∀ W, Below w.heap.size w W → Calls Tryd.prog 15 #[.slice A l.length c] W fun e w' => ∃ A' c', e = .returned (.slice A' l.length c') ∧ TextsIn w' A' c' l ∧ Below W.heap.size W w') := Lib.hid fun W hW =>
    (ownTexts_any A l.length c W.heap.size (strV l) W (hI.below hW).r str_one (by omega)).mono fun e w' ⟨A', c', he, ho, hb⟩ => ⟨A', c', he, ⟨Reads.of_own ho, own_ncap2 ho, hI.lm, hI.s⟩, hb⟩
  have HK : Hid (∀ W, Below w.heap.size w W → Calls Tryd.prog 42 #[.slice A2 ks.length c2] W (OwnPost 35 ks.length (keysV ks) W)) := Lib.hid fun W hW =>
    ownKeys_any A2 ks.length c2 W.heap.size (keysV ks) W ((hr.below hW).more hW.size) keys_one (by omega)
  have HS : Hid (∀ W, Below w.heap.size w W → Calls Tryd.prog 57 #[.slice A l.length c] W fun e w' => e = .returned (.agg #[.int .i64 (fCode (some f) : Int), .int .i64 (fAt (some f))]) ∧ Below W.heap.size W w') := Lib.hid fun W hW => by
    have := someFault_ref A c W.heap.size l W (hI.below hW).r (Nat.le_refl _) hI.lm hI.s
    rw [show someFault l = orderFault l from rfl, hf] at this
    exact this
  have HFA : Hid (∀ W t a, Below w.heap.size w W → IsErr ea W f t a → Calls Tryd.prog 30 #[.iface t (.pointer (some a)), .agg #[.int .i64 (fCode (some f) : Int), .int .i64 (fAt (some f))]] W (Yeslaw1 W)) := Lib.hid fun W t a hW hI => faultedlaw1_some (hE.below hW) (hG.below hW) hf1 hf9 hI
  have HKA : Hid (∀ i (h : i < ks.length), ∃ ad, A2 = some ad ∧ KeyAt2 ad i ks[i] w) := Lib.hid fun i h => keyAt2_of hr h
  have hc1 : (0 : Int) < (fCode (some f) : Int) := by show (0 : Int) < (f.code : Int); omega
  have hc0 : ((fCode (some f) : Int) == 0) = false := by rw [beq_eq_false_iff_ne]; omega
  have hmk := make_counts l.length (by omega)
  have HM := Lib.hid (ords_in ks.length hm)
  generalize fCode (some f) = fc at *
  generalize fAt (some f) = fa at *
  clear hE hG hI hr hU hL hf hf1 hf9
  go_enter Tryd.func11, Tryd.ntmps11
  go_wp2_with fail
  refine HW.out.mono ?_
  rintro e w1 ⟨rfl, hb1⟩
  go_upto_region 2 with fail
  go_cut [41] (fun s41 wx => s41 = .bool false ∧ wx = w1)
  case first =>
    go_wp2_with fail
    refine (HL.out _ hb1).mono ?_
    rintro e w2 ⟨rfl, rfl⟩
    rcases HM.out with ⟨t1, t2⟩ | ⟨t1, t2, t3⟩
    all_goals
      go_wp2_with fail
      go_meet
      exact ⟨rfl, rfl⟩
  case rest =>
  obtain ⟨rfl, rfl⟩ := hcut
  go_wp2_with fail
  refine (HT.out _ hb1).mono ?_
  rintro e w2 ⟨A3, c3, rfl, hT2, hb2⟩
  have hb12 := below_two hb1 hb2
  go_wp2_with fail
  refine (HK.out _ hb12).mono ?_
  rintro e w3 ⟨A4, c4, rfl, hk3, hb3⟩
  have hb13 := below_two hb12 hb3
  clear hk3
  have hT3 := hT2.below hb3
  go_wp2_with fail
  refine (HGr.out _ _ _ _ _ hb13 hT3).mono ?_
  rintro e w4 ⟨t4, a4, rfl, hX4, hb4⟩
  have hb14 := below_two hb13 hb4
  clear hT2 hT3
  go_wp2_with fail
  refine (HS.out _ hb14).mono ?_
  rintro e w5 ⟨rfl, hb5⟩
  have hb15 := below_two hb14 hb5
  have hX5 := hX4.below hb5
  clear hX4
  go_wp2_with fail
  have hbW := (hb15.alloc hb15.size (.cells #[.int .i64 (fc : Int), .int .i64 fa] 47)).alloc (by simp; have := hb15.size; omega) (.cells #[.int .i64 (fc : Int), .int .i64 fa] 47)
  have hb5W : Below w5.heap.size w5 ((w5.alloc (.cells #[.int .i64 (fc : Int), .int .i64 fa] 47)).alloc (.cells #[.int .i64 (fc : Int), .int .i64 fa] 47)) := ((Below.refl _ _).alloc (Nat.le_refl _) _).alloc (by simp) _
  have hBf := (Blk.new w5 47 #[.int .i64 (fc : Int), .int .i64 fa]).alloc (.cells #[.int .i64 (fc : Int), .int .i64 fa] 47)
  have hBh := Blk.new (w5.alloc (.cells #[.int .i64 (fc : Int), .int .i64 fa] 47)) 47 #[.int .i64 (fc : Int), .int .i64 fa]
  rw [show (w5.alloc (.cells #[.int .i64 (fc : Int), .int .i64 fa] 47)).heap.size = w5.heap.size + 1 by simp] at hBh
  generalize (w5.alloc (.cells #[.int .i64 (fc : Int), .int .i64 fa] 47)).alloc (.cells #[.int .i64 (fc : Int), .int .i64 fa] 47) = W0 at *
  have HBf : Hid (∀ W, Below W0.heap.size W0 W → W.cell? ⟨w5.heap.size, 0, none⟩ = some (.int .i64 (fc : Int)) ∧ W.cell? ⟨w5.heap.size, 1, none⟩ = some (.int .i64 fa)) := Lib.hid fun W hW => ⟨(hBf.below hW hBf.lt).cell 0, (hBf.below hW hBf.lt).cell 1⟩
  have HBh : Hid (∀ W, Below W0.heap.size W0 W → W.cell? ⟨w5.heap.size + 1, 0, none⟩ = some (.int .i64 (fc : Int)) ∧ W.cell? ⟨w5.heap.size + 1, 1, none⟩ = some (.int .i64 fa)) := Lib.hid fun W hW => ⟨(hBh.below hW hBh.lt).cell 0, (hBh.below hW hBh.lt).cell 1⟩
  have hX0 := hX5.below hb5W
  clear hBf hBh hX5 hb5W
  generalize w5.heap.size = gf at *
  refine (HFA.out _ _ _ hbW hX0).mono ?_
  rintro e w6 ⟨rfl, hb6⟩
  have hbw6 := below_two hbW hb6
  clear hX0
  go_wp2_with fail
  have hb7 := hb6.alloc hb6.size (.cells (numsV (countsL l.length [])).toArray 3)
  have hbw7 := hbw6.alloc hbw6.size (.cells (numsV (countsL l.length [])).toArray 3)
  clear hmk
  obtain ⟨N, hN⟩ : ∃ N, N = min ks.length 60 := ⟨_, rfl⟩
  go_loopg [11] N (fun g iv wr => ∃ i : Nat, g + i = N ∧ iv = .int .i64 (i : Int) ∧ Below W0.heap.size W0 wr)
  case atStart => exact ⟨0, by omega, rfl, hb7⟩
  case round =>
    obtain ⟨i, hgi, rfl, hb⟩ := hrel
    have hbr := below_two hbW hb
    by_cases hlt : i < N
    · have hik : i < ks.length := by omega
      have hlt1 : (i : Int) < ks.length := by omega
      have hlt2 : (i : Int) < 60 := by omega
      obtain ⟨ad, rfl, hck⟩ := HKA.out i hik
      have ck := hck wr hbr
      have HCK := Lib.hid hck
      have HOi := Lib.hid (HO.out i hik)
      have HHi := Lib.hid (HH.out i hik)
      generalize ks[i] = key at *
      clear hck
      go_wp2_with fail
      go_region_held3 (fun w' => w'.cell? (ad.add i) = some (.int .u64 (key : Int))) (first | exact ck | exact HCK.out _ (below_two hbr (below_undrew hb8)) | exact HCK.out _ (below_two (below_two hbr (below_undrew hb8)) hb9) | go_keep)
        (first
          | (go_at_call 15; refine (HT.out _ (below_drew hbr)).mono ?_; rintro e w8 ⟨A8, c8, rfl, hT8, hb8⟩)
          | (go_at_call 19; refine (HOi.out w8 A8 c8 (below_two hbr (below_undrew hb8)) hT8).mono ?_; rintro e w9 ⟨t9, a9, rfl, hX9, hb9⟩))
      have hbr9 := below_two (below_two hbr (below_undrew hb8)) hb9
      have hbR9 := below_two (below_two hb (below_undrew hb8)) hb9
      have ck9 := HCK.out _ hbr9
      clear hT8 hb8 hb9
      go_wp2_with fail
      go_region_held3 (fun w' => w'.cell? (ad.add i) = some (.int .u64 (key : Int))) (first | exact ck9 | exact HCK.out _ (below_two hbr9 (below_undrew hb10)) | exact HCK.out _ (below_two (below_two hbr9 (below_undrew hb10)) hb11) | go_keep)
        (first
          | (go_at_call 15; refine (HT.out _ (below_drew hbr9)).mono ?_; rintro e w10 ⟨A10, c10, rfl, hT10, hb10⟩)
          | (go_at_call 21; refine (HHi.out w10 A10 c10 (below_two hbr9 (below_undrew hb10)) hT10).mono ?_; rintro e w11 ⟨t11, a11, rfl, hX11, hb11⟩))
      have hbr11 := below_two (below_two hbr9 (below_undrew hb10)) hb11
      have hbR11 := below_two (below_two hbR9 (below_undrew hb10)) hb11
      have hX9b := (hX9.below (below_two (below_undrew hb10) hb11))
      clear hT10 hb10 hb11
      obtain ⟨k0, k1⟩ := HBf.out _ hbR11
      go_wp2_with fail
      refine (HFA.out _ _ _ hbr11 hX9b).mono ?_
      rintro e w12 ⟨rfl, hb12⟩
      have hbr12 := below_two hbr11 hb12
      have hbR12 := below_two hbR11 hb12
      have hX12 := hX11.below hb12
      obtain ⟨k2, k3⟩ := HBf.out _ hbR12
      go_wp2_with fail
      refine (HFA.out _ _ _ hbr12 hX12).mono ?_
      rintro e w13 ⟨rfl, hb13⟩
      have hbR13 := below_two hbR12 hb13
      clear hX9 hX9b hX11 hX12
      go_wp2_with fail
      go_roundg (N - (i + 1))
      case rel => exact ⟨i + 1, by omega, by go_num, hbR13⟩
      case measure => omega
    · obtain rfl : i = N := by omega
      obtain ⟨k2, k3⟩ := HBh.out _ hb
      have hways : ¬ ((i : Int) < ks.length) ∨ ((i : Int) < ks.length ∧ ¬ (i : Int) < 60) := by omega
      rcases hways with u1 | ⟨u1, u2⟩
      all_goals
        go_wp2_with fail
        go_loopg [18] l.length (fun g kv W => kv = .int .i64 0 ∧ W = wr)
        case atStart => exact ⟨rfl, rfl⟩
        case round =>
          obtain ⟨rfl, rfl⟩ := hrel
          by_cases h0 : 0 < l.length
          · have h02 : (0 : Int) < l.length := by omega
            have hl0 : ¬ l = [] := fun e => by simp [e] at h0
            go_wp2
            go_ret
            exact ⟨rfl, hbr⟩
          · have h02 : ¬ (0 : Int) < l.length := by omega
            go_wp2
            go_ret
            exact ⟨rfl, hbr⟩

def cntV (l : List ByteArray) (us : List Nat) : List Value := numsV (countsL l.length (us.map (hostIdx l)))
theorem count_grp (l : List ByteArray) (j : Nat) : ∀ us : List Nat, (us.map (hostIdx l)).count j = (grp l us j).length
  | [] => rfl
  | u :: r => by
    have ih := count_grp l j r
    unfold grp at ih ⊢
    rw [List.map_cons, List.count_cons, List.filter_cons, ih]
    by_cases h : hostIdx l u = j
    · simp [h]
    · simp [h]
theorem cntV_get {l : List ByteArray} {j : Nat} (us : List Nat) (h : j < l.length) : (cntV l us).toArray[j]? = some (.int .i64 ((grp l us j).length : Int)) := by
  unfold cntV
  rw [countsL_get _ h, count_grp]
theorem cntV_set {l : List ByteArray} {us : List Nat} {k j : Nat} (h : j < l.length) (hk : hostIdx l k = j) : (cntV l us).toArray.setIfInBounds j (.int .i64 (((grp l us j).length : Int) + 1)) = (cntV l (us ++ [k])).toArray := by
  unfold cntV
  have := countsL_set (us.map (hostIdx l)) h
  rw [count_grp] at this
  rw [this, List.map_append, List.map_singleton, hk]
def OrdGood (o : List ByteArray) (w : World) (e : Ending) (w' : World) : Prop := ∃ g cap, e = .returned (.tuple #[.slice (some ⟨g, 0, none⟩) o.length cap, .nilIface]) ∧ Reads w' w'.heap.size 1 (some ⟨g, 0, none⟩) o.length (strV o) ∧ Below w.heap.size w w'
/-- The reference's order: its first one lies at the head of a block. -/
def WantGood (o : List ByteArray) (x : ByteArray) (w : World) (e : Ending) (w' : World) : Prop := ∃ g cap, e = .returned (.slice (some ⟨g, 0, none⟩) o.length cap) ∧ Reads w' w'.heap.size 1 (some ⟨g, 0, none⟩) o.length (strV o) ∧ w'.cell? ⟨g, 0, none⟩ = some (.string x) ∧ Below w.heap.size w w'
theorem wantGood_of {o : List ByteArray} {x : ByteArray} {w w' : World} {e : Ending} (h : TextsPost o w e w') (hx : o[0]? = some x) : WantGood o x w e w' := by
  obtain ⟨A, cap, he, ho, hb⟩ := h
  have h0 : 0 < o.length := by
    rcases Nat.eq_zero_or_pos o.length with h | h
    · rw [List.getElem?_eq_none (by omega)] at hx; cases hx
    · exact h
  obtain ⟨g, cap', hv, _, _⟩ := ho.form h0
  have hA : A = some ⟨g, 0, none⟩ := by injection hv
  subst hA
  exact ⟨g, cap, he, Reads.of_own ho, (ho.cellAt 0 (by omega)).trans (by simp [strV, hx]), hb⟩
theorem first_of (key : Nat) {l : List ByteArray} (h0 : 0 < l.length) : ∃ x, (orderB key l)[0]? = some x ∧ x ∈ l := by
  have hol := orderB_length key l
  have h1 : 0 < (orderB key l).length := by omega
  exact ⟨(orderB key l)[0], List.getElem?_eq_getElem h1, (isOrder_orderB key l).1.mem_iff.1 (List.getElem_mem h1)⟩
set_option maxRecDepth 100000 in
set_option maxHeartbeats 6000000 in
theorem ords_good (ea : Nat → Addr) (A : Option Addr) (c : Nat) (l : List ByteArray) (A2 : Option Addr) (c2 : Nat) (ks : List Nat) (w : World) (hE : ErrsW ea w) (hI : TextsIn w A c l) (hr : Reads w w.heap.size 1 A2 ks.length (keysV ks)) (hU : ∀ k ∈ ks, U64 k) (hL : longH l = false) (hm : ks.length ≤ 60) (hf : orderFault l = none) :
    Calls Tryd.prog 11 #[.slice A l.length c, .slice A2 ks.length c2] w (True1 w) := by
  obtain ⟨hl30, _⟩ := long_no hL
  obtain ⟨h0, hh⟩ := orderFault_none hf
  have HL : Hid (∀ W, Below w.heap.size w W → Calls Tryd.prog 13 #[.slice A l.length c] W (LongIs false W)) :=
    Lib.hid fun W hW => by rw [← hL]; exact longHosts_any A c W.heap.size l W (hI.below hW).r hI.lm hI.s
  have HW := Lib.hid (rivals_any ea w hE.errsR)
  have HGr : Hid (∀ W A' c' A2' c2', Below w.heap.size w W → TextsIn W A' c' l → Reads W W.heap.size 1 A2' ks.length (keysV ks) → Calls Tryd.prog 56 #[.slice A' l.length c', .slice A2' ks.length c2'] W (GroupsGood l ks W)) := Lib.hid fun W A' c' A2' c2' hW hT hR => groups_good ea A' c' l A2' c2' ks W (hE.below hW).errsR hT hf hR hU (by omega)
  have HHI := Lib.hid (fun i (h : i < ks.length) x (hx : (orderB ks[i] l)[0]? = some x) => hostIdx_of hx)
  have HGT := Lib.hid (fun i (h : i < ks.length) => grp_get (l := l) h)
  have HCS : Hid (∀ i (h : i < ks.length), hostIdx l ks[i] < l.length → (cntV l (ks.take i)).toArray.setIfInBounds (hostIdx l ks[i]) (.int .i64 (((grp l (ks.take i) (hostIdx l ks[i])).length : Int) + 1)) = (cntV l (ks.take (i + 1))).toArray) := Lib.hid fun i h h2 => by
    rw [List.take_succ_eq_append_getElem h]
    exact cntV_set h2 rfl
  have HCE : Hid (cntV l (ks.take ks.length) = cntV l ks) := Lib.hid (by rw [List.take_length])
  have HGL : Hid (∀ i j, (grp l (ks.take i) j).length ≤ 60) := Lib.hid fun i j => Nat.le_trans (grp_len _ _ _) (by rw [List.length_take]; omega)
  have HO : Hid (∀ i (h : i < ks.length) W A' c', Below w.heap.size w W → TextsIn W A' c' l → Calls Tryd.prog 19 #[.slice A' l.length c', .int .u64 (ks[i] : Int)] W (OrdGood (orderB ks[i] l) W)) := Lib.hid fun i h W A' c' hW hT => by
    have := order_any ea A' c' l ks[i] W (hE.below hW).errsR hT (hU _ (List.getElem_mem h))
    unfold OrderPost at this
    rw [hf] at this
    have hol := orderB_length ks[i] l
    exact this.mono fun e w' ⟨g, cap, he, ho, hb⟩ => ⟨g, cap, by rw [hol]; exact he, by rw [hol]; exact Reads.of_own ho, hb⟩
  have HH : Hid (∀ i (h : i < ks.length) x W A' c', (orderB ks[i] l)[0]? = some x → Below w.heap.size w W → TextsIn W A' c' l → Calls Tryd.prog 21 #[.slice A' l.length c', .int .u64 (ks[i] : Int)] W (HostGood x W)) := Lib.hid fun i h x W A' c' hx hW hT => by
    have := rhost_any ea A' c' l ks[i] W (hE.below hW).errsR hT (hU _ (List.getElem_mem h))
    unfold RHostPost at this
    rw [hf] at this
    refine this.mono fun e w' ⟨y, hy, hg⟩ => ?_
    rw [hx] at hy
    rw [Option.some.inj hy]; exact hg
  have HWA : Hid (∀ i (h : i < ks.length) x W, (orderB ks[i] l)[0]? = some x → Below w.heap.size w W → Calls Tryd.prog 58 #[.slice A l.length c, .int .u64 (ks[i] : Int)] W (WantGood (orderB ks[i] l) x W)) := Lib.hid fun i h x W hx hW =>
    (orderOf_any A c l ks[i] W (hI.below hW).r hl30 hI.s (hU _ (List.getElem_mem h))).mono fun e w' h => wantGood_of h hx
  have HSC : Hid (∀ i (h : i < ks.length) x, x ∈ l → (∀ W, Calls Tryd.prog 59 #[.string x, .int .u64 (ks[i] : Int)] W (NumIs (score x ks[i]) W)) ∧ ∀ W, Calls Tryd.prog 60 #[.string x, .int .u64 (ks[i] : Int)] W (NumIs (score x ks[i]) W)) := Lib.hid fun i h x hx =>
    ⟨fun W => score_any x ks[i] W (hI.s x hx) (hU _ (List.getElem_mem h)), fun W => scoreOf_any x ks[i] W (hI.s x hx) (hU _ (List.getElem_mem h))⟩
  unfold NumIs at HSC
  have HX : Hid (∀ x W, Below w.heap.size w W → Calls Tryd.prog 61 #[.slice A l.length c, .string x] W (IdxPost l x W)) := Lib.hid fun x W hW => index_any A c W.heap.size l x W (hI.below hW).r hI.lm
  have HF1 := Lib.hid (fun i (h : i < ks.length) => first_of ks[i] h0)
  have HT : Hid (∀ W, Below w.heap.size w W → Calls Tryd.prog 15 #[.slice A l.length c] W fun e w' => ∃ A' c', e = .returned (.slice A' l.length c') ∧ TextsIn w' A' c' l ∧ Below W.heap.size W w') := Lib.hid fun W hW =>
    (ownTexts_any A l.length c W.heap.size (strV l) W (hI.below hW).r str_one (by omega)).mono fun e w' ⟨A', c', he, ho, hb⟩ => ⟨A', c', he, ⟨Reads.of_own ho, own_ncap2 ho, hI.lm, hI.s⟩, hb⟩
  have HK : Hid (∀ W, Below w.heap.size w W → Calls Tryd.prog 42 #[.slice A2 ks.length c2] W (OwnPost 35 ks.length (keysV ks) W)) := Lib.hid fun W hW =>
    ownKeys_any A2 ks.length c2 W.heap.size (keysV ks) W ((hr.below hW).more hW.size) keys_one (by omega)
  unfold OwnPost at HK
  have HS : Hid (∀ W, Below w.heap.size w W → Calls Tryd.prog 57 #[.slice A l.length c] W fun e w' => e = .returned (.agg #[.int .i64 0, .int .i64 (-1)]) ∧ Below W.heap.size W w') := Lib.hid fun W hW => by
    have := someFault_ref A c W.heap.size l W (hI.below hW).r (Nat.le_refl _) hI.lm hI.s
    rw [show someFault l = orderFault l from rfl, hf] at this
    exact this
  have HKA : Hid (∀ i (h : i < ks.length), ∃ ad, A2 = some ad ∧ KeyAt2 ad i ks[i] w) := Lib.hid fun i h => keyAt2_of hr h
  have hmk := make_counts l.length (by omega)
  have u1 : decide ((ks.length : Int) > 60) = false := by simp; omega
  have u2 : decide ((ks.length : Int) > 600) = false := by simp; omega
  have u3 : decide ((ks.length : Int) > 500) = false := by simp; omega
  have hl0 : ¬ l = [] := fun e => by simp [e] at h0
  have h01 : (0 : Int) < l.length := by omega
  clear hE hI hr hU hL hf
  go_enter Tryd.func11, Tryd.ntmps11
  go_wp2_with fail
  refine HW.out.mono ?_
  rintro e w1 ⟨rfl, hb1⟩
  go_upto_region 2 with fail
  go_cut [41] (fun s41 wx => s41 = .bool false ∧ wx = w1)
  case first =>
    go_wp2_with fail
    refine (HL.out _ hb1).mono ?_
    rintro e w2 ⟨rfl, rfl⟩
    go_wp2_with fail
    go_meet
    exact ⟨rfl, rfl⟩
  case rest =>
  obtain ⟨rfl, rfl⟩ := hcut
  go_wp2_with fail
  refine (HT.out _ hb1).mono ?_
  rintro e w2 ⟨A3, c3, rfl, hT2, hb2⟩
  have hb12 := below_two hb1 hb2
  go_wp2_with fail
  refine (HK.out _ hb12).mono ?_
  rintro e w3 ⟨A4, c4, rfl, hk3, hb3⟩
  have hb13 := below_two hb12 hb3
  have HK3 := Lib.hid (Reads.of_own hk3)
  clear hk3
  have hT3 := hT2.below hb3
  go_wp2_with fail
  refine (HGr.out _ _ _ _ _ hb13 hT3 HK3.out).mono ?_
  rintro e w4 ⟨g0, rfl, hGI, hb4⟩
  have hb14 := below_two hb13 hb4
  clear hT2 hT3
  go_wp2_with fail
  refine (HS.out _ hb14).mono ?_
  rintro e w5 ⟨rfl, hb5⟩
  have hb15 := below_two hb14 hb5
  have hGI5 := hGI.below hb5
  go_wp2_with fail
  have hb6 := (hb15.alloc hb15.size (.cells #[.int .i64 0, .int .i64 (-1)] 47)).alloc (by simp; have := hb15.size; omega) (.cells #[.int .i64 0, .int .i64 (-1)] 47)
  go_wp2_with fail
  have hB0 := Blk.new ((w5.alloc (.cells #[.int .i64 0, .int .i64 (-1)] 47)).alloc (.cells #[.int .i64 0, .int .i64 (-1)] 47)) 3 (numsV (countsL l.length [])).toArray
  have hb70 : Below ((w5.alloc (.cells #[.int .i64 0, .int .i64 (-1)] 47)).alloc (.cells #[.int .i64 0, .int .i64 (-1)] 47)).heap.size ((w5.alloc (.cells #[.int .i64 0, .int .i64 (-1)] 47)).alloc (.cells #[.int .i64 0, .int .i64 (-1)] 47)) (((w5.alloc (.cells #[.int .i64 0, .int .i64 (-1)] 47)).alloc (.cells #[.int .i64 0, .int .i64 (-1)] 47)).alloc (.cells (numsV (countsL l.length [])).toArray 3)) := (Below.refl _ _).alloc (Nat.le_refl _) _
  have hBf := (Blk.new w5 47 #[.int .i64 0, .int .i64 (-1)]).alloc (.cells #[.int .i64 0, .int .i64 (-1)] 47)
  have hBh := Blk.new (w5.alloc (.cells #[.int .i64 0, .int .i64 (-1)] 47)) 47 #[.int .i64 0, .int .i64 (-1)]
  rw [show (w5.alloc (.cells #[.int .i64 0, .int .i64 (-1)] 47)).heap.size = w5.heap.size + 1 by simp] at hBh
  have hs0 : ((w5.alloc (.cells #[.int .i64 0, .int .i64 (-1)] 47)).alloc (.cells #[.int .i64 0, .int .i64 (-1)] 47)).heap.size = w5.heap.size + 1 + 1 := by simp
  have hGI6 : GrpIs g0 l.length (grp l ks) ((w5.alloc (.cells #[.int .i64 0, .int .i64 (-1)] 47)).alloc (.cells #[.int .i64 0, .int .i64 (-1)] 47)) := hGI5.below (((Below.refl _ _).alloc (Nat.le_refl _) _).alloc (by simp) _)
  clear hmk hGI hGI5
  generalize (w5.alloc (.cells #[.int .i64 0, .int .i64 (-1)] 47)).alloc (.cells #[.int .i64 0, .int .i64 (-1)] 47) = W0 at *
  have hbW := hb6
  rw [hs0] at hB0
  have hgW : W0.heap.size ≤ w5.heap.size + 1 + 1 := by omega
  have HBf : Hid (∀ W, Below W0.heap.size W0 W → W.cell? ⟨w5.heap.size, 0, none⟩ = some (.int .i64 0) ∧ W.cell? ⟨w5.heap.size, 1, none⟩ = some (.int .i64 (-1))) := Lib.hid fun W hW => ⟨(hBf.below hW hBf.lt).cell 0, (hBf.below hW hBf.lt).cell 1⟩
  have HBh : Hid (∀ W, Below W0.heap.size W0 W → W.cell? ⟨w5.heap.size + 1, 0, none⟩ = some (.int .i64 0) ∧ W.cell? ⟨w5.heap.size + 1, 1, none⟩ = some (.int .i64 (-1))) := Lib.hid fun W hW => ⟨(hBh.below hW hBh.lt).cell 0, (hBh.below hW hBh.lt).cell 1⟩
  have HGI := Lib.hid (fun W (hW : Below W0.heap.size W0 W) => hGI6.below hW)
  have hB1 : Blk (W0.alloc (.cells (numsV (countsL l.length [])).toArray 3)) (w5.heap.size + 1 + 1) 3 (cntV l (ks.take 0)).toArray := by
    rw [List.take_zero]; exact hB0
  have HB1 := Lib.hid hB1
  clear hBf hBh hs0 hGI6 hB0 hB1
  generalize w5.heap.size = gf at *
  go_loopg [11] ks.length (fun g iv wr => ∃ i : Nat, g + i = ks.length ∧ iv = .int .i64 (i : Int) ∧ Hid (Blk wr (gf + 1 + 1) 3 (cntV l (ks.take i)).toArray) ∧ Below W0.heap.size W0 wr)
  case atStart => exact ⟨0, by omega, rfl, HB1, hb70⟩
  case round =>
    obtain ⟨i, hgi, rfl, hBa, hb⟩ := hrel
    have hbr := below_two hbW hb
    by_cases hlt : i < ks.length
    · have hik : i < ks.length := by omega
      have hlt1 : (i : Int) < ks.length := by omega
      have hlt2 : (i : Int) < 60 := by omega
      obtain ⟨ad, rfl, hck⟩ := HKA.out i hik
      have ck := hck wr hbr
      have HCK := Lib.hid hck
      obtain ⟨x, hx, hxl⟩ := HF1.out i hik
      have HOi := Lib.hid (HO.out i hik)
      have HHi := Lib.hid (fun W A' c' => HH.out i hik x W A' c' hx)
      have HWi := Lib.hid (fun W => HWA.out i hik x W hx)
      obtain ⟨hsc1, hsc2⟩ := HSC.out i hik x hxl
      have HSC1 := Lib.hid hsc1
      have HSC2 := Lib.hid hsc2
      have HOL : Hid ((orderB ks[i] l).length ≤ maxLen) := Lib.hid (by rw [orderB_length]; unfold maxLen; omega)
      have hol1 : (0 : Int) < (orderB ks[i] l).length := by rw [orderB_length]; omega
      have hol0 : 0 < (orderB ks[i] l).length := by rw [orderB_length]; omega
      obtain ⟨hkl, hxi, _⟩ := HHI.out i hik x hx
      have HGTi := Lib.hid (HGT.out i hik)
      have HCSi := Lib.hid (HCS.out i hik)
      have HXi : Hid (∀ W, Below w.heap.size w W → Calls Tryd.prog 61 #[.slice A l.length c, .string x] W fun e w' => e = .returned (.int .i64 (hostIdx l ks[i] : Int)) ∧ W = w') := Lib.hid fun W hW => by
        rw [← hxi]; exact HX.out x W hW
      clear hxi
      clear hx hxl hsc1 hsc2
      generalize ks[i] = key at *
      generalize orderB key l = o at *
      generalize score x key = sc at *
      generalize hostIdx l key = hk at *
      clear hck
      go_wp2_with fail
      go_region_held3 (fun w' => w'.cell? (ad.add i) = some (.int .u64 (key : Int))) (first | exact ck | exact HCK.out _ (below_two hbr (below_undrew hb8)) | exact HCK.out _ (below_two (below_two hbr (below_undrew hb8)) hb9) | go_keep)
        (first
          | (go_at_call 15; refine (HT.out _ (below_drew hbr)).mono ?_; rintro e w8 ⟨A8, c8, rfl, hT8, hb8⟩)
          | (go_at_call 19; refine (HOi.out w8 A8 c8 (below_two hbr (below_undrew hb8)) hT8).mono ?_; rintro e w9 ⟨g9, c9, rfl, hR9, hb9⟩))
      have hbr9 := below_two (below_two hbr (below_undrew hb8)) hb9
      have hbR9 := below_two (below_two hb (below_undrew hb8)) hb9
      have hbq9 : Below wr.heap.size wr w9 := below_two (below_undrew hb8) hb9
      have ck9 := HCK.out _ hbr9
      have HR9 := Lib.hid hR9
      clear hT8 hb8 hb9 hR9
      go_wp2_with fail
      go_region_held3 (fun w' => w'.cell? (ad.add i) = some (.int .u64 (key : Int))) (first | exact ck9 | exact HCK.out _ (below_two hbr9 (below_undrew hb10)) | exact HCK.out _ (below_two (below_two hbr9 (below_undrew hb10)) hb11) | go_keep)
        (first
          | (go_at_call 15; refine (HT.out _ (below_drew hbr9)).mono ?_; rintro e w10 ⟨A10, c10, rfl, hT10, hb10⟩)
          | (go_at_call 21; refine (HHi.out w10 A10 c10 (below_two hbr9 (below_undrew hb10)) hT10).mono ?_; rintro e w11 ⟨rfl, hb11⟩))
      have hbr11 := below_two (below_two hbr9 (below_undrew hb10)) hb11
      have hbR11 := below_two (below_two hbR9 (below_undrew hb10)) hb11
      have hbq11 : Below wr.heap.size wr w11 := below_two (below_two hbq9 (below_undrew hb10)) hb11
      have ck11 := HCK.out _ hbr11
      have HR11 := Lib.hid ((HR9.out.below (below_two (below_undrew hb10) hb11)).more (below_two (below_undrew hb10) hb11).size)
      clear hT10 hb10 hb11
      obtain ⟨k0, k1⟩ := HBf.out _ hbR11
      go_wp2_with fail
      refine (HWi.out _ hbr11).mono ?_
      rintro e w12 ⟨g12, c12, rfl, hR12, hc12, hb12⟩
      have hbr12 := below_two hbr11 hb12
      have hbR12 := below_two hbR11 hb12
      have hbq12 := below_two hbq11 hb12
      have ck12 := HCK.out _ hbr12
      have HR12 := Lib.hid hR12
      have HR12b := Lib.hid ((HR11.out.below hb12).more hb12.size)
      clear hR12 k0 k1
      go_upto_region 24 with fail
      go_cut [178] (fun s178 wx => s178 = .bool false ∧ Below w12.heap.size w12 wx)
      case first =>
        go_region_held3 (fun w' => w'.cell? ⟨g12, 0, none⟩ = some (.string x) ∧ w'.cell? (ad.add i) = some (.int .u64 (key : Int))) (first | exact ⟨hc12, ck12⟩ | go_keep)
          (first
            | (go_at_call 20; refine (sameTexts_yes _ _ _ _ w12.heap.size o w12.drew HR12b.out HR12.out HOL.out).mono ?_; rintro e w13 ⟨rfl, q, rfl⟩)
            | (go_at_call 59; refine (HSC1.out _).mono ?_; rintro e w13 ⟨rfl, rfl⟩)
            | (go_at_call 60; refine (HSC2.out _).mono ?_; rintro e w13 ⟨rfl, rfl⟩))
        go_wp2_with fail
        go_meet
        exact ⟨rfl, below_drewN (Below.refl _ _) _⟩
      case rest =>
      obtain ⟨rfl, hbc⟩ := hcut
      have hbrc := below_two hbr12 hbc
      have hbRc := below_two hbR12 hbc
      have hbqc := below_two hbq12 hbc
      obtain ⟨k0, k1⟩ := HBh.out _ hbRc
      have ckc := HCK.out _ hbrc
      clear hc12 hbc hb12
      go_wp2_with fail
      refine (HXi.out _ hbrc).mono ?_
      rintro e w14 ⟨rfl, rfl⟩
      have hBc := hBa.out.below hbqc hBa.out.lt
      have e0 := hBc.cell hk
      rw [cntV_get _ hkl] at e0
      have ef := hBc.frozen hk
      obtain ⟨_, Ag, cg, e1, hgr⟩ := HGI.out _ hbRc hk hkl
      obtain ⟨hcl, hcg⟩ := List.getElem?_eq_some_iff.1 HGTi.out
      obtain ⟨adg, ug, hAg, _, hug, e2⟩ := hgr.at_ hcl
      subst hAg
      have hug2 : ug = .int .u64 (key : Int) := by
        have h3 := HGTi.out
        simp only [keysV, List.getElem?_map] at hug
        rw [h3] at hug
        simpa using hug.symm
      subst hug2
      have hcl2 : ((grp l (ks.take i) hk).length : Int) < (grp l ks hk).length := by omega
      have d0 : decide ((grp l ks hk).length ≤ (grp l (ks.take i) hk).length) = false := by simp; omega
      have hb2 := hBc.set_ hk (.int .i64 (((grp l (ks.take i) hk).length : Int) + 1))
      rw [HCSi.out hkl] at hb2
      have HB2 := Lib.hid hb2
      have hbS := hbRc.setCell (p := ⟨gf + 1 + 1, hk, none⟩) hgW (.int .i64 (((grp l (ks.take i) hk).length : Int) + 1))
      have hkl2 : (hk : Int) < l.length := by omega
      have hcn := HGL.out i hk
      clear hBc hug hcg hb2 hgr hBa
      generalize (grp l (ks.take i) hk).length = cn at *
      generalize (grp l ks hk).length = gn at *
      go_upto_region 28 with fail
      go_cut [211] (fun s211 wx => s211 = .bool false ∧ ∃ q, wx = wc.drewN q)
      case first =>
        go_quiet (fail)
        go_wp2_with fail
        go_meet
        exact ⟨rfl, _, rfl⟩
      case rest =>
      obtain ⟨rfl, q, rfl⟩ := hcut
      go_wp2_with fail
      go_roundg (ks.length - (i + 1))
      case rel => exact ⟨i + 1, by omega, by go_num, HB2, below_drewN hbS _⟩
      case measure => omega
    · obtain rfl : i = ks.length := by omega
      have hge : ¬ ((ks.length : Int) < ks.length) := by omega
      have HBE := Lib.hid (by have := hBa.out; rwa [HCE.out] at this : Blk wr (gf + 1 + 1) 3 (cntV l ks).toArray)
      obtain ⟨k0, k1⟩ := HBh.out _ hb
      clear hBa
      have HEND := Lib.hid (fun j (hj : j < l.length) => cntV_get ks hj)
      go_wp2_with fail
      go_loopg [18] l.length (fun g kv W => ∃ (k q : Nat), g + k = l.length ∧ kv = .int .i64 (k : Int) ∧ W = wr.drewN q)
      case atStart => exact ⟨0, 0, by omega, rfl, rfl⟩
      case round =>
        obtain ⟨k, q, hgk, rfl, rfl⟩ := hrel
        by_cases hkl : k < l.length
        · have hkl2 : (k : Int) < l.length := by omega
          have e0 := HBE.out.cell k
          rw [HEND.out k hkl] at e0
          obtain ⟨_, Ag, cg, e1, _⟩ := HGI.out _ hb k hkl
          generalize (grp l ks k).length = gn at *
          go_wp2_with fail
          go_quiet (fail)
          go_wp2_with fail
          go_roundg (l.length - (k + 1))
          case rel => exact ⟨k + 1, _, by omega, by go_num, rfl⟩
          case measure => omega
        · obtain rfl : k = l.length := by omega
          have hge2 : ¬ ((l.length : Int) < l.length) := by omega
          go_wp2
          go_ret
          exact ⟨rfl, below_drewN hbr _⟩
set_option maxRecDepth 100000 in
set_option maxHeartbeats 6000000 in
theorem ords_over (ea : Nat → Addr) (A : Option Addr) (c : Nat) (l : List ByteArray) (A2 : Option Addr) (c2 : Nat) (ks : List Nat) (w : World) (hE : ErrsW ea w) (hG : HandleAt w) (hI : TextsIn w A c l) (hr : Reads w w.heap.size 1 A2 ks.length (keysV ks)) (hU : ∀ k ∈ ks, U64 k) (hL : longH l = false) (hm : 500 < ks.length ∧ ks.length ≤ 600) (hf : orderFault l = none) :
    Calls Tryd.prog 11 #[.slice A l.length c, .slice A2 ks.length c2] w (True1 w) := by
  obtain ⟨hl30, _⟩ := long_no hL
  obtain ⟨h0, hh⟩ := orderFault_none hf
  have HL : Hid (∀ W, Below w.heap.size w W → Calls Tryd.prog 13 #[.slice A l.length c] W (LongIs false W)) :=
    Lib.hid fun W hW => by rw [← hL]; exact longHosts_any A c W.heap.size l W (hI.below hW).r hI.lm hI.s
  have HW := Lib.hid (rivals_any ea w hE.errsR)
  have HGr : Hid (∀ W A' c' A2' c2', Below w.heap.size w W → TextsIn W A' c' l → Calls Tryd.prog 56 #[.slice A' l.length c', .slice A2' ks.length c2'] W (SortedBad ea ⟨2, none⟩ W)) := Lib.hid fun W A' c' A2' c2' hW hT => groups_many ea A' c' l A2' ks.length c2' W (hE.below hW).errsR hT h0 hh (by omega)
  have HO : Hid (∀ i (h : i < ks.length) W A' c', Below w.heap.size w W → TextsIn W A' c' l → Calls Tryd.prog 19 #[.slice A' l.length c', .int .u64 (ks[i] : Int)] W (OrdGood (orderB ks[i] l) W)) := Lib.hid fun i h W A' c' hW hT => by
    have := order_any ea A' c' l ks[i] W (hE.below hW).errsR hT (hU _ (List.getElem_mem h))
    unfold OrderPost at this
    rw [hf] at this
    have hol := orderB_length ks[i] l
    exact this.mono fun e w' ⟨g, cap, he, ho, hb⟩ => ⟨g, cap, by rw [hol]; exact he, by rw [hol]; exact Reads.of_own ho, hb⟩
  have HH : Hid (∀ i (h : i < ks.length) x W A' c', (orderB ks[i] l)[0]? = some x → Below w.heap.size w W → TextsIn W A' c' l → Calls Tryd.prog 21 #[.slice A' l.length c', .int .u64 (ks[i] : Int)] W (HostGood x W)) := Lib.hid fun i h x W A' c' hx hW hT => by
    have := rhost_any ea A' c' l ks[i] W (hE.below hW).errsR hT (hU _ (List.getElem_mem h))
    unfold RHostPost at this
    rw [hf] at this
    refine this.mono fun e w' ⟨y, hy, hg⟩ => ?_
    rw [hx] at hy
    rw [Option.some.inj hy]; exact hg
  have HWA : Hid (∀ i (h : i < ks.length) x W, (orderB ks[i] l)[0]? = some x → Below w.heap.size w W → Calls Tryd.prog 58 #[.slice A l.length c, .int .u64 (ks[i] : Int)] W (WantGood (orderB ks[i] l) x W)) := Lib.hid fun i h x W hx hW =>
    (orderOf_any A c l ks[i] W (hI.below hW).r hl30 hI.s (hU _ (List.getElem_mem h))).mono fun e w' h => wantGood_of h hx
  have HSC : Hid (∀ i (h : i < ks.length) x, x ∈ l → (∀ W, Calls Tryd.prog 59 #[.string x, .int .u64 (ks[i] : Int)] W (NumIs (score x ks[i]) W)) ∧ ∀ W, Calls Tryd.prog 60 #[.string x, .int .u64 (ks[i] : Int)] W (NumIs (score x ks[i]) W)) := Lib.hid fun i h x hx =>
    ⟨fun W => score_any x ks[i] W (hI.s x hx) (hU _ (List.getElem_mem h)), fun W => scoreOf_any x ks[i] W (hI.s x hx) (hU _ (List.getElem_mem h))⟩
  unfold NumIs at HSC
  have HX : Hid (∀ x W, Below w.heap.size w W → Calls Tryd.prog 61 #[.slice A l.length c, .string x] W (IdxPost l x W)) := Lib.hid fun x W hW => index_any A c W.heap.size l x W (hI.below hW).r hI.lm
  have HF1 := Lib.hid (fun i (h : i < ks.length) => first_of ks[i] h0)
  have HT : Hid (∀ W, Below w.heap.size w W → Calls Tryd.prog 15 #[.slice A l.length c] W fun e w' => ∃ A' c', e = .returned (.slice A' l.length c') ∧ TextsIn w' A' c' l ∧ Below W.heap.size W w') := Lib.hid fun W hW =>
    (ownTexts_any A l.length c W.heap.size (strV l) W (hI.below hW).r str_one (by omega)).mono fun e w' ⟨A', c', he, ho, hb⟩ => ⟨A', c', he, ⟨Reads.of_own ho, own_ncap2 ho, hI.lm, hI.s⟩, hb⟩
  have HK : Hid (∀ W, Below w.heap.size w W → Calls Tryd.prog 42 #[.slice A2 ks.length c2] W (OwnPost 35 ks.length (keysV ks) W)) := Lib.hid fun W hW =>
    ownKeys_any A2 ks.length c2 W.heap.size (keysV ks) W ((hr.below hW).more hW.size) keys_one (by omega)
  unfold OwnPost at HK
  have HS : Hid (∀ W, Below w.heap.size w W → Calls Tryd.prog 57 #[.slice A l.length c] W fun e w' => e = .returned (.agg #[.int .i64 0, .int .i64 (-1)]) ∧ Below W.heap.size W w') := Lib.hid fun W hW => by
    have := someFault_ref A c W.heap.size l W (hI.below hW).r (Nat.le_refl _) hI.lm hI.s
    rw [show someFault l = orderFault l from rfl, hf] at this
    exact this
  have HFA : Hid (∀ W t a, Below w.heap.size w W → IsErr ea W ⟨2, none⟩ t a → Calls Tryd.prog 30 #[.iface t (.pointer (some a)), .agg #[.int .i64 2, .int .i64 (-1)]] W (Yeslaw1 W)) := Lib.hid fun W t a hW hI => faultedlaw1_some (f := ⟨2, none⟩) (hE.below hW) (hG.below hW) (by show 1 ≤ 2; omega) (by show 2 ≤ 9; omega) hI
  have HKA : Hid (∀ i (h : i < ks.length), ∃ ad, A2 = some ad ∧ KeyAt2 ad i ks[i] w) := Lib.hid fun i h => keyAt2_of hr h
  have hmk := make_counts l.length (by omega)
  have u1 : decide ((ks.length : Int) > 60) = true := by simp; omega
  have u4 : decide ((ks.length : Int) ≤ 500) = false := by simp; omega
  have u2 : decide ((ks.length : Int) > 600) = false := by simp; omega
  have u3 : decide ((ks.length : Int) > 500) = true := by simp; omega
  have hl0 : ¬ l = [] := fun e => by simp [e] at h0
  have h01 : (0 : Int) < l.length := by omega
  clear hE hG hI hr hU hL hf
  go_enter Tryd.func11, Tryd.ntmps11
  go_wp2_with fail
  refine HW.out.mono ?_
  rintro e w1 ⟨rfl, hb1⟩
  go_upto_region 2 with fail
  go_cut [41] (fun s41 wx => s41 = .bool false ∧ wx = w1)
  case first =>
    go_wp2_with fail
    refine (HL.out _ hb1).mono ?_
    rintro e w2 ⟨rfl, rfl⟩
    go_wp2_with fail
    go_meet
    exact ⟨rfl, rfl⟩
  case rest =>
  obtain ⟨rfl, rfl⟩ := hcut
  go_wp2_with fail
  refine (HT.out _ hb1).mono ?_
  rintro e w2 ⟨A3, c3, rfl, hT2, hb2⟩
  have hb12 := below_two hb1 hb2
  go_wp2_with fail
  refine (HK.out _ hb12).mono ?_
  rintro e w3 ⟨A4, c4, rfl, hk3, hb3⟩
  have hb13 := below_two hb12 hb3
  have HK3 := Lib.hid (Reads.of_own hk3)
  clear hk3
  have hT3 := hT2.below hb3
  go_wp2_with fail
  refine (HGr.out _ _ _ _ _ hb13 hT3).mono ?_
  rintro e w4 ⟨t4, a4, rfl, hX4, hb4⟩
  have hb14 := below_two hb13 hb4
  clear hT2 hT3
  go_wp2_with fail
  refine (HS.out _ hb14).mono ?_
  rintro e w5 ⟨rfl, hb5⟩
  have hb15 := below_two hb14 hb5
  have hX5 := hX4.below hb5
  go_wp2_with fail
  have hb6 := (hb15.alloc hb15.size (.cells #[.int .i64 0, .int .i64 (-1)] 47)).alloc (by simp; have := hb15.size; omega) (.cells #[.int .i64 0, .int .i64 (-1)] 47)
  have hBf := (Blk.new w5 47 #[.int .i64 0, .int .i64 (-1)]).alloc (.cells #[.int .i64 0, .int .i64 (-1)] 47)
  have hBh := Blk.new (w5.alloc (.cells #[.int .i64 0, .int .i64 (-1)] 47)) 47 #[.int .i64 0, .int .i64 (-1)]
  rw [show (w5.alloc (.cells #[.int .i64 0, .int .i64 (-1)] 47)).heap.size = w5.heap.size + 1 by simp] at hBh
  have hX6 : IsErr ea ((w5.alloc (.cells #[.int .i64 0, .int .i64 (-1)] 47)).alloc (.cells #[.int .i64 0, .int .i64 (-1)] 47)) ⟨2, none⟩ t4 a4 := hX5.below (((Below.refl _ _).alloc (Nat.le_refl _) _).alloc (by simp) _)
  have hs5 : w.heap.size ≤ w5.heap.size + 1 := by have := hb15.size; omega
  clear hX4 hX5
  generalize (w5.alloc (.cells #[.int .i64 0, .int .i64 (-1)] 47)).alloc (.cells #[.int .i64 0, .int .i64 (-1)] 47) = Wq at *
  generalize w5.heap.size = gf at *
  refine (bare_any _ _).mono ?_
  rintro e w6 ⟨rfl, hb66⟩
  have hb16 := below_two hb6 hb66
  have hBf6 := hBf.below hb66 hBf.lt
  have hBh6 := hBh.below hb66 hBh.lt
  have x0 := hBh6.cell 0
  have x1 := hBh6.cell 1
  have y0 := hBh6.frozen 0
  have y1 := hBh6.frozen 1
  have HBf7 := Lib.hid ((hBf6.far (p := ⟨gf + 1, 0, none⟩) (by simp) (.int .i64 2)).far (p := ⟨gf + 1, 1, none⟩) (by simp) (.int .i64 (-1)))
  have HBh7 := Lib.hid ((hBh6.set_ 0 (.int .i64 2)).set_ 1 (.int .i64 (-1)))
  have hbW := (hb16.setCell (p := ⟨gf + 1, 0, none⟩) hs5 (.int .i64 2)).setCell (p := ⟨gf + 1, 1, none⟩) hs5 (.int .i64 (-1))
  have hX7 := hX6.below hb66
  have HX7 := Lib.hid (HFA.out _ t4 a4 hbW ⟨hX7.1, hX7.2⟩)
  clear hBf6 hBh6 hBf hBh hX6 hX7 hb6 hb16 hb66
  go_wp2_with fail
  refine HX7.out.mono ?_
  generalize (w6.setCell ⟨gf + 1, 0, none⟩ (.int .i64 2)).setCell ⟨gf + 1, 1, none⟩ (.int .i64 (-1)) = W0 at *
  rintro e w7 ⟨rfl, hb7⟩
  have HBf : Hid (∀ W, Below W0.heap.size W0 W → W.cell? ⟨gf, 0, none⟩ = some (.int .i64 0) ∧ W.cell? ⟨gf, 1, none⟩ = some (.int .i64 (-1))) := Lib.hid fun W hW => ⟨(HBf7.out.below hW HBf7.out.lt).cell 0, (HBf7.out.below hW HBf7.out.lt).cell 1⟩
  have HBh : Hid (∀ W, Below W0.heap.size W0 W → W.cell? ⟨gf + 1, 0, none⟩ = some (.int .i64 2) ∧ W.cell? ⟨gf + 1, 1, none⟩ = some (.int .i64 (-1))) := Lib.hid fun W hW => ⟨(HBh7.out.below hW HBh7.out.lt).cell 0, (HBh7.out.below hW HBh7.out.lt).cell 1⟩
  have hb70 := hb7.alloc hb7.size (.cells (numsV (countsL l.length [])).toArray 3)
  clear x0 x1 y0 y1
  go_wp2_with fail
  clear hmk
  go_loopg [11] 60 (fun g iv wr => ∃ i : Nat, g + i = 60 ∧ iv = .int .i64 (i : Int) ∧ Below W0.heap.size W0 wr)
  case atStart => exact ⟨0, by omega, rfl, hb70⟩
  case round =>
    obtain ⟨i, hgi, rfl, hb⟩ := hrel
    have hbr := below_two hbW hb
    by_cases hlt : i < 60
    · have hik : i < ks.length := by omega
      have hlt1 : (i : Int) < ks.length := by omega
      have hlt2 : (i : Int) < 60 := by omega
      obtain ⟨ad, rfl, hck⟩ := HKA.out i hik
      have ck := hck wr hbr
      have HCK := Lib.hid hck
      obtain ⟨x, hx, hxl⟩ := HF1.out i hik
      have HOi := Lib.hid (HO.out i hik)
      have HHi := Lib.hid (fun W A' c' => HH.out i hik x W A' c' hx)
      have HWi := Lib.hid (fun W => HWA.out i hik x W hx)
      obtain ⟨hsc1, hsc2⟩ := HSC.out i hik x hxl
      have HSC1 := Lib.hid hsc1
      have HSC2 := Lib.hid hsc2
      have HOL : Hid ((orderB ks[i] l).length ≤ maxLen) := Lib.hid (by rw [orderB_length]; unfold maxLen; omega)
      have hol1 : (0 : Int) < (orderB ks[i] l).length := by rw [orderB_length]; omega
      have hol0 : 0 < (orderB ks[i] l).length := by rw [orderB_length]; omega
      clear hx hxl hsc1 hsc2
      generalize ks[i] = key at *
      generalize orderB key l = o at *
      generalize score x key = sc at *
      clear hck
      go_wp2_with fail
      go_region_held3 (fun w' => w'.cell? (ad.add i) = some (.int .u64 (key : Int))) (first | exact ck | exact HCK.out _ (below_two hbr (below_undrew hb8)) | exact HCK.out _ (below_two (below_two hbr (below_undrew hb8)) hb9) | go_keep)
        (first
          | (go_at_call 15; refine (HT.out _ (below_drew hbr)).mono ?_; rintro e w8 ⟨A8, c8, rfl, hT8, hb8⟩)
          | (go_at_call 19; refine (HOi.out w8 A8 c8 (below_two hbr (below_undrew hb8)) hT8).mono ?_; rintro e w9 ⟨g9, c9, rfl, hR9, hb9⟩))
      have hbr9 := below_two (below_two hbr (below_undrew hb8)) hb9
      have hbR9 := below_two (below_two hb (below_undrew hb8)) hb9
      have hbq9 : Below wr.heap.size wr w9 := below_two (below_undrew hb8) hb9
      have ck9 := HCK.out _ hbr9
      have HR9 := Lib.hid hR9
      clear hT8 hb8 hb9 hR9
      go_wp2_with fail
      go_region_held3 (fun w' => w'.cell? (ad.add i) = some (.int .u64 (key : Int))) (first | exact ck9 | exact HCK.out _ (below_two hbr9 (below_undrew hb10)) | exact HCK.out _ (below_two (below_two hbr9 (below_undrew hb10)) hb11) | go_keep)
        (first
          | (go_at_call 15; refine (HT.out _ (below_drew hbr9)).mono ?_; rintro e w10 ⟨A10, c10, rfl, hT10, hb10⟩)
          | (go_at_call 21; refine (HHi.out w10 A10 c10 (below_two hbr9 (below_undrew hb10)) hT10).mono ?_; rintro e w11 ⟨rfl, hb11⟩))
      have hbr11 := below_two (below_two hbr9 (below_undrew hb10)) hb11
      have hbR11 := below_two (below_two hbR9 (below_undrew hb10)) hb11
      have hbq11 : Below wr.heap.size wr w11 := below_two (below_two hbq9 (below_undrew hb10)) hb11
      have ck11 := HCK.out _ hbr11
      have HR11 := Lib.hid ((HR9.out.below (below_two (below_undrew hb10) hb11)).more (below_two (below_undrew hb10) hb11).size)
      clear hT10 hb10 hb11
      obtain ⟨k0, k1⟩ := HBf.out _ hbR11
      go_wp2_with fail
      refine (HWi.out _ hbr11).mono ?_
      rintro e w12 ⟨g12, c12, rfl, hR12, hc12, hb12⟩
      have hbr12 := below_two hbr11 hb12
      have hbR12 := below_two hbR11 hb12
      have hbq12 := below_two hbq11 hb12
      have ck12 := HCK.out _ hbr12
      have HR12 := Lib.hid hR12
      have HR12b := Lib.hid ((HR11.out.below hb12).more hb12.size)
      clear hR12 k0 k1
      go_upto_region 24 with fail
      go_cut [178] (fun s178 wx => s178 = .bool false ∧ Below w12.heap.size w12 wx)
      case first =>
        go_region_held3 (fun w' => w'.cell? ⟨g12, 0, none⟩ = some (.string x) ∧ w'.cell? (ad.add i) = some (.int .u64 (key : Int))) (first | exact ⟨hc12, ck12⟩ | go_keep)
          (first
            | (go_at_call 20; refine (sameTexts_yes _ _ _ _ w12.heap.size o w12.drew HR12b.out HR12.out HOL.out).mono ?_; rintro e w13 ⟨rfl, q, rfl⟩)
            | (go_at_call 59; refine (HSC1.out _).mono ?_; rintro e w13 ⟨rfl, rfl⟩)
            | (go_at_call 60; refine (HSC2.out _).mono ?_; rintro e w13 ⟨rfl, rfl⟩))
        go_wp2_with fail
        go_meet
        exact ⟨rfl, below_drewN (Below.refl _ _) _⟩
      case rest =>
      obtain ⟨rfl, hbc⟩ := hcut
      have hbrc := below_two hbr12 hbc
      have hbRc := below_two hbR12 hbc
      have hbqc := below_two hbq12 hbc
      obtain ⟨k0, k1⟩ := HBh.out _ hbRc
      have ckc := HCK.out _ hbrc
      clear hc12 hbc hb12
      go_wp2_with fail
      go_roundg (60 - (i + 1))
      case rel => exact ⟨i + 1, by omega, by go_num, hbRc⟩
      case measure => omega
    · obtain rfl : i = 60 := by omega
      have hlt1 : ((60 : Nat) : Int) < ks.length := by omega
      obtain ⟨k0, k1⟩ := HBh.out _ hb
      go_wp2_with fail
      go_loopg [18] l.length (fun g kv W => kv = .int .i64 0 ∧ W = wr)
      case atStart => exact ⟨rfl, rfl⟩
      case round =>
        obtain ⟨rfl, rfl⟩ := hrel
        go_wp2
        go_ret
        exact ⟨rfl, hbr⟩
theorem rivalOrders_args (ea : Nat → Addr) (A : Option Addr) (c : Nat) (l : List ByteArray) (A2 : Option Addr) (c2 : Nat) (l2 : List Int) (w : World) (hE : ErrsW ea w) (hG : HandleAt w) (R0 : Reads w w.heap.size 1 A l.length (l.map Value.string)) (lc0 : l.length ≤ c) (cm0 : c ≤ maxLen) (wf0 : ∀ s ∈ l, s.size ≤ maxLen)
    (R2 : Reads w w.heap.size 1 A2 l2.length (l2.map (Value.int .u64))) (wf2 : ∀ n ∈ l2, (Lit.int .u64 n).wf = true) :
    Calls Tryd.prog 11 #[.slice A l.length c, .slice A2 l2.length c2] w (True1 w) := by
  obtain ⟨ks, he, hr, hu⟩ := keys_arg R2 wf2
  rw [he]
  have hI : TextsIn w A c l := ⟨R0, lc0, Nat.le_trans lc0 cm0, wf0⟩
  by_cases h : longH l = true ∨ (60 < ks.length ∧ ks.length ≤ 500) ∨ 600 < ks.length
  · exact ords_skip ea A c l A2 ks.length c2 w hE.errsR hI h
  · simp only [not_or, Bool.not_eq_true] at h
    obtain ⟨hL, h2, h3⟩ := h
    cases hf : orderFault l with
    | some f =>
      obtain ⟨h1, h9⟩ := someFault_code (show someFault l = some f from hf)
      exact ords_bad ea A c l A2 c2 ks f w hE hG hI hr hu hL (by omega) hf h1 h9
    | none =>
      rcases Nat.lt_or_ge 60 ks.length with h4 | h4
      · exact ords_over ea A c l A2 c2 ks w hE hG hI hr hu hL (by omega) hf
      · exact ords_good ea A c l A2 c2 ks w hE hI hr hu hL h4 hf
end Go.Proofs.YtbbbnnooaaelmaaDoor
