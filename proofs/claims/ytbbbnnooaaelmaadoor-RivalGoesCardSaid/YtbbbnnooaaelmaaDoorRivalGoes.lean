/-
  The law RivalGoes: its walk.
-/
import Derived.Test.YtbbbnnooaaelmaaDoorRivalHost
import Derived.Test.YtbbbnnooaaelmaaDoorRefFault
namespace Go.Proofs.YtbbbnnooaaelmaaDoor
open Go.RowKit Go.Shelf Go.Sort

theorem rgoes_ways (lg : Bool) (n : Nat) (which : Int) (h : lg = true ∨ which < 0 ∨ (n : Int) ≤ which ∨ n < 2) :
    (lg = true) ∨ (lg = false ∧ decide (which < 0) = true) ∨ (lg = false ∧ decide (which < 0) = false ∧ decide (which ≥ n) = true) ∨ (lg = false ∧ decide (which < 0) = false ∧ decide (which ≥ n) = false ∧ decide ((n : Int) < 2) = true) := by
  cases lg <;> simp only [decide_eq_true_eq, decide_eq_false_iff_not] <;> simp <;> simp at h <;> omega

set_option maxRecDepth 100000 in
set_option maxHeartbeats 2000000 in
theorem rgoes_skip (ea : Nat → Addr) (A : Option Addr) (c : Nat) (l : List ByteArray) (which : Int) (key : Nat) (w : World) (hE : ErrsR ea w) (hI : TextsIn w A c l) (h : longH l = true ∨ which < 0 ∨ (l.length : Int) ≤ which ∨ l.length < 2) :
    Calls Tryd.prog 4 #[.slice A l.length c, .int .i64 which, .int .u64 (key : Int)] w (True1 w) := by
  have hm := hI.lm
  unfold maxLen at hm
  have HL : Hid (∀ W, Below w.heap.size w W → Calls Tryd.prog 13 #[.slice A l.length c] W (LongIs (longH l) W)) :=
    Lib.hid fun W hW => longHosts_any A c W.heap.size l W (hI.below hW).r hI.lm hI.s
  have HW := Lib.hid (rivals_any ea w hE)
  have hways := rgoes_ways (longH l) l.length which h
  generalize longH l = lg at *
  clear hE hI h
  rcases hways with rfl | ⟨rfl, t1⟩ | ⟨rfl, t1, t2⟩ | ⟨rfl, t1, t2, t3⟩
  all_goals
    go_enter Tryd.func4, Tryd.ntmps4
    go_wp2_with fail
    refine HW.out.mono ?_
    rintro e w1 ⟨rfl, hb1⟩
    go_wp2_with fail
    refine (HL.out _ hb1).mono ?_
    rintro e w2 ⟨rfl, rfl⟩
    go_wp2
    go_ret
    exact ⟨rfl, hb1⟩

set_option maxRecDepth 100000 in
set_option maxHeartbeats 2000000 in
theorem rgoes_bad (ea : Nat → Addr) (A : Option Addr) (c : Nat) (l : List ByteArray) (which key : Nat) (f : Flt) (w : World) (hE : ErrsR ea w) (hI : TextsIn w A c l) (hL : longH l = false) (hw : which < l.length) (h2 : 2 ≤ l.length) (hk : U64 key) (hf : orderFault l = some f) :
    Calls Tryd.prog 4 #[.slice A l.length c, .int .i64 (which : Int), .int .u64 (key : Int)] w (True1 w) := by
  obtain ⟨hl30, _⟩ := long_no hL
  have HL : Hid (∀ W, Below w.heap.size w W → Calls Tryd.prog 13 #[.slice A l.length c] W (LongIs false W)) :=
    Lib.hid fun W hW => by rw [← hL]; exact longHosts_any A c W.heap.size l W (hI.below hW).r hI.lm hI.s
  have HW := Lib.hid (rivals_any ea w hE)
  have t1 : decide ((which : Int) < 0) = false := by simp
  have t2 : decide ((which : Int) ≥ l.length) = false := by simp; omega
  have t3 : decide ((l.length : Int) < 2) = false := by simp; omega
  have HO : Hid (∀ W A' c', Below w.heap.size w W → TextsIn W A' c' l → Calls Tryd.prog 19 #[.slice A' l.length c', .int .u64 (key : Int)] W (SortedBad ea f W)) :=
    Lib.hid fun W A' c' hW hT => by
      have := order_any ea A' c' l key W (hE.below hW) hT hk
      unfold OrderPost at this
      rw [hf] at this
      exact this
  have HI := Lib.hid hI
  clear hE hI hf hL
  go_enter Tryd.func4, Tryd.ntmps4
  go_wp2_with fail
  refine HW.out.mono ?_
  rintro e w1 ⟨rfl, hb1⟩
  go_wp2_with fail
  refine (HL.out _ hb1).mono ?_
  rintro e w2 ⟨rfl, rfl⟩
  go_wp2_with fail
  refine (ownTexts_any A l.length c w1.heap.size (strV l) w1 (HI.out.below hb1).r str_one (by omega)).mono ?_
  rintro e w2 ⟨A', c', rfl, ho2, hb2⟩
  have hb12 := below_two hb1 hb2
  have hT2 : TextsIn w2 A' c' l := ⟨Reads.of_own ho2, own_ncap2 ho2, HI.out.lm, HI.out.s⟩
  clear ho2
  go_wp2_with fail
  refine (HO.out _ _ _ hb12 hT2).mono ?_
  rintro e w3 ⟨t, a, rfl, _, hb3⟩
  go_wp2
  go_ret
  exact ⟨rfl, below_two hb12 hb3⟩

/-- The texts of a prefix that are not g. -/
def leftT (o : List ByteArray) (g : ByteArray) (i : Nat) : List ByteArray := (o.take i).filter fun y => decide (y ≠ g)
theorem leftT_miss {o : List ByteArray} {g : ByteArray} {i : Nat} (h : i < o.length) (he : o[i] = g) : leftT o g (i + 1) = leftT o g i := by
  unfold leftT
  rw [List.take_succ_eq_append_getElem h, List.filter_append]; simp [he]
theorem leftT_hit {o : List ByteArray} {g : ByteArray} {i : Nat} (h : i < o.length) (he : ¬ o[i] = g) : leftT o g (i + 1) = leftT o g i ++ [o[i]] := by
  unfold leftT
  rw [List.take_succ_eq_append_getElem h, List.filter_append]; simp [he]
theorem leftT_len (o : List ByteArray) (g : ByteArray) (i : Nat) : (leftT o g i).length ≤ i := by
  unfold leftT
  exact Nat.le_trans (List.length_filter_le _ _) (by rw [List.length_take]; omega)

set_option maxRecDepth 100000 in
set_option maxHeartbeats 4000000 in
theorem rgoes_good (ea : Nat → Addr) (A : Option Addr) (c : Nat) (l : List ByteArray) (k key : Nat) (w : World) (hE : ErrsR ea w) (hI : TextsIn w A c l) (hcm : c ≤ maxLen) (hL : longH l = false) (hw : k < l.length) (h2 : 2 ≤ l.length) (hk : U64 key) (hf : orderFault l = none) :
    Calls Tryd.prog 4 #[.slice A l.length c, .int .i64 (k : Int), .int .u64 (key : Int)] w (True1 w) := by
  obtain ⟨hl30, hsz⟩ := long_no hL
  obtain ⟨i0, hi0, hz0, hz1, hz2⟩ := info_parts info_string
  have HL : Hid (∀ W, Below w.heap.size w W → Calls Tryd.prog 13 #[.slice A l.length c] W (LongIs false W)) :=
    Lib.hid fun W hW => by rw [← hL]; exact longHosts_any A c W.heap.size l W (hI.below hW).r hI.lm hI.s
  have HW := Lib.hid (rivals_any ea w hE)
  have t1 : decide ((k : Int) < 0) = false := by simp
  have t2 : decide ((k : Int) ≥ l.length) = false := by simp; omega
  have t3 : decide ((l.length : Int) < 2) = false := by simp; omega
  obtain ⟨_, hh⟩ := orderFault_none hf
  have hnd := (hostsFault_none.1 hh).2.2
  obtain ⟨m, hm⟩ : ∃ m : List ByteArray, m = l.filter fun y => decide (y ≠ l[k]) := ⟨_, rfl⟩
  have hml : m.length = l.length - 1 := by
    rw [hm, ← erase_filter hnd hw, List.length_append, List.length_take, List.length_drop]; omega
  have hfm : orderFault m = none := orderFault_of (by omega) (by rw [hm]; exact hosts_filter hh _)
  have hmM : m.length ≤ maxLen := by unfold maxLen; omega
  have hms : ∀ s ∈ m, s.size ≤ maxLen := fun s hs => hI.s s (by rw [hm] at hs; exact (List.mem_filter.1 hs).1)
  have HO : Hid (∀ W A' c', Below w.heap.size w W → TextsIn W A' c' l → Calls Tryd.prog 19 #[.slice A' l.length c', .int .u64 (key : Int)] W fun e w' => ∃ g cap, e = .returned (.tuple #[.slice (some ⟨g, 0, none⟩) l.length cap, .nilIface]) ∧ w'.ownsRow W.heap.size 9 1 (.slice (some ⟨g, 0, none⟩) l.length cap) l.length (strV (orderB key l)) ∧ Below W.heap.size W w') :=
    Lib.hid fun W A' c' hW hT => by
      have := order_any ea A' c' l key W (hE.below hW) hT hk
      unfold OrderPost at this
      rw [hf] at this
      exact this
  have HO2 : Hid (∀ W A' c', Below w.heap.size w W → Reads W W.heap.size 1 A' m.length (strV m) → m.length ≤ c' → Calls Tryd.prog 19 #[.slice A' m.length c', .int .u64 (key : Int)] W fun e w' => ∃ g cap, e = .returned (.tuple #[.slice (some ⟨g, 0, none⟩) m.length cap, .nilIface]) ∧ w'.ownsRow W.heap.size 9 1 (.slice (some ⟨g, 0, none⟩) m.length cap) m.length (strV (orderB key m)) ∧ Below W.heap.size W w') :=
    Lib.hid fun W A' c' hW hr hc => by
      have := order_any ea A' c' m key W (hE.below hW) ⟨hr, hc, hmM, hms⟩ hk
      unfold OrderPost at this
      rw [hfm] at this
      exact this
  have hof : orderB key m = (orderB key l).filter fun y => decide (y ≠ l[k]) := by rw [hm]; exact orderB_filter key l _
  have hol := orderB_length key l
  have hom := orderB_length key m
  obtain ⟨ad, hA, hTA⟩ := strAt_of hI.r hw
  subst hA
  have HT := Lib.hid hTA
  have HI := Lib.hid hI
  have hme : strV m = (strV l).take (k * 1) ++ (strV l).drop ((k + 1) * 1) := by
    rw [hm, ← erase_filter hnd hw]; simp [strV, List.map_take, List.map_drop]
  have HR1 : Hid (∀ W, Below w.heap.size w W → Reads W W.heap.size 1 (some ad) k ((strV l).take (k * 1))) := Lib.hid fun W hW => ((hI.below hW).r).take2 (by omega)
  have HO1' := Lib.hid (fun u (hu : u ∈ (strV l).take (k * 1)) => str_one u (List.mem_of_mem_take hu))
  have HO2' := Lib.hid (fun u (hu : u ∈ (strV l).drop ((k + 1) * 1)) => str_one u (List.mem_of_mem_drop hu))
  have HR2 : Hid (∀ W, Below w.heap.size w W → Reads W W.heap.size 1 (if c = k + 1 then some ad else some ⟨ad.block, ad.off + (k + 1), none⟩) (l.length - (k + 1)) ((strV l).drop ((k + 1) * 1))) := Lib.hid fun W hW => by
    have := ((hI.below hW).r).cut (k := k + 1) (by omega) hI.lc
    simpa [Addr.add] using this
  have HME := Lib.hid hme
  have hlc := hI.lc
  have e0 : Hid (m.length = k + (l.length - (k + 1))) := Lib.hid (by omega)
  unfold maxLen at hcm
  have hkl : (k : Int) < l.length := by omega
  have hkc : (k : Int) ≤ c := by omega
  have hk1 : (k : Int) + 1 ≤ l.length := by omega
  have hnc1 : (k : Int) + 1 ≤ c := by omega
  have hk2 : ((k : Int) + 1).toNat = k + 1 := by omega
  generalize l[k] = g at *
  have HOF := Lib.hid hof
  have HOL := Lib.hid hol
  have HOM := Lib.hid hom
  clear hE hI hf hL hfm hm hh hnd hTA hme hsz hml hmM hms hof hol hom
  generalize orderB key m = om at *
  generalize orderB key l = ol at *
  go_enter Tryd.func4, Tryd.ntmps4
  go_wp2_with fail
  refine HW.out.mono ?_
  rintro e w1 ⟨rfl, hb1⟩
  go_wp2_with fail
  refine (HL.out _ hb1).mono ?_
  rintro e w2 ⟨rfl, rfl⟩
  go_wp2_with fail
  refine (ownTexts_any (some ad) l.length c w1.heap.size (strV l) w1 (HI.out.below hb1).r str_one (by omega)).mono ?_
  rintro e w2 ⟨A', c', rfl, ho2, hb2⟩
  have hb12 := below_two hb1 hb2
  have hT2 : TextsIn w2 A' c' l := ⟨Reads.of_own ho2, own_ncap2 ho2, HI.out.lm, HI.out.s⟩
  clear ho2
  go_wp2_with fail
  refine (HO.out _ _ _ hb12 hT2).mono ?_
  rintro e w3 ⟨g3, c3, rfl, ho3, hb3⟩
  have hb13 := below_two hb12 hb3
  have HG : Hid (∀ i (h : i < ol.length) W, Below w3.heap.size w3 W → W.cell? ⟨g3, i, none⟩ = some (.string ol[i])) := Lib.hid fun i h W hW => by
    have h1 := ho3.cellAt i (by have := HOL.out; omega)
    rw [(hW.cell (p := ⟨g3, i, none⟩) (ho3.lt g3 rfl).2), h1]
    simp [strV, h]
  clear ho3 hT2
  go_wp2_with (first
    | (at_builtin
       refine wpList_append_any _ rfl (.tmp 50) (.tmp 53) _ rfl w3.heap.size 9 i0 _ 1 16 Tryd.underlying22 hi0 hz0 hz1 hz2 rfl (by omega) (.slice none 0 0) 0 [] rfl (own_none _ _ _) w3.heap.size (some ad) k c _ rfl (HR1.out _ hb13) HO1'.out (by simp only [maxLen]; omega) (by omega) (Nat.le_refl _) ?_
       intro v1 w4 hown1 hg1 _
       simp only [Nat.zero_add, List.nil_append] at hown1
       have hz4 := hg1.size
       have hb34 := (Below.refl w3.heap.size w3).grown hg1 (Nat.le_refl _) (by simp [Value.ownBlock])
       have hb4 := below_two hb13 hb34
       have HO4 := Lib.hid hown1
       clear hown1 hg1)
    | (at_builtin
       go_must (refine wpList_append_any _ rfl (.tmp 55) (.tmp 59) _ rfl w3.heap.size 9 i0 _ 1 16 Tryd.underlying22 hi0 hz0 hz1 hz2 rfl (by omega) _ k _ rfl HO4.out w4.heap.size _ (l.length - (k + 1)) (c - (k + 1)) _ rfl (HR2.out _ hb4) HO2'.out (by simp only [maxLen]; omega) (by omega) hz4 ?_)
       intro v2 w5 hown2 hg2 _
       rw [← e0.out, ← HME.out] at hown2
       have hb35 := below_app hb34 HO4.out hg2
       have hb5 := below_two hb13 hb35
       obtain ⟨A5, c5, hv5, hr5, hc5, _⟩ := own_slice hown2
       subst hv5
       have HR5 := Lib.hid hr5
       clear hown2 hg2 hr5)
    | fail)
  all_goals
    refine (HO2.out _ _ _ hb5 HR5.out hc5).mono ?_
    rintro e w6 ⟨g6, c6, rfl, ho6, hb6⟩
    have hb56 := below_two hb5 hb6
    have HA6 := Lib.hid (Reads.of_own ho6)
    have hb36 := below_two hb35 hb6
    clear ho6 hc5 hb35 hb34 hb4 hb5 hb6 hz4 HR5
    have hol : ol.length = l.length := HOL.out
    go_wp2_with fail
    go_loopw [12, 13] (fun lv iv wr => ∃ i : Nat, i ≤ l.length ∧ iv = .int .i64 (i : Int) ∧ wr.ownsRow w6.heap.size 9 1 lv (leftT ol g i).length (strV (leftT ol g i)) ∧ Below w6.heap.size w6 wr) (fun _ iv _ => l.length - (intOf iv).toNat)
    case atStart => exact ⟨0, Nat.zero_le _, rfl, by simp [leftT, strV, own_none], Below.refl _ _⟩
    case round =>
      obtain ⟨i, hi, rfl, hown, hb⟩ := hrel
      obtain ⟨Al, cl, hlv, hrl, _, _⟩ := own_slice hown
      subst hlv
      by_cases hlt : i < l.length
      · have hlt2 : (i : Int) < l.length := by omega
        have hlo : i < ol.length := by omega
        have hc3 := HG.out i hlo wr (below_two hb36 hb)
        have hcg := HT.out wr (below_two hb56 hb)
        have hll := leftT_len ol g i
        by_cases he : ol[i] = g
        · have HL2 : Hid (leftT ol g (i + 1) = leftT ol g i) := Lib.hid (leftT_miss hlo he)
          rw [he] at hc3
          have q1 : (g.toList == g.toList) = true := by simp
          have q2 : (g.toList != g.toList) = false := by simp
          clear he
          generalize leftT ol g i = lt at *
          go_wp2
          go_quiet (fail)
          go_wp2
          go_roundw
          case rel => exact ⟨i + 1, by omega, by go_num, by rw [HL2.out]; exact hown, below_drewN hb _⟩
          case measure => simp [intOf]; omega
        · have HL2 : Hid (leftT ol g (i + 1) = leftT ol g i ++ [ol[i]]) := Lib.hid (leftT_hit hlo he)
          have q1 : (ol[i].toList == g.toList) = false := by rw [str_eq]; simpa using he
          have q2 : (ol[i].toList != g.toList) = true := by rw [bne, q1]; rfl
          clear he
          generalize ol[i] = x at *
          generalize leftT ol g i = lt at *
          go_wp2
          go_quiet (fail)
          have hb2 := below_drewN hb nq
          have hown2 : (wr.drewN nq).ownsRow w6.heap.size 9 1 (.slice Al lt.length cl) lt.length (strV lt) := hown
          have hc4 : (wr.drewN nq).cell? ⟨g3, i, none⟩ = some (.string x) := hc3
          generalize wr.drewN nq = wd at *
          go_wp2_with (at_builtin
                       go_must (refine wpList_append_own _ rfl _ _ 22 rfl w6.heap.size 9 i0 (.string ⟨#[]⟩) 1 16 Tryd.underlying22 hi0 hz0 hz1 hz2 rfl (by decide) _ _ _ rfl (hown2.alloc _) ⟨wd.heap.size, 0, none⟩ 1 1 [.string x] rfl rfl (cell_one_new _ _ _) (by simp [Value.oneCell']) (by simp only [maxLen]; omega) (by omega) (size_alloc1 hb2) ?_)
                       intro v' w7 hown7 hgrow _)
          have hb7 := below_app1 hb2 hown2 hgrow
          go_roundw
          case rel => exact ⟨i + 1, by omega, by go_num, by rw [HL2.out]; simpa [strV] using hown7, hb7⟩
          case measure => simp [intOf]; omega
      · obtain rfl : i = l.length := by omega
        have HE : Hid (leftT ol g l.length = om) := Lib.hid (by rw [HOF.out]; unfold leftT; rw [← HOL.out, List.take_length])
        have hll := leftT_len ol g l.length
        generalize leftT ol g l.length = lt at *
        obtain rfl := HE.out
        have HS : Hid (Calls Tryd.prog 20 #[.slice Al lt.length cl, .slice (some ⟨g6, 0, none⟩) m.length c6] wr (YesQ wr)) := Lib.hid (by
          have h6 := (HA6.out.below hb).more hb.size
          rw [← HOM.out] at h6 ⊢
          exact sameTexts_yes Al (some ⟨g6, 0, none⟩) cl c6 wr.heap.size lt wr hrl h6 (by unfold maxLen; omega))
        have hk1 : ¬ ((l.length : Int) < l.length) := by omega
        clear hown hrl
        go_wp2_with fail
        refine HS.out.mono ?_
        rintro e w7 ⟨rfl, q, rfl⟩
        go_wp2
        go_ret
        exact ⟨rfl, below_drewN (below_two hb56 hb) q⟩
theorem rivalGoes_args (ea : Nat → Addr) (A : Option Addr) (c : Nat) (l : List ByteArray) (which : Int) (key : Nat) (w : World) (hE : ErrsR ea w) (R0 : Reads w w.heap.size 1 A l.length (l.map Value.string)) (lc0 : l.length ≤ c) (cm0 : c ≤ maxLen) (wf0 : ∀ s ∈ l, s.size ≤ maxLen) (hk : U64 key) :
    Calls Tryd.prog 4 #[.slice A l.length c, .int .i64 which, .int .u64 (key : Int)] w (True1 w) := by
  have hI : TextsIn w A c l := ⟨R0, lc0, Nat.le_trans lc0 cm0, wf0⟩
  by_cases hs : longH l = true ∨ which < 0 ∨ (l.length : Int) ≤ which ∨ l.length < 2
  · exact rgoes_skip ea A c l which key w hE hI hs
  simp only [not_or, Bool.not_eq_true] at hs
  obtain ⟨hL, h1, h2, h3⟩ := hs
  obtain ⟨k, rfl⟩ := Int.eq_ofNat_of_zero_le (by omega : 0 ≤ which)
  cases hf : orderFault l with
  | some f => exact rgoes_bad ea A c l k key f w hE hI hL (by omega) (by omega) hk hf
  | none => exact rgoes_good ea A c l k key w hE hI cm0 hL (by omega) (by omega) hk hf
end Go.Proofs.YtbbbnnooaaelmaaDoor
