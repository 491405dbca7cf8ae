/-
  The law RingGoes: the walk where both rings stand.
-/
import Derived.Test.YtajdokogahlgaaaDoorRingGoes
import Derived.Test.YtajdokogahlgaaaDoorRefActs2
namespace Go.Proofs.YtajdokogahlgaaaDoor
open Go.RowKit Go.Sort

theorem less_fault {l : List ByteArray} {copies : Int} (hn : 2 ≤ l.length) (hf : ringFault l copies = none) {k : Nat} (hk : k < l.length) (m : List ByteArray) (hm : m = l.filter fun y => decide (y ≠ l[k])) : ringFault m copies = none ∧ m.length = l.length - 1 := by
  obtain ⟨h0, ho, h1, h2⟩ := ringFault_none hf
  obtain ⟨a, b, c⟩ := hostsFault_none.1 ho
  have hlen : m.length = l.length - 1 := by
    rw [hm, ← erase_filter c hk, List.length_append, List.length_take, List.length_drop]; omega
  refine ⟨?_, hlen⟩
  have hx : hostsFault m = none := by
    rw [hm]
    exact hostsFault_none.2 ⟨Nat.le_trans (List.length_filter_le _ _) a, fun s hs => b s (List.mem_filter.1 hs).1, c.filter _⟩
  unfold ringFault
  rw [if_neg (by omega), hx]
  simp [h1, h2]
def TextAt (ad : Addr) (k : Nat) (x : ByteArray) (w : World) : Prop := ∀ W, Below w.heap.size w W → W.cell? (ad.add k) = some (.string x)
theorem textAt_of {w : World} {A : Option Addr} {l : List ByteArray} {k : Nat} (h : Reads w w.heap.size 1 A l.length (strV l)) (hk : k < l.length) : ∃ ad, A = some ad ∧ TextAt ad k l[k] w := by
  obtain ⟨ad, u, hA, hb, hx, hc⟩ := h.at_ hk
  refine ⟨ad, hA, fun W hW => ?_⟩
  rw [hW.cell (by rw [block_of_add]; exact hb), hc]
  simp [strV, hk] at hx
  rw [hx]
theorem texts_two {w : World} {b cap : Nat} {A : Option Addr} {x z : ByteArray} (h : w.ownsRow b 9 1 (.slice A [x, z].length cap) [x, z].length (strV [x, z])) :
    ∃ g, A = some ⟨g, 0, none⟩ ∧ w.cell? ⟨g, 0, none⟩ = some (.string x) ∧ w.cell? ⟨g, 1, none⟩ = some (.string z) := by
  obtain ⟨g, cap', hv, _, _⟩ := h.form (by simp)
  have hA : A = some ⟨g, 0, none⟩ := by injection hv
  subst hA
  exact ⟨g, rfl, (h.cellAt 0 (by simp)).trans rfl, (h.cellAt 1 (by simp)).trans rfl⟩
def TwoPost (x z : ByteArray) (w : World) (e : Ending) (w' : World) : Prop := ∃ g cap, e = .returned (.slice (some ⟨g, 0, none⟩) 2 cap) ∧ w'.cell? ⟨g, 0, none⟩ = some (.string x) ∧ w'.cell? ⟨g, 1, none⟩ = some (.string z) ∧ 2 ≤ cap ∧ Below w.heap.size w w'
theorem twoPost_of {x z : ByteArray} {w w' : World} {e : Ending} (h : TextsPost [x, z] w e w') : TwoPost x z w e w' := by
  obtain ⟨A, cap, he, ho, hb⟩ := h
  have hc := own_ncap2 ho
  obtain ⟨g, rfl, a, b⟩ := texts_two ho
  exact ⟨g, cap, he, a, b, hc, hb⟩
def GoesIs (rp1 rp2 : Nat) (keys : List Nat) (g : ByteArray) (w : World) : Prop :=
  ∀ i, i < keys.length → ∃ x y z k, keys[i]? = some k ∧ (((x.toList == g.toList) = true ∧ y = z) ∨ ((x.toList == g.toList) = false ∧ y = x)) ∧ ∀ W, Below w.heap.size w W →
    (Calls Tryd.prog 38 #[.pointer (some ⟨rp1, 0, none⟩), .int .u64 (k : Int)] W (HostPost x W)) ∧
    (Calls Tryd.prog 38 #[.pointer (some ⟨rp2, 0, none⟩), .int .u64 (k : Int)] W (HostPost y W)) ∧
    (Calls Tryd.prog 39 #[.pointer (some ⟨rp1, 0, none⟩), .int .u64 (k : Int), .int .i64 2] W (TwoPost x z W))
theorem goesIs_of {rp1 rp2 cp k : Nat} {l : List ByteArray} {keys : List Nat} {w : World} (hn : 2 ≤ l.length) (hnd : l.Nodup) (hc : 1 ≤ cp) (hk : k < l.length) (hU : ∀ k ∈ keys, U64 k) (h1 : RingIs rp1 l cp w) (h2 : RingIs rp2 (l.filter fun y => decide (y ≠ l[k])) cp w) : GoesIs rp1 rp2 keys l[k] w := by
  intro i hi
  obtain ⟨x, z, a, b, c⟩ := goes_plain keys[i] hn hnd hc l[k]
  have hu := hU _ (List.getElem_mem hi)
  refine ⟨x, if x = l[k] then z else x, z, keys[i], List.getElem?_eq_getElem hi, ?_, fun W hW => ⟨ringIs_host (h1.below hW) hu a, ringIs_host (h2.below hW) hu c, ?_⟩⟩
  · rw [str_eq]
    by_cases hx : x = l[k]
    · exact .inl ⟨by simpa using hx, if_pos hx⟩
    · exact .inr ⟨by simpa using hx, if_neg hx⟩
  · have := ringIs_next 2 (h1.below hW) hu
    rw [b] at this
    exact this.mono fun e w' h => twoPost_of h

set_option maxRecDepth 100000 in
set_option maxHeartbeats 2000000 in
theorem goes_good (ea : Nat → Addr) (A : Option Addr) (c : Nat) (l : List ByteArray) (copies : Nat) (k : Nat) (A3 : Option Addr) (c3 : Nat) (keys : List Nat) (w : World) (hE : ErrsR ea w) (hI : RingIn w A c l A3 keys) (hL : longH l = false) (hw : k < l.length) (h2 : 2 ≤ l.length) (h60 : keys.length ≤ 60) (hf : ringFault l (copies : Int) = none) :
    Calls Tryd.prog 5 #[.slice A l.length c, .int .i64 (copies : Int), .int .i64 (k : Int), .slice A3 keys.length c3] w (True1 w) := by
  obtain ⟨hl30, hsz⟩ := long_no hL
  obtain ⟨i0, hi0, hz0, hz1, hz2⟩ := info_parts info_string
  have HL : Hid (∀ W, Below w.heap.size w W → Calls Tryd.prog 18 #[.slice A l.length c] W (LongIs false W)) :=
    Lib.hid fun W hW => by rw [← hL]; exact longHosts_any A c W.heap.size l W (hI.below hW).r (Nat.le_trans hI.lc hI.cm) hI.s
  have HW := Lib.hid (ringed_any ea w hE)
  have t1 : decide ((k : Int) < 0) = false := by simp
  have t2 : decide ((k : Int) ≥ l.length) = false := by simp; omega
  have t3 : decide ((l.length : Int) < 2) = false := by simp; omega
  have t4 : decide ((keys.length : Int) > 60) = false := by simp; omega
  have HN : Hid (∀ W A' c', Below w.heap.size w W → Reads W W.heap.size 1 A' l.length (strV l) → l.length ≤ c' → Calls Tryd.prog 37 #[.slice A' l.length c', .int .i64 (copies : Int)] W (RingMade l copies W)) :=
    Lib.hid fun W A' c' hW hr hc => ringNew_made ea A' c' W.heap.size l copies W (hE.below hW).e3 hr (Nat.le_refl _) hc (Nat.le_trans hI.lc hI.cm) hI.s hf
  obtain ⟨_, ho, hc1, _⟩ := ringFault_none hf
  have hnd := (hostsFault_none.1 ho).2.2
  obtain ⟨m, hm⟩ : ∃ m : List ByteArray, m = l.filter fun y => decide (y ≠ l[k]) := ⟨_, rfl⟩
  obtain ⟨hfm, hml⟩ := less_fault h2 hf hw m hm
  have hmM : m.length ≤ maxLen := by unfold maxLen; omega
  have hms : ∀ s ∈ m, s.size ≤ maxLen := fun s hs => hI.s s (by rw [hm] at hs; exact (List.mem_filter.1 hs).1)
  have HN2 : Hid (∀ W A' c', Below w.heap.size w W → Reads W W.heap.size 1 A' m.length (strV m) → m.length ≤ c' → Calls Tryd.prog 37 #[.slice A' m.length c', .int .i64 (copies : Int)] W (RingMade m copies W)) :=
    Lib.hid fun W A' c' hW hr hc => ringNew_made ea A' c' W.heap.size m copies W (hE.below hW).e3 hr (Nat.le_refl _) hc hmM hms hfm
  have HG : Hid (∀ rp1 rp2 W, RingIs rp1 l copies W → RingIs rp2 m copies W → GoesIs rp1 rp2 keys l[k] W) :=
    Lib.hid fun rp1 rp2 W a b => goesIs_of h2 hnd (by omega) hw hI.u a (hm ▸ b)
  obtain ⟨ad, hA, hTA⟩ := textAt_of hI.r hw
  subst hA
  have HT := Lib.hid hTA
  have HI := Lib.hid hI
  have hme : strV m = (strV l).take (k * 1) ++ (strV l).drop ((k + 1) * 1) := by
    rw [hm, ← erase_filter hnd hw]; simp [strV, List.map_take, List.map_drop]
  have HR1 : Hid (∀ W, Below w.heap.size w W → Reads W W.heap.size 1 (some ad) k ((strV l).take (k * 1))) := Lib.hid fun W hW => ((hI.below hW).r).take (by omega)
  have HO1 := Lib.hid (fun u (hu : u ∈ (strV l).take (k * 1)) => str_one u (List.mem_of_mem_take hu))
  have HO2 := Lib.hid (fun u (hu : u ∈ (strV l).drop ((k + 1) * 1)) => str_one u (List.mem_of_mem_drop hu))
  have HR2 : Hid (∀ W, Below w.heap.size w W → Reads W W.heap.size 1 (if c = k + 1 then some ad else some ⟨ad.block, ad.off + (k + 1), none⟩) (l.length - (k + 1)) ((strV l).drop ((k + 1) * 1))) := Lib.hid fun W hW => by
    have := ((hI.below hW).r).cut (k := k + 1) (by omega) hI.lc
    simpa [Addr.add] using this
  have HME := Lib.hid hme
  have hlc := hI.lc
  have hcm := hI.cm
  have e0 : Hid (m.length = k + (l.length - (k + 1))) := Lib.hid (by omega)
  unfold maxLen at hcm
  have hkl : (k : Int) < l.length := by omega
  have hkc : (k : Int) ≤ c := by omega
  have hk1 : (k : Int) + 1 ≤ l.length := by omega
  have hnc1 : (k : Int) + 1 ≤ c := by omega
  have hk2 : ((k : Int) + 1).toNat = k + 1 := by omega
  have g1 : l[k]? = some l[k] := List.getElem?_eq_getElem hw
  generalize l[k] = g at *
  clear hE hI hf hL hfm hm ho hc1 hnd hTA hme hsz hml hmM hms
  go_enter Tryd.func5, Tryd.ntmps5
  go_wp2_with fail
  refine HW.out.mono ?_
  rintro e w1 ⟨rfl, hb1⟩
  go_wp2_with fail
  refine (HL.out _ hb1).mono ?_
  rintro e w2 ⟨rfl, rfl⟩
  go_wp2_with fail
  refine (ownTexts_any (some ad) l.length c w1.heap.size (strV l) w1 (HI.out.below hb1).r str_one (by omega)).mono ?_
  rintro e w2 ⟨A', c', rfl, ho2, hb2⟩
  have hb12 := below_two hb1 hb2
  have hr2 := Reads.of_own ho2
  have hnc := own_ncap2 ho2
  go_wp2_with fail
  refine (HN.out _ _ _ hb12 hr2 hnc).mono ?_
  rintro e w3 ⟨rp1, rfl, hR1, hb3⟩
  have hb13 := below_two hb12 hb3
  have HRA := Lib.hid hR1
  clear hr2 hnc hR1
  go_wp2_with (first
    | (at_builtin
       refine wpList_append_any _ rfl (.tmp 58) (.tmp 61) _ rfl w3.heap.size 9 i0 _ 1 16 Tryd.underlying39 hi0 hz0 hz1 hz2 rfl (by omega) (.slice none 0 0) 0 [] rfl (own_none _ _ _) w3.heap.size (some ad) k c _ rfl (HR1.out _ hb13) HO1.out (by simp only [maxLen]; omega) (by omega) (Nat.le_refl _) ?_
       intro v1 w4 hown1 hg1 _
       simp only [Nat.zero_add, List.nil_append] at hown1
       have hz4 := hg1.size
       have hb34 := (Below.refl w3.heap.size w3).grown hg1 (Nat.le_refl _) (by simp [Value.ownBlock])
       have hb4 := below_two hb13 hb34
       have HO4 := Lib.hid hown1
       clear hown1 hg1)
    | (at_builtin
       go_must (refine wpList_append_any _ rfl (.tmp 63) (.tmp 67) _ rfl w3.heap.size 9 i0 _ 1 16 Tryd.underlying39 hi0 hz0 hz1 hz2 rfl (by omega) _ k _ rfl HO4.out w4.heap.size _ (l.length - (k + 1)) (c - (k + 1)) _ rfl (HR2.out _ hb4) HO2.out (by simp only [maxLen]; omega) (by omega) hz4 ?_)
       intro v2 w5 hown2 hg2 _
       rw [← e0.out, ← HME.out] at hown2
       have hb35 := below_app hb34 HO4.out hg2
       have hb5 := below_two hb13 hb35
       obtain ⟨A5, c5, hv5, hr5, hc5, _⟩ := own_slice hown2
       subst hv5
       have HR5 := Lib.hid hr5
       clear hown2 hg2 hr5)
    | fail)
  all_goals
    refine (HN2.out _ _ _ hb5 HR5.out hc5).mono ?_
    rintro e w6 ⟨rp2, rfl, hR2, hb6⟩
    have hb56 := below_two hb5 hb6
    have HGI := Lib.hid (HG.out rp1 rp2 w6 ((HRA.out.below hb35).below hb6) hR2)
    clear hR2 hc5 hb35 hb34 hb4 hb5 hb6 hz4
    go_wp2_with fail
    go_loopw [14] (fun iv wr => ∃ i : Nat, i ≤ keys.length ∧ iv = .int .i64 (i : Int) ∧ Below w6.heap.size w6 wr) (fun iv _ => keys.length - (intOf iv).toNat)
    case atStart => exact ⟨0, Nat.zero_le _, rfl, Below.refl _ _⟩
    case round =>
      obtain ⟨i, hi, rfl, hb⟩ := hrel
      by_cases hlt : i < keys.length
      · obtain ⟨x, y, z, key, hkey, hxy, hcalls⟩ := HGI.out i hlt
        have hbr := below_two hb56 hb
        obtain ⟨ad3, rfl, hK⟩ := keyAt2_of (HI.out.below hbr).k hlt
        rw [List.getElem?_eq_getElem hlt] at hkey
        have hkey := Option.some.inj hkey
        rw [hkey] at hK
        have HC := Lib.hid hcalls
        have HK := Lib.hid hK
        have k1 : decide ((i : Int) < keys.length) = true := by simp; omega
        have hlt2 : (i : Int) < keys.length := by omega
        have c0 := HK.out wr (Below.refl _ _)
        clear hcalls hK hkey
        rcases hxy with ⟨tx, rfl⟩ | ⟨tx, rfl⟩
        all_goals
          go_wp2_with fail
          refine (HC.out _ hb).1.mono ?_
          rintro e w7 ⟨rfl, hb7⟩
          have c7 := HK.out w7 hb7
          have hb67 := below_two hb hb7
          go_wp2_with fail
          refine (HC.out _ hb67).2.1.mono ?_
          rintro e w8 ⟨rfl, hb8⟩
          have hb78 := below_two hb7 hb8
          have c8 := HK.out w8 hb78
          have hb68 := below_two hb67 hb8
          go_wp2_with fail
          refine (HC.out _ hb68).2.2.mono ?_
          rintro e w9 ⟨g9, c9, rfl, d0, d1, hc9, hb9⟩
          have hb69 := below_two hb68 hb9
          have cg := HT.out w9 (below_two hb56 hb69)
          go_wp2
          go_roundw
          case rel => exact ⟨i + 1, by omega, by go_num, hb69⟩
          case measure => simp [intOf]; omega
      · obtain rfl : i = keys.length := by omega
        have k1 : decide ((keys.length : Int) < keys.length) = false := by simp
        go_wp2
        go_ret
        exact ⟨rfl, below_two hb56 hb⟩
theorem ringGoes_any (ea : Nat → Addr) (A : Option Addr) (c : Nat) (l : List ByteArray) (copies which : Int) (A3 : Option Addr) (c3 : Nat) (keys : List Nat) (w : World) (hE : ErrsR ea w) (hI : RingIn w A c l A3 keys) :
    Calls Tryd.prog 5 #[.slice A l.length c, .int .i64 copies, .int .i64 which, .slice A3 keys.length c3] w (True1 w) := by
  by_cases hs : longH l = true ∨ which < 0 ∨ (l.length : Int) ≤ which ∨ l.length < 2 ∨ 60 < keys.length
  · exact goes_skip ea A c l copies which A3 c3 keys w hE hI hs
  simp only [not_or, Bool.not_eq_true] at hs
  obtain ⟨hL, h1, h2, h3, h4⟩ := hs
  obtain ⟨k, rfl⟩ := Int.eq_ofNat_of_zero_le (by omega : 0 ≤ which)
  cases hf : ringFault l copies with
  | some f => exact goes_bad ea A c l copies k A3 c3 keys f w hE hI hL (by omega) (by omega) (by omega) hf
  | none =>
    obtain ⟨_, _, hc1, _⟩ := ringFault_none hf
    obtain ⟨cp, rfl⟩ := Int.eq_ofNat_of_zero_le (by omega : 0 ≤ copies)
    exact goes_good ea A c l cp k A3 c3 keys w hE hI hL (by omega) (by omega) (by omega) hf
theorem ringGoes_args (ea : Nat → Addr) (A : Option Addr) (c : Nat) (l : List ByteArray) (copies which : Int) (A3 : Option Addr) (c3 : Nat) (l3 : List Int) (w : World) (hE : ErrsR ea w) (R0 : Reads w w.heap.size 1 A l.length (l.map Value.string)) (lc0 : l.length ≤ c) (cm0 : c ≤ maxLen) (wf0 : ∀ s ∈ l, s.size ≤ maxLen)
    (R3 : Reads w w.heap.size 1 A3 l3.length (l3.map (Value.int .u64))) (m3 : l3.length ≤ maxLen) (wf3 : ∀ n ∈ l3, (Lit.int .u64 n).wf = true) :
    Calls Tryd.prog 5 #[.slice A l.length c, .int .i64 copies, .int .i64 which, .slice A3 l3.length c3] w (True1 w) := by
  obtain ⟨keys, he, hr, hu⟩ := keys_arg R3 wf3
  rw [he]
  exact ringGoes_any ea A c l copies which A3 c3 keys w hE ⟨R0, lc0, cm0, wf0, hr, by omega, hu⟩
end Go.Proofs.YtajdokogahlgaaaDoor
