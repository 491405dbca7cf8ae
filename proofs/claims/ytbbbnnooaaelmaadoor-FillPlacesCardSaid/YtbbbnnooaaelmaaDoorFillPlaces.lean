/-
  The law FillPlaces: its walk.
-/
import Derived.Test.YtbbbnnooaaelmaaDoorRefPlace
import Derived.Test.YtbbbnnooaaelmaaDoorPlaced
import Derived.Test.YtbbbnnooaaelmaaDoorSame
namespace Go.Proofs.YtbbbnnooaaelmaaDoor
open Go.RowKit Go.Maps

theorem nums_ints (xs : List Nat) : numsV xs = (xs.map fun n : Nat => (n : Int)).map intV := by
  unfold numsV
  rw [List.map_map]; rfl
theorem same_nums (A B : Option Addr) (ca cb : Nat) (xs : List Nat) (w : World) (ha : Reads w w.heap.size 1 A xs.length (numsV xs)) (hb : Reads w w.heap.size 1 B xs.length (numsV xs)) (hl : xs.length ≤ maxLen) :
    Calls Tryd.prog 44 #[.slice A xs.length ca, .slice B xs.length cb] w (YesQ w) := by
  have e : (xs.map fun n : Nat => (n : Int)).length = xs.length := by simp
  have h := sameInts A B ca cb w.heap.size (xs.map fun n : Nat => (n : Int)) (xs.map fun n : Nat => (n : Int)) w (by rw [← nums_ints, e]; exact ha) (by rw [← nums_ints, e]; exact hb) (by rw [e]; exact hl) (by rw [e]; exact hl)
  rw [e] at h
  refine h.mono fun ev w' ⟨h1, h2⟩ => ⟨?_, h2⟩
  rw [h1, decide_eq_true rfl]
theorem same_nil (ca cb : Nat) (w : World) : Calls Tryd.prog 44 #[.slice none 0 ca, .slice none 0 cb] w (YesQ w) :=
  same_nums none none ca cb [] w Reads.none_ Reads.none_ (by simp)

/-! The first key that is there twice. -/
def DupAt (keys : List Nat) (i : Nat) : Prop := ∃ k, keys[i]? = some k ∧ k ∈ keys.take i ∧ (keys.take i).Nodup
theorem dup_le {keys : List Nat} {i j : Nat} (hi : DupAt keys i) (hj : DupAt keys j) : ¬ i < j := by
  intro h
  obtain ⟨k, hk, hm, _⟩ := hi
  obtain ⟨_, _, _, hn⟩ := hj
  obtain ⟨hlt, he⟩ := List.getElem?_eq_some_iff.1 hk
  have hs : (keys.take (i + 1)).Sublist (keys.take j) := List.take_sublist_take_left (by omega)
  have hn2 := hn.sublist hs
  rw [List.take_succ_eq_append_getElem hlt, he] at hn2
  exact (List.nodup_append.1 hn2).2.2 k hm k (by simp) rfl
theorem dup_one {keys : List Nat} {i j : Nat} (hi : DupAt keys i) (hj : DupAt keys j) : i = j := by
  have h1 := dup_le hi hj
  have h2 := dup_le hj hi
  omega
theorem dup_some (keys : List Nat) : ∀ n, (keys.take n).Nodup ∨ ∃ i, DupAt keys i
  | 0 => .inl (by simp)
  | n + 1 => by
      rcases dup_some keys n with h | h
      · by_cases hn : n < keys.length
        · by_cases hm : keys[n] ∈ keys.take n
          · exact .inr ⟨n, keys[n], List.getElem?_eq_getElem hn, hm, h⟩
          · left
            rw [List.take_succ_eq_append_getElem hn]
            refine List.nodup_append.2 ⟨h, by simp, fun a ha b hb => ?_⟩
            obtain rfl : b = keys[n] := by simpa using hb
            exact fun e => hm (e ▸ ha)
        · left
          rwa [List.take_of_length_le (by omega), ← List.take_of_length_le (i := n) (l := keys) (by omega)]
      · exact .inr h
theorem dup_not {keys : List Nat} {i : Nat} (h : DupAt keys i) : ¬ keys.Nodup := by
  intro hn
  obtain ⟨k, hk, hm, _⟩ := h
  obtain ⟨hlt, he⟩ := List.getElem?_eq_some_iff.1 hk
  have hn2 := hn.sublist (List.take_sublist (i + 1) keys)
  rw [List.take_succ_eq_append_getElem hlt, he] at hn2
  exact (List.nodup_append.1 hn2).2.2 k hm k (by simp) rfl
/-- Places are fixed by what is said of them. -/
theorem place_one {l : List ByteArray} {cp most : Nat} {keys xs ys : List Nat} (hx : PlaceOK l cp most keys xs) (hy : PlaceOK l cp most keys ys) (hl : xs.length = ys.length) : ∀ n, xs.take n = ys.take n
  | 0 => by simp
  | n + 1 => by
      have ih := place_one hx hy hl n
      by_cases hn : n < xs.length
      · rw [List.take_succ_eq_append_getElem hn, List.take_succ_eq_append_getElem (by omega), ih]
        obtain ⟨_, _, _, _, k, hk, hp⟩ := hx n _ (List.getElem?_eq_getElem hn)
        obtain ⟨_, _, _, _, k', hk', hp'⟩ := hy n _ (List.getElem?_eq_getElem (by omega))
        rw [hk] at hk'
        obtain rfl := Option.some.inj hk'
        rw [ih] at hp
        have : ((xs[n] : Nat) : Int) = ((ys[n]'(by omega) : Nat) : Int) := by rw [← hp, ← hp']
        congr 2
        omega
      · rw [List.take_of_length_le (by omega), List.take_of_length_le (by omega)]
        rwa [List.take_of_length_le (by omega), List.take_of_length_le (by omega)] at ih

set_option maxRecDepth 100000 in
set_option maxHeartbeats 1000000 in
theorem place_no (ea : Nat → Addr) (A : Option Addr) (c : Nat) (l : List ByteArray) (copies : Int) (A2 : Option Addr) (c2 : Nat) (keys : List Nat) (p : Int) (w : World) (hE : ErrsR ea w) (hI : PlaceIn w A c l A2 keys) (hf : ringFault l copies = none) (hn : ¬ (0 ≤ p ∧ p ≤ 100 ∧ keys.length ≤ 500)) :
    Calls Tryd.prog 41 #[.slice A l.length c, .int .i64 copies, .slice A2 keys.length c2, .int .i64 p] w (PlaceBad ea ⟨2, none⟩ w) := by
  obtain ⟨h0, ho, h1, h2⟩ := ringFault_none hf
  obtain ⟨cp, rfl⟩ := Int.eq_ofNat_of_zero_le (by omega : 0 ≤ copies)
  have HN := Lib.hid (ringNew_made ea A c w.heap.size l cp w hE.e3 hI.r (Nat.le_refl _) hI.lc hI.lm hI.s hf)
  have HC := Lib.hid (fun W hW => cap_no ea keys.length l.length p W hW (by omega))
  have HE := Lib.hid hE
  clear hE hI hf ho hn
  go_enter Tryd.func41, Tryd.ntmps41
  go_wp2_with fail
  refine HN.out.mono ?_
  rintro e w1 ⟨rp, rfl, _, hb1⟩
  go_wp2_with fail
  refine (HC.out _ (HE.out.below hb1)).mono ?_
  rintro e w2 ⟨t, a, rfl, hI, hb2⟩
  go_wp2
  go_ret2
  exact ⟨t, a, rfl, hI, below_two hb1 hb2⟩

/-- What both tell of places: the same fault, or the same places. -/
def PlaceBoth (ea : Nat → Addr) (l : List ByteArray) (copies : Int) (keys : List Nat) (p : Int) : Prop :=
  (∃ f : Flt, (1 ≤ f.code ∧ f.code ≤ 9) ∧ (∀ W A c A2 c2, ErrsR ea W → PlaceIn W A c l A2 keys → Calls Tryd.prog 41 #[.slice A l.length c, .int .i64 copies, .slice A2 keys.length c2, .int .i64 p] W (PlaceBad ea f W)) ∧
    ∀ W A c A2 c2, RingIn W A c l A2 keys → Calls Tryd.prog 43 #[.slice A l.length c, .int .i64 copies, .slice A2 keys.length c2, .int .i64 p] W (RPlaceBad f W)) ∨
  (∃ cp most, (∀ W A c A2 c2, ErrsR ea W → PlaceIn W A c l A2 keys → Calls Tryd.prog 41 #[.slice A l.length c, .int .i64 copies, .slice A2 keys.length c2, .int .i64 p] W (PlaceGood l cp most keys W)) ∧
    ∀ W A c A2 c2, RingIn W A c l A2 keys → Calls Tryd.prog 43 #[.slice A l.length c, .int .i64 copies, .slice A2 keys.length c2, .int .i64 p] W (RPlaceGood l cp most keys W))
theorem place_both (ea : Nat → Addr) (l : List ByteArray) (copies : Int) (keys : List Nat) (p : Int) : PlaceBoth ea l copies keys p := by
  cases hf : ringFault l copies with
  | some f => exact .inl ⟨f, ringFault_code hf, fun W A c A2 c2 hE hI => place_bad0 ea A c l copies A2 c2 keys p f W hE hI hf, fun W A c A2 c2 hI => placeOf_bad0 A c l copies A2 c2 keys p f W hI hf⟩
  | none =>
    by_cases hn : 0 ≤ p ∧ p ≤ 100 ∧ keys.length ≤ 500
    · obtain ⟨_, _, h1, _⟩ := ringFault_none hf
      obtain ⟨cp, rfl⟩ := Int.eq_ofNat_of_zero_le (by omega : 0 ≤ copies)
      obtain ⟨pn, rfl⟩ := Int.eq_ofNat_of_zero_le hn.1
      rcases dup_some keys keys.length with hd | ⟨i, hd⟩
      · rw [List.take_length] at hd
        refine .inr ⟨cp, capN keys.length l.length pn, fun W A c A2 c2 hE hI => (place_ok ea A c l cp A2 c2 keys pn W hE hI hf (by omega) hn.2.2).mono fun e w' h => ?_, fun W A c A2 c2 hI => (placeOf_ok A c l cp A2 c2 keys pn W hI hf (by omega) hn.2.2).mono fun e w' h => ?_⟩
        · rcases h with h | h
          · obtain ⟨_, _, i, k, _, _, _, hx⟩ := h
            exact absurd hd (dup_not ⟨k, hx⟩)
          · exact h
        · rcases h with h | h
          · obtain ⟨i, k, _, _, hx⟩ := h
            exact absurd hd (dup_not ⟨k, hx⟩)
          · exact h
      · refine .inl ⟨⟨6, some i⟩, ⟨by show 1 ≤ 6; omega, by show 6 ≤ 9; omega⟩, fun W A c A2 c2 hE hI => (place_ok ea A c l cp A2 c2 keys pn W hE hI hf (by omega) hn.2.2).mono fun e w' h => ?_, fun W A c A2 c2 hI => (placeOf_ok A c l cp A2 c2 keys pn W hI hf (by omega) hn.2.2).mono fun e w' h => ?_⟩
        · rcases h with h | h
          · obtain ⟨t, a, j, k, he, hI, hb, hx⟩ := h
            obtain rfl := dup_one hd ⟨k, hx⟩
            exact ⟨t, a, he, hI, hb⟩
          · obtain ⟨_, _, _, _, _, _, _, hx, _⟩ := h
            exact absurd hx (dup_not hd)
        · rcases h with h | h
          · obtain ⟨j, k, he, hb, hx⟩ := h
            obtain rfl := dup_one hd ⟨k, hx⟩
            exact ⟨he, hb⟩
          · obtain ⟨_, _, _, _, _, _, _, hx, _⟩ := h
            exact absurd hx (dup_not hd)
    · exact .inl ⟨⟨2, none⟩, ⟨by show 1 ≤ 2; omega, by show 2 ≤ 9; omega⟩, fun W A c A2 c2 hE hI => place_no ea A c l copies A2 c2 keys p W hE hI hf hn, fun W A c A2 c2 hI => placeOf_bad1 A c l copies A2 c2 keys p W hI hf hn⟩

/-- What both tell of a host's bound. -/
def CapBoth (ea : Nat → Addr) (n hosts p : Int) : Prop :=
  (∃ m : Int, (∀ W, Calls Tryd.prog 45 #[.int .i64 n, .int .i64 hosts, .int .i64 p] W fun e w' => e = .returned (.tuple #[.int .i64 m, .nilIface]) ∧ W = w') ∧
    ∀ W, Calls Tryd.prog 46 #[.int .i64 n, .int .i64 hosts, .int .i64 p] W fun e w' => e = .returned (.tuple #[.int .i64 m, .int .i64 0]) ∧ W = w') ∨
  ((∀ W, ErrsR ea W → Calls Tryd.prog 45 #[.int .i64 n, .int .i64 hosts, .int .i64 p] W (CapBad ea W)) ∧
    ∀ W, Calls Tryd.prog 46 #[.int .i64 n, .int .i64 hosts, .int .i64 p] W fun e w' => e = .returned (.tuple #[.int .i64 0, .int .i64 2]) ∧ W = w')
theorem cap_both (ea : Nat → Addr) (n hosts p : Int) : CapBoth ea n hosts p := by
  by_cases h : 0 ≤ n ∧ n ≤ 500 ∧ 1 ≤ hosts ∧ hosts ≤ 12 ∧ 0 ≤ p ∧ p ≤ 100
  · obtain ⟨a1, a2, a3, a4, a5, a6⟩ := h
    obtain ⟨n', rfl⟩ := Int.eq_ofNat_of_zero_le a1
    obtain ⟨h', rfl⟩ := Int.eq_ofNat_of_zero_le (by omega : 0 ≤ hosts)
    obtain ⟨p', rfl⟩ := Int.eq_ofNat_of_zero_le a5
    exact .inl ⟨_, fun W => cap_ok n' h' p' W (by omega) (by omega) (by omega) (by omega), fun W => capOf_ok n' h' p' W (by omega) (by omega) (by omega) (by omega)⟩
  · exact .inr ⟨fun W hE => cap_no ea n hosts p W hE h, fun W => capOf_no n hosts p W h⟩

theorem places_ways (lg : Bool) (m : Nat) (h : lg = true ∨ (40 < m ∧ m ≤ 500) ∨ 600 < m) : (lg = true) ∨ (lg = false ∧ decide ((m : Int) > 40) = true ∧ decide ((m : Int) ≤ 500) = true) ∨ (lg = false ∧ decide ((m : Int) > 40) = true ∧ decide ((m : Int) ≤ 500) = false ∧ decide ((m : Int) > 600) = true) := by
  cases lg <;> simp only [decide_eq_true_eq, decide_eq_false_iff_not] <;> simp <;> simp at h <;> omega
set_option maxRecDepth 100000 in
set_option maxHeartbeats 2000000 in
theorem places_skip (ea : Nat → Addr) (A : Option Addr) (c : Nat) (l : List ByteArray) (copies : Int) (A3 : Option Addr) (c3 : Nat) (keys : List Nat) (p n hosts : Int) (w : World) (hE : ErrsR ea w) (hI : RingIn w A c l A3 keys) (h : longH l = true ∨ (40 < keys.length ∧ keys.length ≤ 500) ∨ 600 < keys.length) :
    Calls Tryd.prog 8 #[.slice A l.length c, .int .i64 copies, .slice A3 keys.length c3, .int .i64 p, .int .i64 n, .int .i64 hosts] w (True1 w) := by
  have hm := Nat.le_trans hI.lc hI.cm
  have hk := hI.km
  unfold maxLen at hm hk
  have HL : Hid (∀ W, Below w.heap.size w W → Calls Tryd.prog 13 #[.slice A l.length c] W (LongIs (longH l) W)) :=
    Lib.hid fun W hW => longHosts_any A c W.heap.size l W (hI.below hW).r (Nat.le_trans hI.lc hI.cm) hI.s
  have HW := Lib.hid (filled_any ea w hE)
  have hways := places_ways (longH l) keys.length h
  generalize longH l = lg at *
  clear hE hI h
  rcases hways with rfl | ⟨rfl, t1, t2⟩ | ⟨rfl, t1, t2, t3⟩
  all_goals
    go_enter Tryd.func8, Tryd.ntmps8
    go_wp2_with fail
    refine HW.out.mono ?_
    rintro e w1 ⟨rfl, hb1⟩
    go_wp2_with fail
    refine (HL.out _ hb1).mono ?_
    rintro e w2 ⟨rfl, rfl⟩
    go_wp2
    go_ret
    exact ⟨rfl, hb1⟩
theorem keys_ways2 (m : Nat) (h : m ≤ 40 ∨ 500 < m) (h6 : m ≤ 600) : (decide ((m : Int) > 40) = false ∧ decide ((m : Int) ≤ 500) = true ∧ decide ((m : Int) > 600) = false) ∨ (decide ((m : Int) > 40) = true ∧ decide ((m : Int) ≤ 500) = false ∧ decide ((m : Int) > 600) = false) := by
  simp only [decide_eq_true_eq, decide_eq_false_iff_not]
  omega
set_option maxRecDepth 100000 in
set_option maxHeartbeats 4000000 in
theorem places_walk (ea : Nat → Addr) (A : Option Addr) (c : Nat) (l : List ByteArray) (copies : Int) (A3 : Option Addr) (c3 : Nat) (keys : List Nat) (p n hosts : Int) (w : World) (hE : ErrsW ea w) (hG : HandleAt w) (hI : RingIn w A c l A3 keys) (hL : longH l = false) (hk1 : keys.length ≤ 40 ∨ 500 < keys.length) (hk2 : keys.length ≤ 600) :
    Calls Tryd.prog 8 #[.slice A l.length c, .int .i64 copies, .slice A3 keys.length c3, .int .i64 p, .int .i64 n, .int .i64 hosts] w (True1 w) := by
  obtain ⟨hl30, _⟩ := long_no hL
  have hlm : l.length ≤ maxLen := Nat.le_trans hI.lc hI.cm
  have HL : Hid (∀ W, Below w.heap.size w W → Calls Tryd.prog 13 #[.slice A l.length c] W (LongIs false W)) :=
    Lib.hid fun W hW => by rw [← hL]; exact longHosts_any A c W.heap.size l W (hI.below hW).r hlm hI.s
  have HW := Lib.hid (filled_any ea w (errsR_of_w hE))
  have HP : Hid (∀ (W : World) (A' : Option Addr) (c' : Nat) (A'' : Option Addr) (_ : Nat), Below w.heap.size w W → Reads W W.heap.size 1 A' l.length (strV l) → l.length ≤ c' → Reads W W.heap.size 1 A'' keys.length (keysV keys) → PlaceIn W A' c' l A'' keys) :=
    Lib.hid fun W A' c' A'' c'' hW hr hc hk => ⟨hr, hc, hlm, hI.s, hk, hI.u⟩
  have hways := keys_ways2 keys.length hk1 hk2
  have HI := Lib.hid hI
  have HE := Lib.hid hE
  have HFA : Hid (∀ f, (1 ≤ f.code ∧ f.code ≤ 9) → ∀ W t a, Below w.heap.size w W → IsErr ea W f t a → Calls Tryd.prog 30 #[.iface t (.pointer (some a)), .agg #[.int .i64 (fCode (some f) : Int), .int .i64 (fAt (some f))]] W (Yeslaw1 W)) := Lib.hid fun f hf W t a hW hI => faultedlaw1_some (hE.below hW) (hG.below hW) hf.1 hf.2 hI
  have HCD : Hid (∀ W t a, Below w.heap.size w W → IsErr ea W ⟨2, none⟩ t a → Calls Tryd.prog 47 #[.iface t (.pointer (some a)), .int .i64 2] W fun e w' => e = .returned (.bool true) ∧ Below W.heap.size W w') := Lib.hid fun W t a hW hI => codedlaw1_any 2 (hE.below hW) (hG.below hW) (by show 1 ≤ 2; omega) (by show 2 ≤ 9; omega) hI rfl
  have hpb := place_both ea l copies keys p
  have hcb := cap_both ea n hosts p
  have hone := fun cp most xs ys (h1 : PlaceOK l cp most keys xs) (h2 : PlaceOK l cp most keys ys) (h3 : xs.length = keys.length) (h4 : ys.length = keys.length) => (show xs = ys from by
    have := place_one h1 h2 (by omega) keys.length
    rwa [List.take_of_length_le (by omega), List.take_of_length_le (by omega)] at this)
  have HOne := Lib.hid hone
  clear hI hE hG hL hlm hone hk1
  have HCB := Lib.hid hcb
  unfold CapBoth at HCB
  clear hcb
  rcases hpb with ⟨f, hfc, hp1, hp2⟩ | ⟨cp, most, hp1, hp2⟩
  · have HP1 := Lib.hid hp1
    have HP2 := Lib.hid hp2
    have HF := Lib.hid (HFA.out f hfc)
    unfold RPlaceBad retFault at HP2
    clear hp1 hp2 hfc
    generalize fCode (some f) = fc at *
    generalize fAt (some f) = fa at *
    rcases hways with ⟨t1, t2, t3⟩ | ⟨t1, t2, t3⟩
    all_goals
      go_enter Tryd.func8, Tryd.ntmps8
      go_wp2_with fail
      refine HW.out.mono ?_
      rintro e w1 ⟨rfl, hb1⟩
      go_wp2_with fail
      refine (HL.out _ hb1).mono ?_
      rintro e w2 ⟨rfl, rfl⟩
      go_wp2_with fail
      refine (ownTexts_any A l.length c w1.heap.size (strV l) w1 (HI.out.below hb1).r str_one (by omega)).mono ?_
      rintro e w2 ⟨A', c', rfl, ho2, hb2⟩
      have hb12 := below_two hb1 hb2
      have hr2 := Reads.of_own ho2
      have hnc := own_ncap2 ho2
      go_wp2_with fail
      refine (ownKeys_any A3 keys.length c3 w2.heap.size (keysV keys) w2 (HI.out.below hb12).k keys_one (by omega)).mono ?_
      rintro e w3 ⟨A'', c'', rfl, ho3, hb3⟩
      have hb13 := below_two hb12 hb3
      have hPI := HP.out w3 A' c' A'' c'' hb13 ((hr2.below hb3).more hb3.size) hnc (Reads.of_own ho3)
      have HPI := Lib.hid hPI
      clear ho2 ho3 hr2 hPI
      go_wp2_with fail
      refine (HP1.out w3 A' c' A'' c'' (errsR_of_w (HE.out.below hb13)) HPI.out).mono ?_
      rintro e w4 ⟨t, a, rfl, hX, hb4⟩
      have hb14 := below_two hb13 hb4
      go_wp2_with fail
      refine (HP2.out w4 A c A3 c3 (HI.out.below hb14)).mono ?_
      rintro e w5 ⟨rfl, hb5⟩
      have hb15 := below_two hb14 hb5
      go_wp2_with fail
      have hb16 := hb15.alloc hb15.size (.cells #[.int .i64 (fc : Int), .int .i64 fa] 47)
      have hX6 := (hX.below hb5).below ((Below.refl w5.heap.size w5).alloc (Nat.le_refl _) (.cells #[.int .i64 (fc : Int), .int .i64 fa] 47))
      refine (HF.out _ t a hb16 hX6).mono ?_
      rintro e w6 ⟨rfl, hb6⟩
      have hb06 := below_two hb16 hb6
      go_wp2_with fail
      refine (same_nil _ _ _).mono ?_
      rintro e w7 ⟨rfl, q, rfl⟩
      have hb07 := below_drewN hb06 q
      clear hb1 hb2 hb12 hb3 hb13 hb4 hb14 hb5 hb15 hb16 hb6 hb06 hX hX6
      rcases HCB.out with ⟨m, hc1, hc2⟩ | ⟨hc1, hc2⟩
      · have HC1 := Lib.hid hc1
        have HC2 := Lib.hid hc2
        clear hc1 hc2
        go_wp2_with fail
        refine (HC1.out _).mono ?_
        rintro e w8 ⟨rfl, rfl⟩
        go_wp2_with fail
        refine (HC2.out _).mono ?_
        rintro e w8 ⟨rfl, rfl⟩
        go_wp2_with fail
        refine (codedlaw1_nil _).mono ?_
        rintro e w9 ⟨rfl, rfl⟩
        go_wp2
        go_ret
        exact ⟨rfl, hb07⟩
      · have HC1 := Lib.hid hc1
        have HC2 := Lib.hid hc2
        clear hc1 hc2
        go_wp2_with fail
        refine (HC1.out _ (errsR_of_w (HE.out.below hb07))).mono ?_
        rintro e w8 ⟨t8, a8, rfl, hX8, hb8⟩
        have hb08 := below_two hb07 hb8
        go_wp2_with fail
        refine (HC2.out _).mono ?_
        rintro e w9 ⟨rfl, rfl⟩
        go_wp2_with fail
        refine (HCD.out _ t8 a8 hb08 hX8).mono ?_
        rintro e w9 ⟨rfl, hb9⟩
        go_wp2
        go_ret
        exact ⟨rfl, below_two hb08 hb9⟩
  · have HP1 := Lib.hid hp1
    have HP2 := Lib.hid hp2
    clear hp1 hp2
    rcases hways with ⟨t1, t2, t3⟩ | ⟨t1, t2, t3⟩
    all_goals
      go_enter Tryd.func8, Tryd.ntmps8
      go_wp2_with fail
      refine HW.out.mono ?_
      rintro e w1 ⟨rfl, hb1⟩
      go_wp2_with fail
      refine (HL.out _ hb1).mono ?_
      rintro e w2 ⟨rfl, rfl⟩
      go_wp2_with fail
      refine (ownTexts_any A l.length c w1.heap.size (strV l) w1 (HI.out.below hb1).r str_one (by omega)).mono ?_
      rintro e w2 ⟨A', c', rfl, ho2, hb2⟩
      have hb12 := below_two hb1 hb2
      have hr2 := Reads.of_own ho2
      have hnc := own_ncap2 ho2
      go_wp2_with fail
      refine (ownKeys_any A3 keys.length c3 w2.heap.size (keysV keys) w2 (HI.out.below hb12).k keys_one (by omega)).mono ?_
      rintro e w3 ⟨A'', c'', rfl, ho3, hb3⟩
      have hb13 := below_two hb12 hb3
      have hPI := HP.out w3 A' c' A'' c'' hb13 ((hr2.below hb3).more hb3.size) hnc (Reads.of_own ho3)
      have HPI := Lib.hid hPI
      clear ho2 ho3 hr2 hPI
      go_wp2_with fail
      refine (HP1.out w3 A' c' A'' c'' (errsR_of_w (HE.out.below hb13)) HPI.out).mono ?_
      rintro e w4 ⟨xs, A4, c4, rfl, ho4, hxl, hOK, _, hb4⟩
      have hb14 := below_two hb13 hb4
      have HR4 := Lib.hid (Reads.of_own ho4)
      have HM4 := Lib.hid (own_le ho4)
      have HX4 := Lib.hid hxl
      have HOK4 := Lib.hid hOK
      clear ho4 hxl hOK
      go_wp2_with fail
      refine (HP2.out w4 A c A3 c3 (HI.out.below hb14)).mono ?_
      rintro e w5 ⟨ys, A5, c5, rfl, ho5, hyl, hOK5, _, hb5⟩
      obtain rfl := HOne.out cp most xs ys HOK4.out hOK5 HX4.out hyl
      have hb15 := below_two hb14 hb5
      have HR5 := Lib.hid (Reads.of_own ho5)
      clear ho5 hyl hOK5
      go_wp2_with fail
      have hb5a := (Below.refl w5.heap.size w5).alloc (Nat.le_refl _) (.cells #[.int .i64 0, .int .i64 (-1)] 47)
      have hb16 := hb15.alloc hb15.size (.cells #[.int .i64 0, .int .i64 (-1)] 47)
      refine (faultedlaw1_nil _).mono ?_
      rintro e w6 ⟨rfl, hb6⟩
      have hb56 := below_two hb5a hb6
      have hb46 := below_two hb5 hb56
      have hb06 := below_two hb16 hb6
      have HS : Hid (Calls Tryd.prog 44 #[.slice A4 xs.length c4, .slice A5 xs.length c5] w6 (YesQ w6)) := Lib.hid (same_nums A4 A5 c4 c5 xs w6 ((HR4.out.below hb46).more hb46.size) ((HR5.out.below hb56).more hb56.size) HM4.out)
      go_wp2_with fail
      refine HS.out.mono ?_
      rintro e w7 ⟨rfl, q, rfl⟩
      have hb07 := below_drewN hb06 q
      clear hb1 hb2 hb12 hb3 hb13 hb4 hb14 hb5 hb15 hb16 hb6 hb06 hb5a hb56 hb46
      rcases HCB.out with ⟨m, hc1, hc2⟩ | ⟨hc1, hc2⟩
      · have HC1 := Lib.hid hc1
        have HC2 := Lib.hid hc2
        clear hc1 hc2
        go_wp2_with fail
        refine (HC1.out _).mono ?_
        rintro e w8 ⟨rfl, rfl⟩
        go_wp2_with fail
        refine (HC2.out _).mono ?_
        rintro e w8 ⟨rfl, rfl⟩
        go_wp2_with fail
        refine (codedlaw1_nil _).mono ?_
        rintro e w9 ⟨rfl, rfl⟩
        go_wp2
        go_ret
        exact ⟨rfl, hb07⟩
      · have HC1 := Lib.hid hc1
        have HC2 := Lib.hid hc2
        clear hc1 hc2
        go_wp2_with fail
        refine (HC1.out _ (errsR_of_w (HE.out.below hb07))).mono ?_
        rintro e w8 ⟨t8, a8, rfl, hX8, hb8⟩
        have hb08 := below_two hb07 hb8
        go_wp2_with fail
        refine (HC2.out _).mono ?_
        rintro e w9 ⟨rfl, rfl⟩
        go_wp2_with fail
        refine (HCD.out _ t8 a8 hb08 hX8).mono ?_
        rintro e w9 ⟨rfl, hb9⟩
        go_wp2
        go_ret
        exact ⟨rfl, below_two hb08 hb9⟩
theorem fillPlaces_args (ea : Nat → Addr) (A : Option Addr) (c : Nat) (l : List ByteArray) (copies : Int) (A3 : Option Addr) (c3 : Nat) (l3 : List Int) (p n hosts : Int) (w : World) (hE : ErrsW ea w) (hG : HandleAt w) (R0 : Reads w w.heap.size 1 A l.length (l.map Value.string)) (lc0 : l.length ≤ c) (cm0 : c ≤ maxLen) (wf0 : ∀ s ∈ l, s.size ≤ maxLen)
    (R3 : Reads w w.heap.size 1 A3 l3.length (l3.map (Value.int .u64))) (m3 : l3.length ≤ maxLen) (wf3 : ∀ n ∈ l3, (Lit.int .u64 n).wf = true) :
    Calls Tryd.prog 8 #[.slice A l.length c, .int .i64 copies, .slice A3 l3.length c3, .int .i64 p, .int .i64 n, .int .i64 hosts] w (True1 w) := by
  obtain ⟨keys, he, hr, hu⟩ := keys_arg R3 wf3
  rw [he]
  have hI : RingIn w A c l A3 keys := ⟨R0, lc0, cm0, wf0, hr, by omega, hu⟩
  by_cases hs : longH l = true ∨ (40 < keys.length ∧ keys.length ≤ 500) ∨ 600 < keys.length
  · exact places_skip ea A c l copies A3 c3 keys p n hosts w (errsR_of_w hE) hI hs
  simp only [not_or, Bool.not_eq_true] at hs
  exact places_walk ea A c l copies A3 c3 keys p n hosts w hE hG hI hs.1 (by omega) (by omega)
end Go.Proofs.YtbbbnnooaaelmaaDoor
