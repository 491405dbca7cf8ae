/-
  The law RivalComes: its walk.
-/
import Derived.Test.YtbbbnnooaaelmaaDoorRivalHost
namespace Go.Proofs.YtbbbnnooaaelmaaDoor
open Go.RowKit Go.Shelf Go.Sort

theorem rcomes_ways (lg : Bool) (n m : Nat) (k : Int) (h : lg = true ∨ 60 < n ∨ k < 0 ∨ (m : Int) < k) :
    (lg = true) ∨ (lg = false ∧ decide ((n : Int) > 60) = true) ∨ (lg = false ∧ decide ((n : Int) > 60) = false ∧ decide (k < 0) = true) ∨ (lg = false ∧ decide ((n : Int) > 60) = false ∧ decide (k < 0) = false ∧ decide (k > m) = true) := by
  cases lg <;> simp only [decide_eq_true_eq, decide_eq_false_iff_not] <;> simp <;> simp at h <;> omega

set_option maxRecDepth 100000 in
set_option maxHeartbeats 2000000 in
theorem rcomes_skip (ea : Nat → Addr) (A : Option Addr) (c : Nat) (l : List ByteArray) (name : ByteArray) (key : Nat) (k : Int) (w : World) (hE : ErrsR ea w) (hI : TextsIn w A c l) (h : longH l = true ∨ 60 < name.size ∨ k < 0 ∨ (l.length : Int) < k) :
    Calls Tryd.prog 5 #[.slice A l.length c, .string name, .int .u64 (key : Int), .int .i64 k] w (True1 w) := by
  have hm := hI.lm
  unfold maxLen at hm
  have HL : Hid (∀ W, Below w.heap.size w W → Calls Tryd.prog 13 #[.slice A l.length c] W (LongIs (longH l) W)) :=
    Lib.hid fun W hW => longHosts_any A c W.heap.size l W (hI.below hW).r hI.lm hI.s
  have HW := Lib.hid (rivals_any ea w hE)
  have hways := rcomes_ways (longH l) name.size l.length k h
  generalize longH l = lg at *
  clear hE hI h
  rcases hways with rfl | ⟨rfl, t1⟩ | ⟨rfl, t1, t2⟩ | ⟨rfl, t1, t2, t3⟩
  all_goals
    go_enter Tryd.func5, Tryd.ntmps5
    go_wp2_with fail
    refine HW.out.mono ?_
    rintro e w1 ⟨rfl, hb1⟩
    go_wp2_with fail
    refine (HL.out _ hb1).mono ?_
    rintro e w2 ⟨rfl, rfl⟩
    go_wp2
    go_ret
    exact ⟨rfl, hb1⟩

theorem name_txs {l : List ByteArray} {name : ByteArray} (h : ∀ s ∈ l, s.size ≤ maxLen) (hn : name.size ≤ 60) : ∀ s ∈ l ++ [name], s.size ≤ maxLen := fun s hs => by
  rcases List.mem_append.1 hs with hs | hs
  · exact h s hs
  · obtain rfl : s = name := by simpa using hs
    unfold maxLen; omega

set_option maxRecDepth 100000 in
set_option maxHeartbeats 2000000 in
theorem rcomes_bad (ea : Nat → Addr) (A : Option Addr) (c : Nat) (l : List ByteArray) (name : ByteArray) (key k : Nat) (w : World) (hE : ErrsR ea w) (hI : TextsIn w A c l) (hL : longH l = false) (hn60 : name.size ≤ 60) (hkl : k ≤ l.length) (hk : U64 key) (hf : orderFault l ≠ none ∨ orderFault (l ++ [name]) ≠ none) :
    Calls Tryd.prog 5 #[.slice A l.length c, .string name, .int .u64 (key : Int), .int .i64 (k : Int)] w (True1 w) := by
  obtain ⟨hl30, hsz⟩ := long_no hL
  obtain ⟨i0, hi0, hz0, hz1, hz2⟩ := info_parts info_string
  have HL : Hid (∀ W, Below w.heap.size w W → Calls Tryd.prog 13 #[.slice A l.length c] W (LongIs false W)) :=
    Lib.hid fun W hW => by rw [← hL]; exact longHosts_any A c W.heap.size l W (hI.below hW).r hI.lm hI.s
  have HW := Lib.hid (rivals_any ea w hE)
  have t1 : decide ((name.size : Int) > 60) = false := by simp; omega
  have t2 : decide ((k : Int) < 0) = false := by simp
  have t3 : decide ((k : Int) > l.length) = false := by simp; omega
  have HN : Hid (∀ W A' c', Below w.heap.size w W → TextsIn W A' c' l → Calls Tryd.prog 21 #[.slice A' l.length c', .int .u64 (key : Int)] W (RHostPost ea l key W)) :=
    Lib.hid fun W A' c' hW hT => rhost_any ea A' c' l key W (hE.below hW) hT hk
  obtain ⟨m, hm⟩ : ∃ m : List ByteArray, m = l ++ [name] := ⟨_, rfl⟩
  have hml : m.length = l.length + 1 := by rw [hm]; simp
  have hms : ∀ s ∈ m, s.size ≤ maxLen := by rw [hm]; exact name_txs hI.s hn60
  have HN2 : Hid (∀ W A' c', Below w.heap.size w W → Reads W W.heap.size 1 A' m.length (strV m) → m.length ≤ c' → Calls Tryd.prog 21 #[.slice A' m.length c', .int .u64 (key : Int)] W (RHostPost ea m key W)) :=
    Lib.hid fun W A' c' hW hr hc => rhost_any ea A' c' m key W (hE.below hW) ⟨hr, hc, by unfold maxLen; omega, hms⟩ hk
  have HML := Lib.hid hml
  have HME : Hid (strV m = strV l ++ [.string name]) := Lib.hid (by rw [hm]; simp [strV])
  rw [← hm] at hf
  have HI := Lib.hid hI
  unfold RHostPost at HN HN2
  generalize orderFault l = fa at *
  generalize orderFault m = fb at *
  clear hE hI hL hm hms hsz hml
  rcases fa with _ | fa <;> rcases fb with _ | fb
  case none.none => simp at hf
  all_goals
    clear hf
    go_enter Tryd.func5, Tryd.ntmps5
    go_wp2_with fail
    refine HW.out.mono ?_
    rintro e w1 ⟨rfl, hb1⟩
    go_wp2_with fail
    refine (HL.out _ hb1).mono ?_
    rintro e w2 ⟨rfl, rfl⟩
    go_wp2_with fail
    refine (ownTexts_any A l.length c w1.heap.size (strV l) w1 (HI.out.below hb1).r str_one (by omega)).mono ?_
    rintro e w2 ⟨A', c', rfl, ho2, hb2⟩
    have hb12 := below_two hb1 hb2
    have hT2 : TextsIn w2 A' c' l := ⟨Reads.of_own ho2, own_ncap2 ho2, HI.out.lm, HI.out.s⟩
    go_wp2_with fail
    refine (HN.out _ _ _ hb12 hT2).mono ?_
    first | (rintro e w3 ⟨x1, hx1, hG⟩; obtain ⟨rfl, hb3⟩ := (hG : HostGood _ _ _ _)) | rintro e w3 ⟨t1, a1, rfl, _, hb3⟩
    have hb13 := below_two hb12 hb3
    clear ho2 hT2 hb12 hb2
    go_wp2_with fail
    refine (ownTexts_any A l.length c w3.heap.size (strV l) w3 (HI.out.below hb13).r str_one (by omega)).mono ?_
    rintro e w4 ⟨A4, c4, rfl, ho4, hb34⟩
    have hsz4 := hb34.size
    go_wp2_with (at_builtin
                 go_must (refine wpList_append_own _ rfl _ _ 22 rfl w3.heap.size 9 i0 (.string ⟨#[]⟩) 1 16 Tryd.underlying22 hi0 hz0 hz1 hz2 rfl (by decide) _ _ _ rfl (ho4.alloc _) ⟨w4.heap.size, 0, none⟩ 1 1 [.string name] rfl rfl (cell_one_new _ _ _) (by simp [Value.oneCell']) (by simp only [maxLen]; omega) (by omega) (size_alloc1 hb34) ?_)
                 intro v5 w5 hown5 hg5 _
                 rw [← HME.out, ← HML.out] at hown5
                 have hb35 := below_app1 hb34 ho4 hg5
                 have hb5 := below_two hb13 hb35
                 obtain ⟨A5, c5, hv5, hr5, hc5, _⟩ := own_slice hown5
                 subst hv5
                 have HR5 := Lib.hid hr5
                 clear hown5 hg5 hr5)
    refine (HN2.out _ _ _ hb5 HR5.out hc5).mono ?_
    first | (rintro e w6 ⟨x2, hx2, hG⟩; obtain ⟨rfl, hb6⟩ := (hG : HostGood _ _ _ _)) | rintro e w6 ⟨t2, a2, rfl, _, hb6⟩
    have hb56 := below_two hb5 hb6
    go_wp2
    go_ret
    exact ⟨rfl, hb56⟩

set_option maxRecDepth 100000 in
set_option maxHeartbeats 4000000 in
theorem rcomes_good (ea : Nat → Addr) (A : Option Addr) (c : Nat) (l : List ByteArray) (name : ByteArray) (key k : Nat) (w : World) (hE : ErrsR ea w) (hI : TextsIn w A c l) (hcm : c ≤ maxLen) (hL : longH l = false) (hn60 : name.size ≤ 60) (hkl : k ≤ l.length) (hk : U64 key) (hf : orderFault l = none) (hf2 : orderFault (l ++ [name]) = none) :
    Calls Tryd.prog 5 #[.slice A l.length c, .string name, .int .u64 (key : Int), .int .i64 (k : Int)] w (True1 w) := by
  obtain ⟨hl30, hsz⟩ := long_no hL
  obtain ⟨i0, hi0, hz0, hz1, hz2⟩ := info_parts info_string
  have HL : Hid (∀ W, Below w.heap.size w W → Calls Tryd.prog 13 #[.slice A l.length c] W (LongIs false W)) :=
    Lib.hid fun W hW => by rw [← hL]; exact longHosts_any A c W.heap.size l W (hI.below hW).r hI.lm hI.s
  have HW := Lib.hid (rivals_any ea w hE)
  have t1 : decide ((name.size : Int) > 60) = false := by simp; omega
  have t2 : decide ((k : Int) < 0) = false := by simp
  have t3 : decide ((k : Int) > l.length) = false := by simp; omega
  obtain ⟨h0, hh⟩ := orderFault_none hf
  obtain ⟨_, hh2⟩ := orderFault_none hf2
  have hnd2 := (hostsFault_none.1 hh2).2.2
  have hol := orderB_length key l
  have hom := orderB_length key (l ++ [name])
  rw [List.length_append] at hom
  have hx : (orderB key l)[0]? = some ((orderB key l)[0]'(by omega)) := List.getElem?_eq_getElem (by omega)
  have hy : (orderB key (l ++ [name]))[0]? = some ((orderB key (l ++ [name]))[0]'(by omega)) := List.getElem?_eq_getElem (by omega)
  have hxy := comes_order hnd2 hx hy
  have HN : Hid (∀ W A' c', Below w.heap.size w W → TextsIn W A' c' l → Calls Tryd.prog 21 #[.slice A' l.length c', .int .u64 (key : Int)] W (HostGood ((orderB key l)[0]'(by omega)) W)) :=
    Lib.hid fun W A' c' hW hT => (rhost_any ea A' c' l key W (hE.below hW) hT hk).mono fun e w' h => by
      unfold RHostPost at h
      rw [hf] at h
      obtain ⟨x, hx', hg⟩ := h
      rw [hx] at hx'
      obtain rfl := Option.some.inj hx'
      exact hg
  obtain ⟨m, hm⟩ : ∃ m : List ByteArray, m = l ++ [name] := ⟨_, rfl⟩
  have hml : m.length = l.length + 1 := by rw [hm]; simp
  have hms : ∀ s ∈ m, s.size ≤ maxLen := by rw [hm]; exact name_txs hI.s hn60
  have HN2 : Hid (∀ W A' c', Below w.heap.size w W → Reads W W.heap.size 1 A' m.length (strV m) → m.length ≤ c' → Calls Tryd.prog 21 #[.slice A' m.length c', .int .u64 (key : Int)] W (HostGood ((orderB key (l ++ [name]))[0]'(by omega)) W)) :=
    Lib.hid fun W A' c' hW hr hc => (rhost_any ea A' c' m key W (hE.below hW) ⟨hr, hc, by unfold maxLen; omega, hms⟩ hk).mono fun e w' h => by
      unfold RHostPost at h
      rw [hm, hf2] at h
      obtain ⟨x, hx', hg⟩ := h
      rw [hy] at hx'
      obtain rfl := Option.some.inj hx'
      exact hg
  obtain ⟨o, ho⟩ : ∃ o : List ByteArray, o = l.drop k ++ l.take k := ⟨_, rfl⟩
  have hop : l.Perm o := by
    have h : (l.take k ++ l.drop k).Perm (l.drop k ++ l.take k) := List.perm_append_comm
    rw [List.take_append_drop] at h
    rw [ho]; exact h
  have hool : o.length = l.length := hop.length_eq.symm
  have hos : ∀ s ∈ o, s.size ≤ maxLen := fun s hs => hI.s s (hop.mem_iff.2 hs)
  have HN3 : Hid (∀ W A' c', Below w.heap.size w W → Reads W W.heap.size 1 A' o.length (strV o) → o.length ≤ c' → Calls Tryd.prog 21 #[.slice A' o.length c', .int .u64 (key : Int)] W (HostGood ((orderB key l)[0]'(by omega)) W)) :=
    Lib.hid fun W A' c' hW hr hc => (rhost_any ea A' c' o key W (hE.below hW) ⟨hr, hc, by rw [hool]; exact hI.lm, hos⟩ hk).mono fun e w' h => by
      unfold RHostPost at h
      rw [orderFault_of (by omega) (hosts_perm hop hh), ← orderB_perm key hop] at h
      obtain ⟨x, hx', hg⟩ := h
      rw [hx] at hx'
      obtain rfl := Option.some.inj hx'
      exact hg
  have HML := Lib.hid hml
  have HME : Hid (strV m = strV l ++ [.string name]) := Lib.hid (by rw [hm]; simp [strV])
  have HOE : Hid (strV o = (strV l).drop (k * 1) ++ (strV l).take (k * 1)) := Lib.hid (by rw [ho]; simp [strV, List.map_take, List.map_drop])
  have HOL : Hid (o.length = (l.length - k) + k) := Lib.hid (by omega)
  obtain ⟨ad, hA, _⟩ := strAt_of hI.r h0
  subst hA
  have HI := Lib.hid hI
  have HR1 : Hid (∀ W, Below w.heap.size w W → Reads W W.heap.size 1 (some ad) k ((strV l).take (k * 1))) := Lib.hid fun W hW => ((hI.below hW).r).take2 hkl
  have HO1' := Lib.hid (fun u (hu : u ∈ (strV l).take (k * 1)) => str_one u (List.mem_of_mem_take hu))
  have HO2' := Lib.hid (fun u (hu : u ∈ (strV l).drop (k * 1)) => str_one u (List.mem_of_mem_drop hu))
  have HR2 : Hid (∀ W, Below w.heap.size w W → Reads W W.heap.size 1 (if c = k then some ad else some (ad.add k)) (l.length - k) ((strV l).drop (k * 1))) := Lib.hid fun W hW => by
    have := ((hI.below hW).r).cut (k := k) hkl hI.lc
    simpa using this
  have hlc := hI.lc
  unfold maxLen at hcm
  have hkl2 : (k : Int) ≤ l.length := by omega
  have hkc : (k : Int) ≤ c := by omega
  generalize (orderB key l)[0]'(by omega) = x at *
  generalize (orderB key (l ++ [name]))[0]'(by omega) = y at *
  have q1 : (x.toList == x.toList) = true := by simp
  have hways : ((y.toList == x.toList) = true) ∨ ((y.toList == x.toList) = false ∧ (y.toList == name.toList) = true) := by
    rw [str_eq, str_eq]
    rcases hxy with h | h
    · by_cases h' : y = x
      · exact .inl (by simpa using h')
      · exact .inr ⟨by simpa using h', by simpa using h⟩
    · exact .inl (by simpa using h)
  clear hE hI hf hf2 hL hm hms hsz hml hh hh2 hnd2 hol hom hx hy hxy ho hop hool hos
  rcases hways with q2 | ⟨q2, q3⟩
  all_goals
    go_enter Tryd.func5, Tryd.ntmps5
    go_wp2_with fail
    refine HW.out.mono ?_
    rintro e w1 ⟨rfl, hb1⟩
    go_wp2_with fail
    refine (HL.out _ hb1).mono ?_
    rintro e w2 ⟨rfl, rfl⟩
    go_wp2_with fail
    refine (ownTexts_any (some ad) l.length c w1.heap.size (strV l) w1 (HI.out.below hb1).r str_one (by omega)).mono ?_
    rintro e w2 ⟨A', c', rfl, ho2, hb2⟩
    have hb12 := below_two hb1 hb2
    have hT2 : TextsIn w2 A' c' l := ⟨Reads.of_own ho2, own_ncap2 ho2, HI.out.lm, HI.out.s⟩
    go_wp2_with fail
    refine (HN.out _ _ _ hb12 hT2).mono ?_
    rintro e w3 ⟨rfl, hb3⟩
    have hb13 := below_two hb12 hb3
    clear ho2 hT2 hb12 hb2
    go_wp2_with fail
    refine (ownTexts_any (some ad) l.length c w3.heap.size (strV l) w3 (HI.out.below hb13).r str_one (by omega)).mono ?_
    rintro e w4 ⟨A4, c4, rfl, ho4, hb34⟩
    have hsz4 := hb34.size
    go_wp2_with (at_builtin
                 go_must (refine wpList_append_own _ rfl _ _ 22 rfl w3.heap.size 9 i0 (.string ⟨#[]⟩) 1 16 Tryd.underlying22 hi0 hz0 hz1 hz2 rfl (by decide) _ _ _ rfl (ho4.alloc _) ⟨w4.heap.size, 0, none⟩ 1 1 [.string name] rfl rfl (cell_one_new _ _ _) (by simp [Value.oneCell']) (by simp only [maxLen]; omega) (by omega) (size_alloc1 hb34) ?_)
                 intro v5 w5 hown5 hg5 _
                 rw [← HME.out, ← HML.out] at hown5
                 have hb35 := below_app1 hb34 ho4 hg5
                 have hb5 := below_two hb13 hb35
                 obtain ⟨A5, c5, hv5, hr5, hc5, _⟩ := own_slice hown5
                 subst hv5
                 have HR5 := Lib.hid hr5
                 clear hown5 hg5 hr5)
    refine (HN2.out _ _ _ hb5 HR5.out hc5).mono ?_
    rintro e w6 ⟨rfl, hb6⟩
    have hb16 := below_two hb5 hb6
    clear hb34 hb35 hb5 hb6 ho4 hsz4 hc5
    go_wp2_with (first
      | (at_builtin
         refine wpList_append_any _ rfl (.tmp 70) (.tmp 73) _ rfl w6.heap.size 9 i0 _ 1 16 Tryd.underlying22 hi0 hz0 hz1 hz2 rfl (by omega) (.slice none 0 0) 0 [] rfl (own_none _ _ _) w6.heap.size _ (l.length - k) (c - k) _ rfl (HR2.out _ hb16) HO2'.out (by simp only [maxLen]; omega) (by omega) (Nat.le_refl _) ?_
         intro v1 w7 hown1 hg1 _
         simp only [Nat.zero_add, List.nil_append] at hown1
         have hz7 := hg1.size
         have hb67 := (Below.refl w6.heap.size w6).grown hg1 (Nat.le_refl _) (by simp [Value.ownBlock])
         have hb7 := below_two hb16 hb67
         have HO7 := Lib.hid hown1
         clear hown1 hg1)
      | (at_builtin
         go_must (refine wpList_append_any _ rfl (.tmp 75) (.tmp 78) _ rfl w6.heap.size 9 i0 _ 1 16 Tryd.underlying22 hi0 hz0 hz1 hz2 rfl (by omega) _ (l.length - k) _ rfl HO7.out w7.heap.size (some ad) k c _ rfl (HR1.out _ hb7) HO1'.out (by simp only [maxLen]; omega) (by omega) hz7 ?_)
         intro v2 w8 hown2 hg2 _
         rw [← HOL.out, ← HOE.out] at hown2
         have hb68 := below_app hb67 HO7.out hg2
         have hb8 := below_two hb16 hb68
         obtain ⟨A8, c8, hv8, hr8, hc8, _⟩ := own_slice hown2
         subst hv8
         have HR8 := Lib.hid hr8
         clear hown2 hg2 hr8)
      | fail)
    all_goals
      refine (HN3.out _ _ _ hb8 HR8.out hc8).mono ?_
      rintro e w9 ⟨rfl, hb9⟩
      have hb89 := below_two hb8 hb9
      go_wp2
      go_ret
      exact ⟨rfl, hb89⟩
theorem rivalComes_args (ea : Nat → Addr) (A : Option Addr) (c : Nat) (l : List ByteArray) (name : ByteArray) (key : Nat) (k : Int) (w : World) (hE : ErrsR ea w) (R0 : Reads w w.heap.size 1 A l.length (l.map Value.string)) (lc0 : l.length ≤ c) (cm0 : c ≤ maxLen) (wf0 : ∀ s ∈ l, s.size ≤ maxLen) (hk : U64 key) :
    Calls Tryd.prog 5 #[.slice A l.length c, .string name, .int .u64 (key : Int), .int .i64 k] w (True1 w) := by
  have hI : TextsIn w A c l := ⟨R0, lc0, Nat.le_trans lc0 cm0, wf0⟩
  by_cases hs : longH l = true ∨ 60 < name.size ∨ k < 0 ∨ (l.length : Int) < k
  · exact rcomes_skip ea A c l name key k w hE hI hs
  simp only [not_or, Bool.not_eq_true] at hs
  obtain ⟨hL, h1, h2, h3⟩ := hs
  obtain ⟨k, rfl⟩ := Int.eq_ofNat_of_zero_le (by omega : 0 ≤ k)
  by_cases hf : orderFault l ≠ none ∨ orderFault (l ++ [name]) ≠ none
  · exact rcomes_bad ea A c l name key k w hE hI hL (by omega) (by omega) hk hf
  · simp only [not_or, Classical.not_not] at hf
    exact rcomes_good ea A c l name key k w hE hI cm0 hL (by omega) (by omega) hk hf.1 hf.2
end Go.Proofs.YtbbbnnooaaelmaaDoor
