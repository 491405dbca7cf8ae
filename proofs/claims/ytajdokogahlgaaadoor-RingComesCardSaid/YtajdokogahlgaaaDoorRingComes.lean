/-
  The law RingComes.
-/
import Derived.Test.YtajdokogahlgaaaDoorGoesWalk
namespace Go.Proofs.YtajdokogahlgaaaDoor
open Go.RowKit Go.Sort

def NewPost (ea : Nat → Addr) (l : List ByteArray) (copies : Int) (w : World) (e : Ending) (w' : World) : Prop := match ringFault l copies with
  | some f => RingBad ea f w e w'
  | none => RingMade l copies.toNat w e w'
theorem ringNew_either (ea : Nat → Addr) (A : Option Addr) (c B : Nat) (l : List ByteArray) (copies : Int) (w : World) (hE : ErrsR ea w) (hr : Reads w B 1 A l.length (strV l)) (hB : B ≤ w.heap.size) (hlc : l.length ≤ c) (hl : l.length ≤ maxLen) (hs : ∀ s ∈ l, s.size ≤ maxLen) :
    Calls Tryd.prog 37 #[.slice A l.length c, .int .i64 copies] w (NewPost ea l copies w) := by
  unfold NewPost
  cases hf : ringFault l copies with
  | some f => exact ringNew_bad ea A c B l copies f w hE hr hB hlc hl hs hf
  | none =>
    obtain ⟨_, _, hc1, _⟩ := ringFault_none hf
    obtain ⟨cp, rfl⟩ := Int.eq_ofNat_of_zero_le (by omega : 0 ≤ copies)
    exact ringNew_made ea A c B l cp w hE.e3 hr hB hlc hl hs hf
theorem comes_plain {l : List ByteArray} {name : ByteArray} {copies : Nat} (key : Nat) (hn : 0 < l.length) (hnd : (l ++ [name]).Nodup) (hc : 1 ≤ copies) :
    ∃ x y, (hostsOf l copies key)[0]? = some x ∧ (hostsOf (l ++ [name]) copies key)[0]? = some y ∧ nextGo 1 [] (hostsOf (l ++ [name]) copies key) = [y] ∧ (y = name ∨ x = y) := by
  have hni : name ∉ l := fun h => by
    have := (List.nodup_append.1 hnd).2.2 name h name (by simp)
    exact this rfl
  have hl : l = (l ++ [name]).filter fun y => decide (y ≠ name) := by
    rw [List.filter_append]
    have h1 : (l.filter fun y => decide (y ≠ name)) = l := List.filter_eq_self.2 fun y hy => by
      have : y ≠ name := fun e => hni (e ▸ hy)
      simpa using this
    rw [h1]; simp
  have hm1 : l[0] ∈ hostsOf l copies key := mem_hostsOf (List.getElem_mem hn) hc
  have hm2 : l[0] ∈ hostsOf (l ++ [name]) copies key := mem_hostsOf (List.mem_append_left _ (List.getElem_mem hn)) hc
  have hf : hostsOf l copies key = (hostsOf (l ++ [name]) copies key).filter fun y => decide (y ≠ name) := by
    rw [← hostsOf_filter, ← hl]
  generalize hostsOf (l ++ [name]) copies key = H at *
  generalize hostsOf l copies key = H1 at *
  cases H with
  | nil => cases hm2
  | cons y r =>
    cases H1 with
    | nil => cases hm1
    | cons x r1 =>
      refine ⟨x, y, rfl, rfl, ?_, ?_⟩
      · rw [nextGo_more (by simp) (by rfl), nextGo_stop (by simp)]; rfl
      · by_cases hy : y = name
        · exact .inl hy
        · right
          rw [List.filter_cons, if_pos (by simpa using hy)] at hf
          exact (List.cons.inj hf).1
def OnePost (y : ByteArray) (w : World) (e : Ending) (w' : World) : Prop := ∃ g cap, e = .returned (.slice (some ⟨g, 0, none⟩) 1 cap) ∧ w'.cell? ⟨g, 0, none⟩ = some (.string y) ∧ 1 ≤ cap ∧ Below w.heap.size w w'
theorem onePost_of {y : ByteArray} {w w' : World} {e : Ending} (h : TextsPost [y] w e w') : OnePost y w e w' := by
  obtain ⟨A, cap, he, ho, hb⟩ := h
  have hc := own_ncap2 ho
  obtain ⟨g, cap', hv, _, _⟩ := ho.form (by simp)
  have hA : A = some ⟨g, 0, none⟩ := by injection hv
  subst hA
  exact ⟨g, cap, he, (ho.cellAt 0 (by simp)).trans rfl, hc, hb⟩
def ComesIs (rp1 rp2 : Nat) (keys : List Nat) (name : ByteArray) (w : World) : Prop :=
  ∀ i, i < keys.length → ∃ x y k, keys[i]? = some k ∧ (((x.toList == y.toList) = true) ∨ ((x.toList == y.toList) = false ∧ (y.toList == name.toList) = true)) ∧ ∀ W, Below w.heap.size w W →
    (Calls Tryd.prog 38 #[.pointer (some ⟨rp1, 0, none⟩), .int .u64 (k : Int)] W (HostPost x W)) ∧
    (Calls Tryd.prog 38 #[.pointer (some ⟨rp2, 0, none⟩), .int .u64 (k : Int)] W (HostPost y W)) ∧
    (Calls Tryd.prog 39 #[.pointer (some ⟨rp2, 0, none⟩), .int .u64 (k : Int), .int .i64 1] W (OnePost y W))
theorem comesIs_of {rp1 rp2 cp : Nat} {l : List ByteArray} {name : ByteArray} {keys : List Nat} {w : World} (hn : 0 < l.length) (hnd : (l ++ [name]).Nodup) (hc : 1 ≤ cp) (hU : ∀ k ∈ keys, U64 k) (h1 : RingIs rp1 l cp w) (h2 : RingIs rp2 (l ++ [name]) cp w) : ComesIs rp1 rp2 keys name w := by
  intro i hi
  obtain ⟨x, y, a, b, c, d⟩ := comes_plain keys[i] hn hnd hc
  have hu := hU _ (List.getElem_mem hi)
  refine ⟨x, y, keys[i], List.getElem?_eq_getElem hi, ?_, fun W hW => ⟨ringIs_host (h1.below hW) hu a, ringIs_host (h2.below hW) hu b, ?_⟩⟩
  · rw [str_eq, str_eq]
    by_cases hx : x = y
    · exact .inl (by simpa using hx)
    · exact .inr ⟨by simpa using hx, by simpa [hx] using d⟩
  · have := ringIs_next 1 (h2.below hW) hu
    rw [c] at this
    exact this.mono fun e w' h => onePost_of h
theorem comes_ways (lg : Bool) (n m : Nat) (h : lg = true ∨ 60 < n ∨ 60 < m) :
    (lg = true) ∨ (lg = false ∧ decide ((n : Int) > 60) = true) ∨ (lg = false ∧ decide ((n : Int) > 60) = false ∧ decide ((m : Int) > 60) = true) := by
  cases lg <;> simp only [decide_eq_true_eq, decide_eq_false_iff_not] <;> simp <;> simp at h <;> omega

set_option maxRecDepth 100000 in
set_option maxHeartbeats 2000000 in
theorem comes_skip (ea : Nat → Addr) (A : Option Addr) (c : Nat) (l : List ByteArray) (name : ByteArray) (copies : Int) (A3 : Option Addr) (c3 : Nat) (keys : List Nat) (w : World) (hE : ErrsR ea w) (hI : RingIn w A c l A3 keys) (h : longH l = true ∨ 60 < name.size ∨ 60 < keys.length) :
    Calls Tryd.prog 6 #[.slice A l.length c, .string name, .int .i64 copies, .slice A3 keys.length c3] w (True1 w) := by
  have hm := Nat.le_trans hI.lc hI.cm
  have hk := hI.km
  unfold maxLen at hm hk
  have HL : Hid (∀ W, Below w.heap.size w W → Calls Tryd.prog 18 #[.slice A l.length c] W (LongIs (longH l) W)) :=
    Lib.hid fun W hW => longHosts_any A c W.heap.size l W (hI.below hW).r (Nat.le_trans hI.lc hI.cm) hI.s
  have HW := Lib.hid (ringed_any ea w hE)
  have hways := comes_ways (longH l) name.size keys.length h
  generalize longH l = lg at *
  clear hE hI h
  rcases hways with rfl | ⟨rfl, t1⟩ | ⟨rfl, t1, t2⟩
  all_goals
    go_enter Tryd.func6, Tryd.ntmps6
    go_wp2_with fail
    refine HW.out.mono ?_
    rintro e w1 ⟨rfl, hb1⟩
    go_wp2_with fail
    refine (HL.out _ hb1).mono ?_
    rintro e w2 ⟨rfl, rfl⟩
    go_wp2
    go_ret
    exact ⟨rfl, hb1⟩

set_option maxRecDepth 100000 in
set_option maxHeartbeats 2000000 in
theorem comes_bad (ea : Nat → Addr) (A : Option Addr) (c : Nat) (l : List ByteArray) (name : ByteArray) (copies : Int) (A3 : Option Addr) (c3 : Nat) (keys : List Nat) (w : World) (hE : ErrsR ea w) (hI : RingIn w A c l A3 keys) (hL : longH l = false) (hn60 : name.size ≤ 60) (h60 : keys.length ≤ 60) (hf : ringFault l copies ≠ none ∨ ringFault (l ++ [name]) copies ≠ none) :
    Calls Tryd.prog 6 #[.slice A l.length c, .string name, .int .i64 copies, .slice A3 keys.length c3] w (True1 w) := by
  obtain ⟨hl30, hsz⟩ := long_no hL
  obtain ⟨i0, hi0, hz0, hz1, hz2⟩ := info_parts info_string
  have HL : Hid (∀ W, Below w.heap.size w W → Calls Tryd.prog 18 #[.slice A l.length c] W (LongIs false W)) :=
    Lib.hid fun W hW => by rw [← hL]; exact longHosts_any A c W.heap.size l W (hI.below hW).r (Nat.le_trans hI.lc hI.cm) hI.s
  have HW := Lib.hid (ringed_any ea w hE)
  have t1 : decide ((name.size : Int) > 60) = false := by simp; omega
  have t4 : decide ((keys.length : Int) > 60) = false := by simp; omega
  have HN : Hid (∀ W A' c', Below w.heap.size w W → Reads W W.heap.size 1 A' l.length (strV l) → l.length ≤ c' → Calls Tryd.prog 37 #[.slice A' l.length c', .int .i64 copies] W (NewPost ea l copies W)) :=
    Lib.hid fun W A' c' hW hr hc => ringNew_either ea A' c' W.heap.size l copies W (hE.below hW) hr (Nat.le_refl _) hc (Nat.le_trans hI.lc hI.cm) hI.s
  obtain ⟨m, hm⟩ : ∃ m : List ByteArray, m = l ++ [name] := ⟨_, rfl⟩
  have hml : m.length = l.length + 1 := by rw [hm]; simp
  have hms : ∀ s ∈ m, s.size ≤ maxLen := fun s hs => by
    rw [hm] at hs
    rcases List.mem_append.1 hs with hs | hs
    · exact hI.s s hs
    · obtain rfl : s = name := by simpa using hs
      unfold maxLen; omega
  have HN2 : Hid (∀ W A' c', Below w.heap.size w W → Reads W W.heap.size 1 A' m.length (strV m) → m.length ≤ c' → Calls Tryd.prog 37 #[.slice A' m.length c', .int .i64 copies] W (NewPost ea m copies W)) :=
    Lib.hid fun W A' c' hW hr hc => ringNew_either ea A' c' W.heap.size m copies W (hE.below hW) hr (Nat.le_refl _) hc (by unfold maxLen; omega) hms
  have HML := Lib.hid hml
  have HME : Hid (strV m = strV l ++ [.string name]) := Lib.hid (by rw [hm]; simp [strV])
  rw [← hm] at hf
  have HI := Lib.hid hI
  unfold NewPost at HN HN2
  generalize hfa : ringFault l copies = fa at *
  generalize hfb : ringFault m copies = fb at *
  clear hE hI hL hm hms hsz hfa hfb hml
  rcases fa with _ | fa <;> rcases fb with _ | fb
  case none.none => simp at hf
  all_goals
    clear hf
    go_enter Tryd.func6, Tryd.ntmps6
    go_wp2_with fail
    refine HW.out.mono ?_
    rintro e w1 ⟨rfl, hb1⟩
    go_wp2_with fail
    refine (HL.out _ hb1).mono ?_
    rintro e w2 ⟨rfl, rfl⟩
    go_wp2_with fail
    refine (ownTexts_any A l.length c w1.heap.size (strV l) w1 (HI.out.below hb1).r str_one (by omega)).mono ?_
    rintro e w2 ⟨A', c', rfl, ho2, hb2⟩
    have hb12 := below_two hb1 hb2
    have hr2 := Reads.of_own ho2
    have hnc := own_ncap2 ho2
    go_wp2_with fail
    refine (HN.out _ _ _ hb12 hr2 hnc).mono ?_
    first | rintro e w3 ⟨rp1, a1, rfl, _, hb3⟩ | rintro e w3 ⟨rp1, rfl, _, hb3⟩
    have hb13 := below_two hb12 hb3
    clear ho2 hr2 hnc hb12 hb2
    go_wp2_with fail
    refine (ownTexts_any A l.length c w3.heap.size (strV l) w3 (HI.out.below hb13).r str_one (by omega)).mono ?_
    rintro e w4 ⟨A4, c4, rfl, ho4, hb34⟩
    have hsz4 := hb34.size
    go_wp2_with (at_builtin
                 go_must (refine wpList_append_own _ rfl _ _ 39 rfl w3.heap.size 9 i0 (.string ⟨#[]⟩) 1 16 Tryd.underlying39 hi0 hz0 hz1 hz2 rfl (by decide) _ _ _ rfl (ho4.alloc _) ⟨w4.heap.size, 0, none⟩ 1 1 [.string name] rfl rfl (cell_one_new _ _ _) (by simp [Value.oneCell']) (by simp only [maxLen]; omega) (by omega) (size_alloc1 hb34) ?_)
                 intro v5 w5 hown5 hg5 _
                 rw [← HME.out, ← HML.out] at hown5
                 have hb35 := below_app1 hb34 ho4 hg5
                 have hb5 := below_two hb13 hb35
                 obtain ⟨A5, c5, hv5, hr5, hc5, _⟩ := own_slice hown5
                 subst hv5
                 have HR5 := Lib.hid hr5
                 clear hown5 hg5 hr5)
    refine (HN2.out _ _ _ hb5 HR5.out hc5).mono ?_
    first | rintro e w6 ⟨rp2, a2, rfl, _, hb6⟩ | rintro e w6 ⟨rp2, rfl, _, hb6⟩
    have hb56 := below_two hb5 hb6
    go_wp2
    go_ret
    exact ⟨rfl, hb56⟩

set_option maxRecDepth 100000 in
set_option maxHeartbeats 2000000 in
theorem comes_good (ea : Nat → Addr) (A : Option Addr) (c : Nat) (l : List ByteArray) (name : ByteArray) (copies : Int) (A3 : Option Addr) (c3 : Nat) (keys : List Nat) (w : World) (hE : ErrsR ea w) (hI : RingIn w A c l A3 keys) (hL : longH l = false) (hn60 : name.size ≤ 60) (h60 : keys.length ≤ 60) (hf : ringFault l copies = none) (hf2 : ringFault (l ++ [name]) copies = none) :
    Calls Tryd.prog 6 #[.slice A l.length c, .string name, .int .i64 copies, .slice A3 keys.length c3] w (True1 w) := by
  obtain ⟨hl30, hsz⟩ := long_no hL
  obtain ⟨i0, hi0, hz0, hz1, hz2⟩ := info_parts info_string
  have HL : Hid (∀ W, Below w.heap.size w W → Calls Tryd.prog 18 #[.slice A l.length c] W (LongIs false W)) :=
    Lib.hid fun W hW => by rw [← hL]; exact longHosts_any A c W.heap.size l W (hI.below hW).r (Nat.le_trans hI.lc hI.cm) hI.s
  have HW := Lib.hid (ringed_any ea w hE)
  have t1 : decide ((name.size : Int) > 60) = false := by simp; omega
  have t4 : decide ((keys.length : Int) > 60) = false := by simp; omega
  have HN : Hid (∀ W A' c', Below w.heap.size w W → Reads W W.heap.size 1 A' l.length (strV l) → l.length ≤ c' → Calls Tryd.prog 37 #[.slice A' l.length c', .int .i64 copies] W (NewPost ea l copies W)) :=
    Lib.hid fun W A' c' hW hr hc => ringNew_either ea A' c' W.heap.size l copies W (hE.below hW) hr (Nat.le_refl _) hc (Nat.le_trans hI.lc hI.cm) hI.s
  obtain ⟨m, hm⟩ : ∃ m : List ByteArray, m = l ++ [name] := ⟨_, rfl⟩
  have hml : m.length = l.length + 1 := by rw [hm]; simp
  have hms : ∀ s ∈ m, s.size ≤ maxLen := fun s hs => by
    rw [hm] at hs
    rcases List.mem_append.1 hs with hs | hs
    · exact hI.s s hs
    · obtain rfl : s = name := by simpa using hs
      unfold maxLen; omega
  have HN2 : Hid (∀ W A' c', Below w.heap.size w W → Reads W W.heap.size 1 A' m.length (strV m) → m.length ≤ c' → Calls Tryd.prog 37 #[.slice A' m.length c', .int .i64 copies] W (NewPost ea m copies W)) :=
    Lib.hid fun W A' c' hW hr hc => ringNew_either ea A' c' W.heap.size m copies W (hE.below hW) hr (Nat.le_refl _) hc (by unfold maxLen; omega) hms
  have HML := Lib.hid hml
  have HME : Hid (strV m = strV l ++ [.string name]) := Lib.hid (by rw [hm]; simp [strV])
  obtain ⟨h0, _, hc1, _⟩ := ringFault_none hf
  have hnd := (hostsFault_none.1 (ringFault_none hf2).2.1).2.2
  rw [← hm] at hf2
  have HG : Hid (∀ rp1 rp2 W, RingIs rp1 l copies.toNat W → RingIs rp2 m copies.toNat W → ComesIs rp1 rp2 keys name W) :=
    Lib.hid fun rp1 rp2 W a b => comesIs_of h0 hnd (by omega) hI.u a (hm ▸ b)
  have HI := Lib.hid hI
  unfold NewPost at HN HN2
  rw [hf] at HN
  rw [hf2] at HN2
  clear hE hI hL hm hms hsz hf hf2 hml hnd h0 hc1
  go_enter Tryd.func6, Tryd.ntmps6
  go_wp2_with fail
  refine HW.out.mono ?_
  rintro e w1 ⟨rfl, hb1⟩
  go_wp2_with fail
  refine (HL.out _ hb1).mono ?_
  rintro e w2 ⟨rfl, rfl⟩
  go_wp2_with fail
  refine (ownTexts_any A l.length c w1.heap.size (strV l) w1 (HI.out.below hb1).r str_one (by omega)).mono ?_
  rintro e w2 ⟨A', c', rfl, ho2, hb2⟩
  have hb12 := below_two hb1 hb2
  have hr2 := Reads.of_own ho2
  have hnc := own_ncap2 ho2
  go_wp2_with fail
  refine (HN.out _ _ _ hb12 hr2 hnc).mono ?_
  rintro e w3 ⟨rp1, rfl, hR1, hb3⟩
  have HRA := Lib.hid hR1
  clear hR1
  have hb13 := below_two hb12 hb3
  clear ho2 hr2 hnc hb12 hb2
  go_wp2_with fail
  refine (ownTexts_any A l.length c w3.heap.size (strV l) w3 (HI.out.below hb13).r str_one (by omega)).mono ?_
  rintro e w4 ⟨A4, c4, rfl, ho4, hb34⟩
  have hsz4 := hb34.size
  go_wp2_with (at_builtin
               go_must (refine wpList_append_own _ rfl _ _ 39 rfl w3.heap.size 9 i0 (.string ⟨#[]⟩) 1 16 Tryd.underlying39 hi0 hz0 hz1 hz2 rfl (by decide) _ _ _ rfl (ho4.alloc _) ⟨w4.heap.size, 0, none⟩ 1 1 [.string name] rfl rfl (cell_one_new _ _ _) (by simp [Value.oneCell']) (by simp only [maxLen]; omega) (by omega) (size_alloc1 hb34) ?_)
               intro v5 w5 hown5 hg5 _
               rw [← HME.out, ← HML.out] at hown5
               have hb35 := below_app1 hb34 ho4 hg5
               have hb5 := below_two hb13 hb35
               obtain ⟨A5, c5, hv5, hr5, hc5, _⟩ := own_slice hown5
               subst hv5
               have HR5 := Lib.hid hr5
               clear hown5 hg5 hr5)
  refine (HN2.out _ _ _ hb5 HR5.out hc5).mono ?_
  rintro e w6 ⟨rp2, rfl, hR2, hb6⟩
  have hb56 := below_two hb5 hb6
  have HGI := Lib.hid (HG.out rp1 rp2 w6 ((HRA.out.below hb35).below hb6) hR2)
  clear hR2 hc5 hb35 hb34 hb5 hb6 hsz4
  go_wp2_with fail
  go_loopw [14] (fun iv wr => ∃ i : Nat, i ≤ keys.length ∧ iv = .int .i64 (i : Int) ∧ Below w6.heap.size w6 wr) (fun iv _ => keys.length - (intOf iv).toNat)
  case atStart => exact ⟨0, Nat.zero_le _, rfl, Below.refl _ _⟩
  case round =>
    obtain ⟨i, hi, rfl, hb⟩ := hrel
    by_cases hlt : i < keys.length
    · obtain ⟨x, y, key, hkey, hxy, hcalls⟩ := HGI.out i hlt
      have hbr := below_two hb56 hb
      obtain ⟨ad3, rfl, hK⟩ := keyAt2_of (HI.out.below hbr).k hlt
      rw [List.getElem?_eq_getElem hlt] at hkey
      have hkey := Option.some.inj hkey
      rw [hkey] at hK
      have HC := Lib.hid hcalls
      have HK := Lib.hid hK
      have k1 : decide ((i : Int) < keys.length) = true := by simp; omega
      have hlt2 : (i : Int) < keys.length := by omega
      have c0 := HK.out wr (Below.refl _ _)
      clear hcalls hK hkey
      rcases hxy with tx | ⟨tx, ty⟩
      all_goals
        go_wp2_with fail
        refine (HC.out _ hb).1.mono ?_
        rintro e w7 ⟨rfl, hb7⟩
        have c7 := HK.out w7 hb7
        have hb67 := below_two hb hb7
        go_wp2_with fail
        refine (HC.out _ hb67).2.1.mono ?_
        rintro e w8 ⟨rfl, hb8⟩
        have hb78 := below_two hb7 hb8
        have c8 := HK.out w8 hb78
        have hb68 := below_two hb67 hb8
        go_wp2_with fail
        refine (HC.out _ hb68).2.2.mono ?_
        rintro e w9 ⟨g9, c9, rfl, d0, hc9, hb9⟩
        have hb69 := below_two hb68 hb9
        go_wp2
        go_roundw
        case rel => exact ⟨i + 1, by omega, by go_num, hb69⟩
        case measure => simp [intOf]; omega
    · obtain rfl : i = keys.length := by omega
      have k1 : decide ((keys.length : Int) < keys.length) = false := by simp
      go_wp2
      go_ret
      exact ⟨rfl, below_two hb56 hb⟩

theorem ringComes_args (ea : Nat → Addr) (A : Option Addr) (c : Nat) (l : List ByteArray) (name : ByteArray) (copies : Int) (A3 : Option Addr) (c3 : Nat) (l3 : List Int) (w : World) (hE : ErrsR ea w) (R0 : Reads w w.heap.size 1 A l.length (l.map Value.string)) (lc0 : l.length ≤ c) (cm0 : c ≤ maxLen) (wf0 : ∀ s ∈ l, s.size ≤ maxLen)
    (R3 : Reads w w.heap.size 1 A3 l3.length (l3.map (Value.int .u64))) (m3 : l3.length ≤ maxLen) (wf3 : ∀ n ∈ l3, (Lit.int .u64 n).wf = true) :
    Calls Tryd.prog 6 #[.slice A l.length c, .string name, .int .i64 copies, .slice A3 l3.length c3] w (True1 w) := by
  obtain ⟨keys, he, hr, hu⟩ := keys_arg R3 wf3
  rw [he]
  have hI : RingIn w A c l A3 keys := ⟨R0, lc0, cm0, wf0, hr, by omega, hu⟩
  by_cases hs : longH l = true ∨ 60 < name.size ∨ 60 < keys.length
  · exact comes_skip ea A c l name copies A3 c3 keys w hE hI hs
  simp only [not_or, Bool.not_eq_true, Nat.not_lt] at hs
  obtain ⟨hL, h1, h2⟩ := hs
  by_cases hf : ringFault l copies = none ∧ ringFault (l ++ [name]) copies = none
  · exact comes_good ea A c l name copies A3 c3 keys w hE hI hL h1 h2 hf.1 hf.2
  · exact comes_bad ea A c l name copies A3 c3 keys w hE hI hL h1 h2 (by
      by_cases h : ringFault l copies = none
      · exact .inr fun h' => hf ⟨h, h'⟩
      · exact .inl h)
end Go.Proofs.YtajdokogahlgaaaDoor
