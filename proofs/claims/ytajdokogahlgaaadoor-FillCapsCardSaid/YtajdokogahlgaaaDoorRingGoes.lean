/-
  The law RingGoes: its walk.
-/
import Derived.Test.YtajdokogahlgaaaDoorRinged
import Derived.Test.YtajdokogahlgaaaDoorOwn
namespace Go.Proofs.YtajdokogahlgaaaDoor
open Go.RowKit Go.Sort

theorem next_two {x : ByteArray} : ∀ (r : List ByteArray), (∃ y ∈ r, y ≠ x) → ∃ z, nextGo 2 [x] r = [x, z] ∧ (r.filter fun y => decide (y ≠ x))[0]? = some z
  | [], h => by obtain ⟨y, hy, _⟩ := h; cases hy
  | y :: r, h => by
      by_cases hy : y = x
      · subst hy
        rw [nextGo_skip (by simp) (has_iff.2 (by simp))]
        obtain ⟨y', hy', hne⟩ := h
        rcases List.mem_cons.1 hy' with e | hy'
        · exact absurd e hne
        · obtain ⟨z, h1, h2⟩ := next_two r ⟨y', hy', hne⟩
          exact ⟨z, h1, by simpa using h2⟩
      · have hh : has [x] y = false := by
          rw [← Bool.not_eq_true, has_iff]; simpa using hy
        rw [nextGo_more (by simp) hh, nextGo_stop (by simp)]
        exact ⟨y, rfl, by simp [hy]⟩
theorem goes_plain {l : List ByteArray} {copies : Nat} (key : Nat) (hn : 2 ≤ l.length) (hnd : l.Nodup) (hc : 1 ≤ copies) (g : ByteArray) :
    ∃ x z, (hostsOf l copies key)[0]? = some x ∧ nextGo 2 [] (hostsOf l copies key) = [x, z] ∧ (hostsOf (l.filter fun y => decide (y ≠ g)) copies key)[0]? = some (if x = g then z else x) := by
  rw [hostsOf_filter]
  have hmem : ∀ y ∈ l, y ∈ hostsOf l copies key := fun y hy => mem_hostsOf hy hc
  generalize hostsOf l copies key = H at *
  cases H with
  | nil => have := hmem l[0] (List.getElem_mem _); cases this
  | cons x r =>
    have hex : ∃ y ∈ r, y ≠ x := by
      have hne : l[0] ≠ l[1] := List.pairwise_iff_getElem.1 hnd 0 1 (by omega) (by omega) (by omega)
      by_cases h0 : l[0] = x
      · have h1 : l[1] ≠ x := fun e => hne (h0.trans e.symm)
        rcases List.mem_cons.1 (hmem l[1] (List.getElem_mem _)) with e | h
        · exact absurd e h1
        · exact ⟨_, h, h1⟩
      · rcases List.mem_cons.1 (hmem l[0] (List.getElem_mem _)) with e | h
        · exact absurd e h0
        · exact ⟨_, h, h0⟩
    obtain ⟨z, h1, h2⟩ := next_two r hex
    refine ⟨x, z, rfl, ?_, ?_⟩
    · rw [nextGo_more (by simp) (by rfl)]; exact h1
    · by_cases hx : x = g
      · subst hx
        rw [if_pos rfl]
        simpa using h2
      · rw [if_neg hx]
        simp [hx]
theorem erase_filter : ∀ {l : List ByteArray} (_ : l.Nodup) {k : Nat} (hk : k < l.length), l.take k ++ l.drop (k + 1) = l.filter fun y => decide (y ≠ l[k])
  | [], _, k, hk => absurd hk (by simp)
  | a :: l, h, 0, _ => by
      have ha : a ∉ l := (List.nodup_cons.1 h).1
      simp only [List.take_zero, List.nil_append, List.drop_succ_cons, List.drop_zero, List.getElem_cons_zero]
      rw [List.filter_cons]
      simp only [ne_eq, not_true_eq_false, decide_false, Bool.false_eq_true, if_false]
      refine (List.filter_eq_self.2 fun y hy => ?_).symm
      have : y ≠ a := fun e => ha (e ▸ hy)
      simpa using this
  | a :: l, h, k + 1, hk => by
      have ha : a ∉ l := (List.nodup_cons.1 h).1
      have hkl : k < l.length := by simpa using hk
      have hne : a ≠ l[k] := fun e => ha (e ▸ List.getElem_mem hkl)
      simp only [List.take_succ_cons, List.cons_append, List.drop_succ_cons, List.getElem_cons_succ]
      rw [List.filter_cons]
      simp only [ne_eq, hne, not_false_eq_true, decide_true, if_true]
      rw [erase_filter (List.nodup_cons.1 h).2 hkl]

/-- The inputs of the law. -/
structure RingIn (w : World) (A : Option Addr) (c : Nat) (l : List ByteArray) (A3 : Option Addr) (keys : List Nat) : Prop where
  r : Reads w w.heap.size 1 A l.length (strV l)
  lc : l.length ≤ c
  cm : c ≤ maxLen
  s : ∀ s ∈ l, s.size ≤ maxLen
  k : Reads w w.heap.size 1 A3 keys.length (keysV keys)
  km : keys.length ≤ maxLen
  u : ∀ k ∈ keys, U64 k
theorem RingIn.below {w w' : World} {A : Option Addr} {c : Nat} {l : List ByteArray} {A3 : Option Addr} {keys : List Nat} (h : RingIn w A c l A3 keys) (hb : Below w.heap.size w w') : RingIn w' A c l A3 keys :=
  ⟨(h.r.below hb).more hb.size, h.lc, h.cm, h.s, (h.k.below hb).more hb.size, h.km, h.u⟩
theorem own_ncap2 {w : World} {b size n cap : Nat} {A : Option Addr} {e : TypeId} {xs : List Value} (h : w.ownsRow b e size (.slice A n cap) n xs) : n ≤ cap := by
  rcases h.2 with ⟨_, h0⟩ | ⟨g', cap', cur, he, _, _, hnc, _⟩
  · omega
  · injection he with _ _ hcap; omega
def KeyAt2 (ad : Addr) (k x : Nat) (w : World) : Prop := ∀ W, Below w.heap.size w W → W.cell? (ad.add k) = some (.int .u64 (x : Int))
theorem keyAt2_of {w : World} {A : Option Addr} {l : List Nat} {k : Nat} (h : Reads w w.heap.size 1 A l.length (keysV l)) (hk : k < l.length) : ∃ ad, A = some ad ∧ KeyAt2 ad k l[k] w := by
  obtain ⟨ad, u, hA, hb, hx, hc⟩ := h.at_ hk
  refine ⟨ad, hA, fun W hW => ?_⟩
  rw [hW.cell (by rw [block_of_add]; exact hb), hc]
  simp [keysV, hk] at hx
  rw [hx]
theorem str_one {l : List ByteArray} : ∀ u ∈ strV l, u.oneCell' = true := by
  intro u hu
  obtain ⟨x, _, rfl⟩ := List.mem_map.1 hu
  rfl

/-- Which of the ways out the sizes take. -/
theorem goes_ways (lg : Bool) (n m : Nat) (which : Int) (h : lg = true ∨ which < 0 ∨ (n : Int) ≤ which ∨ n < 2 ∨ 60 < m) :
    (lg = true) ∨ (lg = false ∧ decide (which < 0) = true) ∨ (lg = false ∧ decide (which < 0) = false ∧ decide (which ≥ n) = true) ∨ (lg = false ∧ decide (which < 0) = false ∧ decide (which ≥ n) = false ∧ decide ((n : Int) < 2) = true) ∨
      (lg = false ∧ decide (which < 0) = false ∧ decide (which ≥ n) = false ∧ decide ((n : Int) < 2) = false ∧ decide ((m : Int) > 60) = true) := by
  cases lg <;> simp only [decide_eq_true_eq, decide_eq_false_iff_not] <;> simp <;> simp at h <;> omega

set_option maxRecDepth 100000 in
set_option maxHeartbeats 2000000 in
theorem goes_skip (ea : Nat → Addr) (A : Option Addr) (c : Nat) (l : List ByteArray) (copies which : Int) (A3 : Option Addr) (c3 : Nat) (keys : List Nat) (w : World) (hE : ErrsR ea w) (hI : RingIn w A c l A3 keys) (h : longH l = true ∨ which < 0 ∨ (l.length : Int) ≤ which ∨ l.length < 2 ∨ 60 < keys.length) :
    Calls Tryd.prog 5 #[.slice A l.length c, .int .i64 copies, .int .i64 which, .slice A3 keys.length c3] w (True1 w) := by
  have hm := Nat.le_trans hI.lc hI.cm
  have hk := hI.km
  unfold maxLen at hm hk
  have HL : Hid (∀ W, Below w.heap.size w W → Calls Tryd.prog 18 #[.slice A l.length c] W (LongIs (longH l) W)) :=
    Lib.hid fun W hW => longHosts_any A c W.heap.size l W (hI.below hW).r (Nat.le_trans hI.lc hI.cm) hI.s
  have HW := Lib.hid (ringed_any ea w hE)
  have hways := goes_ways (longH l) l.length keys.length which h
  generalize longH l = lg at *
  clear hE hI h
  rcases hways with rfl | ⟨rfl, t1⟩ | ⟨rfl, t1, t2⟩ | ⟨rfl, t1, t2, t3⟩ | ⟨rfl, t1, t2, t3, t4⟩
  all_goals
    go_enter Tryd.func5, Tryd.ntmps5
    go_wp2_with fail
    refine HW.out.mono ?_
    rintro e w1 ⟨rfl, hb1⟩
    go_wp2_with fail
    refine (HL.out _ hb1).mono ?_
    rintro e w2 ⟨rfl, rfl⟩
    go_wp2
    go_ret
    exact ⟨rfl, hb1⟩

set_option maxRecDepth 100000 in
set_option maxHeartbeats 2000000 in
theorem goes_bad (ea : Nat → Addr) (A : Option Addr) (c : Nat) (l : List ByteArray) (copies : Int) (which : Nat) (A3 : Option Addr) (c3 : Nat) (keys : List Nat) (f : Flt) (w : World) (hE : ErrsR ea w) (hI : RingIn w A c l A3 keys) (hL : longH l = false) (hw : which < l.length) (h2 : 2 ≤ l.length) (h60 : keys.length ≤ 60) (hf : ringFault l copies = some f) :
    Calls Tryd.prog 5 #[.slice A l.length c, .int .i64 copies, .int .i64 (which : Int), .slice A3 keys.length c3] w (True1 w) := by
  obtain ⟨hl30, _⟩ := long_no hL
  have HL : Hid (∀ W, Below w.heap.size w W → Calls Tryd.prog 18 #[.slice A l.length c] W (LongIs false W)) :=
    Lib.hid fun W hW => by rw [← hL]; exact longHosts_any A c W.heap.size l W (hI.below hW).r (Nat.le_trans hI.lc hI.cm) hI.s
  have HW := Lib.hid (ringed_any ea w hE)
  have t1 : decide ((which : Int) < 0) = false := by simp
  have t2 : decide ((which : Int) ≥ l.length) = false := by simp; omega
  have t3 : decide ((l.length : Int) < 2) = false := by simp; omega
  have t4 : decide ((keys.length : Int) > 60) = false := by simp; omega
  have HN : Hid (∀ W A' c', Below w.heap.size w W → Reads W W.heap.size 1 A' l.length (strV l) → l.length ≤ c' → Calls Tryd.prog 37 #[.slice A' l.length c', .int .i64 copies] W (RingBad ea f W)) :=
    Lib.hid fun W A' c' hW hr hc => ringNew_bad ea A' c' W.heap.size l copies f W (hE.below hW) hr (Nat.le_refl _) hc (Nat.le_trans hI.lc hI.cm) hI.s hf
  have HI := Lib.hid hI
  clear hE hI hf hL
  go_enter Tryd.func5, Tryd.ntmps5
  go_wp2_with fail
  refine HW.out.mono ?_
  rintro e w1 ⟨rfl, hb1⟩
  go_wp2_with fail
  refine (HL.out _ hb1).mono ?_
  rintro e w2 ⟨rfl, rfl⟩
  go_wp2_with fail
  refine (ownTexts_any A l.length c w1.heap.size (strV l) w1 (HI.out.below hb1).r str_one (by omega)).mono ?_
  rintro e w2 ⟨A', c', rfl, ho2, hb2⟩
  have hb12 := below_two hb1 hb2
  have hr2 := Reads.of_own ho2
  have hnc := own_ncap2 ho2
  go_wp2_with fail
  refine (HN.out _ _ _ hb12 hr2 hnc).mono ?_
  rintro e w3 ⟨t, a, rfl, _, hb3⟩
  go_wp2
  go_ret
  exact ⟨rfl, below_two hb12 hb3⟩
end Go.Proofs.YtajdokogahlgaaaDoor
