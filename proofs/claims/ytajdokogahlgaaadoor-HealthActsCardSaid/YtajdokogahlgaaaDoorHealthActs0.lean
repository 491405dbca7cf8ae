/-
  The law HealthActs: where nothing is made.
-/
import Derived.Test.YtajdokogahlgaaaDoorHealthMatch
import Derived.Test.YtajdokogahlgaaaDoorWatched
import Derived.Test.YtajdokogahlgaaaDoorOwn
namespace Go.Proofs.YtajdokogahlgaaaDoor
open Go.RowKit

theorem ErrsW.errs3 {ea : Nat → Addr} {w : World} (h : ErrsW ea w) : Errs3 ea w := ⟨(h.row 2 (by decide) (by decide)).1, (h.row 4 (by decide) (by decide)).1, (h.row 6 (by decide) (by decide)).1⟩
theorem ErrsW.errs5 {ea : Nat → Addr} {w : World} (h : ErrsW ea w) : Errs5 ea w := ⟨(h.row 2 (by decide) (by decide)).1, (h.row 4 (by decide) (by decide)).1, (h.row 5 (by decide) (by decide)).1, (h.row 6 (by decide) (by decide)).1⟩
def NewBad (ea : Nat → Addr) (f : Flt) (w : World) (e : Ending) (w' : World) : Prop := ∃ t a, e = .returned (.tuple #[.pointer none, .iface t (.pointer (some a))]) ∧ IsErr ea w' f t a ∧ Below w.heap.size w w'
theorem new_bad (ea : Nat → Addr) (A : Option Addr) (c B : Nat) (l : List ByteArray) (fall rise : Int) (f : Flt) (w : World) (hE : Errs3 ea w) (hr : Reads w B 1 A l.length (strV l)) (hB : B ≤ w.heap.size) (hlc : l.length ≤ c) (hl : l.length ≤ maxLen) (hs : ∀ s ∈ l, s.size ≤ maxLen)
    (hf : healthFault l fall rise = some f) :
    Calls Tryd.prog 19 #[.slice A l.length c, .int .i64 fall, .int .i64 rise] w (NewBad ea f w) := by
  have HC := Lib.hid (check_any ea A c B l w hE hr hB hlc hl hs)
  have HE := Lib.hid hE
  unfold CheckPost at HC
  unfold maxLen at hl
  cases ho : hostsFault l with
  | some f' =>
    have e : f' = f := by unfold healthFault at hf; rw [ho] at hf; exact Option.some.inj hf
    subst e
    rw [ho] at HC
    clear hf ho hE
    go_enter Tryd.func19, Tryd.ntmps19
    go_wp2_with fail
    refine HC.out.mono ?_
    rintro e w1 ⟨t, a, rfl, hI, hb⟩
    go_wp2
    go_ret2
    exact ⟨t, a, rfl, hI, hb⟩
  | none =>
    rw [ho] at HC
    have he : ¬ edgesOk fall rise := by intro he; unfold healthFault at hf; rw [ho] at hf; simp only [if_pos he] at hf; cases hf
    have e : f = ⟨2, none⟩ := by unfold healthFault at hf; rw [ho] at hf; simp only [if_neg he] at hf; exact (Option.some.inj hf).symm
    subst e
    have hw := edges_ways he
    clear hf ho hE he
    rcases hw with a1 | ⟨a1, a2⟩ | ⟨a1, a2, a3⟩ | ⟨a1, a2, a3, a4⟩
    all_goals
      go_enter Tryd.func19, Tryd.ntmps19
      go_wp2_with fail
      refine HC.out.mono ?_
      rintro e w1 ⟨rfl, hb⟩
      have c2 := (HE.out.below hb).c2
      dsimp only [gv] at c2
      go_wp2
      try (go_quiet (fail); go_wp2)
      go_ret2
      exact ⟨_, _, rfl, ⟨rfl, rfl⟩, by first | exact hb | exact below_drewN hb _⟩

theorem own_ncap {w : World} {b size n cap : Nat} {A : Option Addr} {e : TypeId} {xs : List Value} (h : w.ownsRow b e size (.slice A n cap) n xs) : n ≤ cap := by
  rcases h.2 with ⟨h, h0⟩ | ⟨g', cap', cur, he, _, _, hnc, _⟩
  · omega
  · injection he with _ _ hcap; omega
structure ActV where
  kind : ByteArray
  host : ByteArray
  well : Bool
def actsV (l : List ActV) : List Value := l.flatMap fun a => [.string a.kind, .string a.host, .bool a.well]
theorem actsV_at : ∀ (l : List ActV) (k : Nat) (a : ActV), l[k]? = some a → (actsV l)[k * 3]? = some (.string a.kind) ∧ (actsV l)[k * 3 + 1]? = some (.string a.host) ∧ (actsV l)[k * 3 + 2]? = some (.bool a.well)
  | [], _, _, h => by cases h
  | x :: l, 0, a, h => by cases h; exact ⟨rfl, rfl, rfl⟩
  | x :: l, k + 1, a, h => by
      have := actsV_at l k a h
      rw [show (k + 1) * 3 = k * 3 + 1 + 1 + 1 by omega]
      exact this
/-- The inputs of the law. -/
structure ActsIn (w : World) (A : Option Addr) (c : Nat) (l : List ByteArray) (A2 : Option Addr) (c2 : Nat) (acts : List ActV) : Prop where
  r : Reads w w.heap.size 1 A l.length (strV l)
  lc : l.length ≤ c
  cm : c ≤ maxLen
  s : ∀ s ∈ l, s.size ≤ maxLen
  r2 : Reads w w.heap.size 3 A2 acts.length (actsV acts)
  m2 : acts.length ≤ maxLen
  s2 : ∀ a ∈ acts, a.host.size ≤ maxLen
theorem ActsIn.below {w w' : World} {A : Option Addr} {c : Nat} {l : List ByteArray} {A2 : Option Addr} {c2 : Nat} {acts : List ActV} (h : ActsIn w A c l A2 c2 acts) (hb : Below w.heap.size w w') : ActsIn w' A c l A2 c2 acts :=
  ⟨(h.r.below hb).more hb.size, h.lc, h.cm, h.s, (h.r2.below hb).more hb.size, h.m2, h.s2⟩

set_option maxRecDepth 100000 in
set_option maxHeartbeats 1000000 in
theorem acts_skip (ea : Nat → Addr) (A : Option Addr) (c : Nat) (l : List ByteArray) (fall rise : Int) (A2 : Option Addr) (c2 : Nat) (acts : List ActV) (w : World) (hE : ErrsW ea w) (hI : ActsIn w A c l A2 c2 acts) (h : longH l = true ∨ 100 < acts.length) :
    Calls Tryd.prog 4 #[.slice A l.length c, .int .i64 fall, .int .i64 rise, .slice A2 acts.length c2] w (True1 w) := by
  have hm2 := hI.m2
  unfold maxLen at hm2
  have HL : Hid (∀ W, Below w.heap.size w W → Calls Tryd.prog 18 #[.slice A l.length c] W (LongIs (longH l) W)) :=
    Lib.hid fun W hW => longHosts_any A c W.heap.size l W (hI.below hW).r (Nat.le_trans hI.lc hI.cm) hI.s
  have HW := Lib.hid (watched_any ea w hE.errs3)
  clear hE hI
  by_cases hl : longH l = true
  · rw [hl] at HL
    clear h hl
    go_enter Tryd.func4, Tryd.ntmps4
    go_wp2_with fail
    refine HW.out.mono ?_
    rintro e w1 ⟨rfl, hb1⟩
    go_wp2_with fail
    refine (HL.out _ hb1).mono ?_
    rintro e w2 ⟨rfl, rfl⟩
    go_wp2
    go_ret
    exact ⟨rfl, hb1⟩
  · have hl' : longH l = false := by simpa using hl
    have t1 : decide ((acts.length : Int) > 100) = true := by
      rcases h with h | h
      · exact absurd h hl
      · simp; omega
    rw [hl'] at HL
    clear h hl hl'
    go_enter Tryd.func4, Tryd.ntmps4
    go_wp2_with fail
    refine HW.out.mono ?_
    rintro e w1 ⟨rfl, hb1⟩
    go_wp2_with fail
    refine (HL.out _ hb1).mono ?_
    rintro e w2 ⟨rfl, rfl⟩
    go_wp2
    go_ret
    exact ⟨rfl, hb1⟩

set_option maxRecDepth 100000 in
set_option maxHeartbeats 400000 in
theorem acts_bad (ea : Nat → Addr) (A : Option Addr) (c : Nat) (l : List ByteArray) (fall rise : Int) (A2 : Option Addr) (c2 : Nat) (acts : List ActV) (w : World) (f : Flt) (hE : ErrsW ea w) (hG : HandleAt w) (hI : ActsIn w A c l A2 c2 acts) (hL : longH l = false) (hn : acts.length ≤ 100) (hf : healthFault l fall rise = some f) :
    Calls Tryd.prog 4 #[.slice A l.length c, .int .i64 fall, .int .i64 rise, .slice A2 acts.length c2] w (True1 w) := by
  have HL : Hid (∀ W, Below w.heap.size w W → Calls Tryd.prog 18 #[.slice A l.length c] W (LongIs false W)) :=
    Lib.hid fun W hW => by rw [← hL]; exact longHosts_any A c W.heap.size l W (hI.below hW).r (Nat.le_trans hI.lc hI.cm) hI.s
  have HW := Lib.hid (watched_any ea w hE.errs3)
  have t1 : decide ((acts.length : Int) > 100) = false := by simp; omega
  obtain ⟨hl30, hs60⟩ := long_no hL
  have hfc := healthFault_code hf
  have HI := Lib.hid hI
  have HE := Lib.hid hE
  have HG := Lib.hid hG
  have HF : Hid (∀ W, Below w.heap.size w W → Calls Tryd.prog 21 #[.slice A l.length c, .int .i64 fall, .int .i64 rise] W fun e w' => e = .returned (.agg #[.int .i64 (f.code : Int), .int .i64 (placeOf f)]) ∧ Below W.heap.size W w') :=
    Lib.hid fun W hW => by
      show Calls _ _ _ _ (FaultPost (some f) W)
      rw [← hf]; exact healthFault_ref A c W.heap.size l fall rise W (hI.below hW).r (Nat.le_refl _) (Nat.le_trans hI.lc hI.cm) hI.s
  have HN : Hid (∀ W A' c', Below w.heap.size w W → Reads W W.heap.size 1 A' l.length (strV l) → l.length ≤ c' → Calls Tryd.prog 19 #[.slice A' l.length c', .int .i64 fall, .int .i64 rise] W (NewBad ea f W)) :=
    Lib.hid fun W A' c' hW hr hc => new_bad ea A' c' W.heap.size l fall rise f W (hE.below hW).errs3 hr (Nat.le_refl _) hc (Nat.le_trans hI.lc hI.cm) hI.s hf
  have hgt : decide ((f.code : Int) > 0) = true := by simp; omega
  have hf1 : 1 ≤ f.code := by omega
  have hf9 : f.code ≤ 9 := by omega
  clear hE hG hI hf hL hfc hs60
  go_enter Tryd.func4, Tryd.ntmps4
  go_wp2_with fail
  refine HW.out.mono ?_
  rintro e w1 ⟨rfl, hb1⟩
  go_wp2_with fail
  refine (HL.out _ hb1).mono ?_
  rintro e w2 ⟨rfl, rfl⟩
  go_wp2_with fail
  refine (ownTexts_any A l.length c w1.heap.size (strV l) w1 (HI.out.below hb1).r (by simp [strV, Value.oneCell']) (by omega)).mono ?_
  rintro e w2 ⟨A', c', rfl, ho2, hb2⟩
  have hb12 := below_two hb1 hb2
  have hr2 := Reads.of_own ho2
  have hnc := own_ncap ho2
  go_wp2_with fail
  refine (HN.out _ _ _ hb12 hr2 hnc).mono ?_
  rintro e w3 ⟨t, a, rfl, hIs, hb3⟩
  have hb13 := below_two hb12 hb3
  go_wp2_with fail
  refine (HF.out _ hb13).mono ?_
  rintro e w4 ⟨rfl, hb4⟩
  have hb14 := below_two hb13 hb4
  have hIs4 := (hIs.below hb4).below ((Below.refl w4.heap.size w4).alloc (Nat.le_refl _) (.cells #[.int .i64 (f.code : Int), .int .i64 (placeOf f)] 47))
  have hbx := hb14.alloc hb14.size (.cells #[.int .i64 (f.code : Int), .int .i64 (placeOf f)] 47)
  have HFA : Hid (Calls Tryd.prog 22 #[.iface t (.pointer (some a)), .agg #[.int .i64 (f.code : Int), .int .i64 (placeOf f)]] (w4.alloc (.cells #[.int .i64 (f.code : Int), .int .i64 (placeOf f)] 47)) (Yeslaw2 (w4.alloc (.cells #[.int .i64 (f.code : Int), .int .i64 (placeOf f)] 47)))) :=
    Lib.hid (faultedlaw2_some (HE.out.below hbx) (HG.out.below hbx) hf1 hf9 hIs4)
  have HBX := Lib.hid hbx
  clear hIs hIs4 hbx
  generalize placeOf f = pl at *
  generalize f.code = fc at *
  go_wp2_with fail
  refine HFA.out.mono ?_
  rintro e w5 ⟨rfl, hb5⟩
  go_wp2
  go_ret
  exact ⟨rfl, below_two HBX.out hb5⟩
end Go.Proofs.YtajdokogahlgaaaDoor
