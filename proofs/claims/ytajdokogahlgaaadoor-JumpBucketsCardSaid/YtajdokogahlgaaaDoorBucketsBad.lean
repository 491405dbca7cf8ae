/-
  The law JumpBuckets: where Shares is refused; the law.
-/
import Derived.Test.YtajdokogahlgaaaDoorBuckets
namespace Go.Proofs.YtajdokogahlgaaaDoor
open Go.RowKit

/-- Sizes at which Shares is refused; each test's answer. -/
structure Tests (m : Nat) (n : Int) (a b c d e f : Bool) : Prop where
  t1 : decide ((m : Int) > 60) = a
  t2 : decide ((m : Int) ≤ 500) = b
  t3 : decide ((m : Int) > 600) = false
  t4 : decide ((m : Int) > 500) = c
  t5 : decide (n < 1) = d
  t6 : decide (n > 500) = e
  some : (c || d || e) = f

def RefusedPost (ea : Nat → Addr) (w : World) (e : Ending) (w' : World) : Prop := e = .returned (.tuple #[.slice none 0 0, .iface 217 (.pointer (some (ea (gv 2))))]) ∧ ∃ q, w' = w.drewN q
theorem shares_refused {ea : Nat → Addr} {w : World} (hE : ErrsW ea w) (A : Option Addr) (c m : Nat) (n : Int) (h : 500 < m ∨ n < 1 ∨ 500 < n) :
    Calls Tryd.prog 10 #[.slice A m c, .int .i64 n] w (RefusedPost ea w) := by
  have hv := (hE.row 2 (by decide) (by decide)).1
  by_cases h0 : 500 < m
  · exact shares_bad0 A c m n w _ hv (by simp; omega)
  by_cases h1 : n < 1
  · exact shares_bad1 A c m n w _ hv (by simp; omega) (by simp; omega)
  · exact shares_bad2 A c m n w _ hv (by simp; omega) (by simp; omega) (by simp; omega)

/-- Which of the four ways the sizes go. -/
theorem tests_of (m : Nat) (n : Int) (hm : m ≤ 60 ∨ 500 < m ∧ m ≤ 600) (h : 500 < m ∨ n < 1 ∨ 500 < n) :
    (decide ((m : Int) > 60) = true ∧ decide ((m : Int) ≤ 500) = false ∧ decide ((m : Int) > 600) = false ∧ decide ((m : Int) > 500) = true) ∨
    (decide ((m : Int) > 60) = false ∧ decide ((m : Int) > 600) = false ∧ decide ((m : Int) > 500) = false ∧ decide (n < 1) = true) ∨
    (decide ((m : Int) > 60) = false ∧ decide ((m : Int) > 600) = false ∧ decide ((m : Int) > 500) = false ∧ decide (n < 1) = false ∧ decide (n > 500) = true) := by
  simp only [decide_eq_true_eq, decide_eq_false_iff_not]
  omega

set_option maxRecDepth 100000 in
set_option maxHeartbeats 4000000 in
theorem buckets_over (ea : Nat → Addr) (A : Option Addr) (c n : Nat) (l : List Nat) (w : World) (hE : ErrsW ea w) (hG : HandleAt w) (hr : Reads w w.heap.size 1 A l.length (keysV l)) (hU : ∀ k ∈ l, U64 k) (hl : l.length ≤ 60 ∨ 500 < l.length ∧ l.length ≤ 600)
    (h1 : 1 ≤ n) (h2 : n ≤ 1048576) (hbad : 500 < l.length ∨ (n : Int) < 1 ∨ 500 < (n : Int)) :
    Calls Tryd.prog 3 #[.slice A l.length c, .int .i64 (n : Int)] w (True1 w) := by
  obtain ⟨C0, hC⟩ : ∃ C0, C0 = (ints (Jb.sharesM 500 n [])).toArray := ⟨_, rfl⟩
  have HM := Lib.hid (Jb.make500 C0 ((Jb.made 500 n).trans hC.symm))
  have HR := Lib.hid hr
  have HE := Lib.hid hE
  have HG := Lib.hid hG
  have HT := tests_of l.length n hl hbad
  have HBAD := Lib.hid hbad
  have hl6 : l.length ≤ 600 := by omega
  clear hr hC hE hG hbad hl
  rcases HT with ⟨t1, t2, t3, t4⟩ | ⟨t1, t3, t4, t5⟩ | ⟨t1, t3, t4, t5, t6⟩
  all_goals
    go_enter Tryd.func3, Tryd.ntmps3
    go_wp2_with fail
    refine (jumped_any _).mono ?_
    rintro e w1 ⟨rfl, hb1⟩
    go_wp2_with fail
    refine (ownKeys_any A l.length c w.heap.size (keysV l) w1 (HR.out.keep fun p hp => hb1.cell hp) keys_cells (by omega)).mono ?_
    rintro e w2 ⟨A2, cap2, rfl, _, hb2⟩
    have hb12 := below_two hb1 hb2
    have HS := Lib.hid (shares_refused (HE.out.below hb12) A2 cap2 l.length n HBAD.out)
    go_wp2_with fail
    refine HS.out.mono ?_
    rintro e w3 ⟨rfl, q3, rfl⟩
    have hb13 := below_drewN hb12 q3
    have hmk := HM.out
    clear HS
    go_wp2_with fail
    generalize w2.drewN q3 = w3 at *
    go_loopw [10] (fun iv wr => ∃ k : Nat, k ≤ l.length ∧ k ≤ 60 ∧ iv = .int .i64 (k : Int) ∧ Below w.heap.size w wr) (fun iv _ => 60 - (intOf iv).toNat)
    case atStart => exact ⟨0, Nat.zero_le _, by omega, rfl, hb13.alloc hb13.size _⟩
    case round =>
      obtain ⟨k, hk, hk60, rfl, hbr⟩ := hrel
      clear hmk
      by_cases hlt : k < l.length
      · have k1 : decide ((k : Int) < l.length) = true := by simp; omega
        by_cases h60 : k < 60
        · obtain ⟨ad, rfl, hK⟩ := Jb.keyAt_of ((HR.out.below hbr).more hbr.size) hlt
          have k2 : decide ((k : Int) < 60) = true := by simp; omega
          have hlt2 : (k : Int) < l.length := by omega
          have hUk := hU _ (List.getElem_mem hlt)
          obtain ⟨bk, hbk⟩ : ∃ bk, bk = Jp.B l[k] n := ⟨_, rfl⟩
          have HBk : Hid (∀ W, Calls Tryd.prog 12 #[.int .u64 ((l[k] : Nat) : Int), .int .i64 (n : Int)] W (BucketPost W bk)) := Lib.hid (fun W => by rw [hbk]; exact bucket_ok l[k] n W hUk h1 h2)
          have HPa := Lib.hid (fun W => path_ok l[k] n W hUk h1 h2)
          have HPo := Lib.hid (fun W => pathOf_ok l[k] n W hUk h1 h2)
          have hlast : (Jp.P l[k] n)[(Jp.P l[k] n).length - 1]? = some bk := by rw [hbk]; exact Jp.B_last h1
          have hpos : 0 < (Jp.P l[k] n).length := List.length_pos_iff.2 (Jp.P_ne h1)
          have hple := Nat.le_trans (Jp.P_length l[k] n) h2
          generalize Jp.P l[k] n = p at *
          generalize l[k] = key at *
          have HK := Lib.hid hK
          have HL := Lib.hid hlast
          have c0 := HK.out wr (Below.refl _ _)
          clear hbk hK hUk hlast
          go_wp2_with fail
          refine (HBk.out _).mono ?_
          rintro e w4 ⟨rfl, hb4⟩
          have c4 := HK.out w4 hb4
          go_wp2_with fail
          refine (HPa.out _).mono ?_
          rintro e w5 ⟨gp, capp, rfl, hp5⟩
          have hb45 := below_two hb4 hp5.2
          have c5 := HK.out w5 hb45
          go_wp2_with fail
          refine (HPo.out _).mono ?_
          rintro e w6 ⟨gq, capq, rfl, hp6⟩
          have hb6 := below_two hb45 hp6.2
          have HSM := Lib.hid (sameNats_yes (some ⟨gp, 0, none⟩) (some ⟨gq, 0, none⟩) capp capq w6.heap.size p w6 w6 (Reads.of_own (hp5.after hp6.2)) (Reads.of_own hp6.1) (by unfold maxLen; omega) ⟨0, rfl⟩)
          have q1 := hp6.cell HL.out
          go_wp2_with fail
          refine (coded_nil _).mono ?_
          rintro e w7 ⟨rfl, rfl⟩
          go_wp2_with fail
          refine (coded_nil _).mono ?_
          rintro e w7 ⟨rfl, rfl⟩
          go_wp2_with fail
          refine HSM.out.mono ?_
          rintro e w7 ⟨rfl, m7, rfl⟩
          go_wp2
          go_roundw
          case rel => exact ⟨k + 1, by omega, by omega, by go_num, below_drewN (below_two hbr hb6) m7⟩
          case measure => simp [intOf]; omega
        · have k2 : decide ((k : Int) < 60) = false := by simp; omega
          have HC := Lib.hid (coded_any (f := ⟨2, none⟩) 2 (HE.out.below hbr) (HG.out.below hbr) (by decide) (by decide) ⟨rfl, rfl⟩ rfl)
          go_wp2_with fail
          refine HC.out.mono ?_
          rintro e w7 ⟨rfl, hb7⟩
          go_wp2
          go_ret
          exact ⟨rfl, below_two hbr hb7⟩
      · have k1 : decide ((k : Int) < l.length) = false := by simp; omega
        have HC := Lib.hid (coded_any (f := ⟨2, none⟩) 2 (HE.out.below hbr) (HG.out.below hbr) (by decide) (by decide) ⟨rfl, rfl⟩ rfl)
        go_wp2_with fail
        refine HC.out.mono ?_
        rintro e w7 ⟨rfl, hb7⟩
        go_wp2
        go_ret
        exact ⟨rfl, below_two hbr hb7⟩

theorem sameNil (w : World) : Calls Tryd.prog 16 #[.slice none 0 0, .slice none 0 0] w fun e w' => e = .returned (.bool true) ∧ ∃ m, w' = w.drewN m := by
  have h := sameNats_yes none none 0 0 0 [] w w Reads.none_ Reads.none_ (by decide) ⟨0, rfl⟩
  exact h

set_option maxRecDepth 100000 in
set_option maxHeartbeats 4000000 in
theorem buckets_out (ea : Nat → Addr) (A : Option Addr) (c : Nat) (n : Int) (l : List Nat) (w : World) (hE : ErrsW ea w) (hG : HandleAt w) (hr : Reads w w.heap.size 1 A l.length (keysV l)) (hl : l.length ≤ 60 ∨ 500 < l.length ∧ l.length ≤ 600)
    (hn : n < 1 ∨ 1048576 < n) :
    Calls Tryd.prog 3 #[.slice A l.length c, .int .i64 n] w (True1 w) := by
  have hbad : 500 < l.length ∨ n < 1 ∨ 500 < n := by omega
  obtain ⟨C0, hC⟩ : ∃ C0, C0 = (ints (Jb.sharesM 500 1 [])).toArray := ⟨_, rfl⟩
  have HM := Lib.hid (Jb.make500 C0 ((Jb.made 500 1).trans hC.symm))
  have HR := Lib.hid hr
  have HE := Lib.hid hE
  have HG := Lib.hid hG
  have HT := tests_of l.length n hl hbad
  have HBAD := Lib.hid hbad
  have HN := Lib.hid hn
  have hl6 : l.length ≤ 600 := by omega
  have HCB : Hid (∀ W, Below w.heap.size w W → Calls Tryd.prog 15 #[.iface 217 (.pointer (some (ea (gv 2)))), .int .i64 2] W fun e w' => e = .returned (.bool true) ∧ Below W.heap.size W w') :=
    Lib.hid fun W hW => coded_any (f := ⟨2, none⟩) 2 (HE.out.below hW) (HG.out.below hW) (by decide) (by decide) ⟨rfl, rfl⟩ rfl
  have HV : Hid (∀ W, Below w.heap.size w W → W.cell? ⟨0, 0, none⟩ = some (.iface 217 (.pointer (some (ea (gv 2)))))) := Lib.hid fun W hW => ((HE.out.below hW).row 2 (by decide) (by decide)).1
  clear hr hC hE hG hbad hl hn
  generalize ea (gv 2) = a2 at HCB HV
  rcases HT with ⟨t1, t2, t3, t4⟩ | ⟨t1, t3, t4, t5⟩ | ⟨t1, t3, t4, t5, t6⟩
  all_goals
    go_enter Tryd.func3, Tryd.ntmps3
    go_wp2_with fail
    refine (jumped_any _).mono ?_
    rintro e w1 ⟨rfl, hb1⟩
    go_wp2_with fail
    refine (ownKeys_any A l.length c w.heap.size (keysV l) w1 (HR.out.keep fun p hp => hb1.cell hp) keys_cells (by omega)).mono ?_
    rintro e w2 ⟨A2, cap2, rfl, _, hb2⟩
    have hb12 := below_two hb1 hb2
    have HS : Hid (Calls Tryd.prog 10 #[.slice A2 l.length cap2, .int .i64 n] w2 fun e w' => e = .returned (.tuple #[.slice none 0 0, .iface 217 (.pointer (some a2))]) ∧ ∃ q, w' = w2.drewN q) := by
      refine Lib.hid ?_
      have hv := HV.out w2 hb12
      by_cases h0 : 500 < l.length
      · exact shares_bad0 A2 cap2 l.length n w2 _ hv (by simp; omega)
      by_cases h1 : n < 1
      · exact shares_bad1 A2 cap2 l.length n w2 _ hv (by simp; omega) (by simp; omega)
      · exact shares_bad2 A2 cap2 l.length n w2 _ hv (by simp; omega) (by simp; omega) (by have := HBAD.out; simp; omega)
    go_wp2_with fail
    refine HS.out.mono ?_
    rintro e w3 ⟨rfl, q3, rfl⟩
    have hb13 := below_drewN hb12 q3
    have hmk := HM.out
    clear HS
    go_wp2_with fail
    generalize w2.drewN q3 = w3 at *
    go_loopw [10] (fun iv wr => ∃ k : Nat, k ≤ l.length ∧ k ≤ 60 ∧ iv = .int .i64 (k : Int) ∧ Below w.heap.size w wr) (fun iv _ => 60 - (intOf iv).toNat)
    case atStart => exact ⟨0, Nat.zero_le _, by omega, rfl, hb13.alloc hb13.size _⟩
    case round =>
      obtain ⟨k, hk, hk60, rfl, hbr⟩ := hrel
      clear hmk
      by_cases hlt : k < l.length
      · have k1 : decide ((k : Int) < l.length) = true := by simp; omega
        by_cases h60 : k < 60
        · obtain ⟨ad, rfl, hK⟩ := Jb.keyAt_of ((HR.out.below hbr).more hbr.size) hlt
          have k2 : decide ((k : Int) < 60) = true := by simp; omega
          have hlt2 : (k : Int) < l.length := by omega
          generalize l[k] = key at *
          have HK := Lib.hid hK
          have c0 := HK.out wr (Below.refl _ _)
          have HBk := Lib.hid (bucket_bad key n wr a2 (HV.out wr hbr) HN.out)
          clear hK
          go_wp2_with fail
          refine HBk.out.mono ?_
          rintro e w4 ⟨rfl, m4, rfl⟩
          have hb4 : Below wr.heap.size wr (wr.drewN m4) := below_drewN (Below.refl _ _) m4
          have c4 := HK.out _ hb4
          have HPa := Lib.hid (path_bad key n (wr.drewN m4) _ (HV.out _ (below_two hbr hb4)) HN.out)
          go_wp2_with fail
          refine HPa.out.mono ?_
          rintro e w5 ⟨rfl, m5, rfl⟩
          have hb5 : Below wr.heap.size wr ((wr.drewN m4).drewN m5) := below_drewN hb4 m5
          have c5 := HK.out _ hb5
          generalize (wr.drewN m4).drewN m5 = w5 at *
          go_wp2_with fail
          refine (pathOf_bad key n _ HN.out).mono ?_
          rintro e w6 ⟨rfl, rfl⟩
          have hb5' := below_two hbr hb5
          go_wp2_with fail
          refine (HCB.out _ hb5').mono ?_
          rintro e w7 ⟨rfl, hb7⟩
          have hb7' := below_two hb5' hb7
          go_wp2_with fail
          refine (HCB.out _ hb7').mono ?_
          rintro e w8 ⟨rfl, hb8⟩
          have hb8' := below_two hb7' hb8
          go_wp2_with fail
          refine (sameNil _).mono ?_
          rintro e w9 ⟨rfl, m9, rfl⟩
          go_wp2
          go_roundw
          case rel => exact ⟨k + 1, by omega, by omega, by go_num, below_drewN hb8' m9⟩
          case measure => simp [intOf]; omega
        · have k2 : decide ((k : Int) < 60) = false := by simp; omega
          go_wp2_with fail
          refine (HCB.out _ hbr).mono ?_
          rintro e w7 ⟨rfl, hb7⟩
          go_wp2
          go_ret
          exact ⟨rfl, below_two hbr hb7⟩
      · have k1 : decide ((k : Int) < l.length) = false := by simp; omega
        go_wp2_with fail
        refine (HCB.out _ hbr).mono ?_
        rintro e w7 ⟨rfl, hb7⟩
        go_wp2
        go_ret
        exact ⟨rfl, below_two hbr hb7⟩

theorem buckets_skip (A : Option Addr) (c m : Nat) (n : Int) (w : World) (hm : m ≤ maxLen) (h : 60 < m ∧ m ≤ 500 ∨ 600 < m) :
    Calls Tryd.prog 3 #[.slice A m c, .int .i64 n] w (True1 w) := by
  unfold maxLen at hm
  have t1 : decide ((m : Int) > 60) = true := by simp; omega
  by_cases h6 : 600 < m
  · have t2 : decide ((m : Int) ≤ 500) = false := by simp; omega
    have t3 : decide ((m : Int) > 600) = true := by simp; omega
    go_enter Tryd.func3, Tryd.ntmps3
    go_wp2_with (go_at_call 9; refine (jumped_any _).mono ?_; rintro e w1 ⟨rfl, hb1⟩)
    go_ret
    exact ⟨rfl, hb1⟩
  · have t2 : decide ((m : Int) ≤ 500) = true := by simp; omega
    go_enter Tryd.func3, Tryd.ntmps3
    go_wp2_with (go_at_call 9; refine (jumped_any _).mono ?_; rintro e w1 ⟨rfl, hb1⟩)
    go_ret
    exact ⟨rfl, hb1⟩

theorem jumpBuckets_any (ea : Nat → Addr) (A : Option Addr) (c : Nat) (n : Int) (l : List Nat) (w : World) (hE : ErrsW ea w) (hG : HandleAt w) (hr : Reads w w.heap.size 1 A l.length (keysV l)) (hU : ∀ k ∈ l, U64 k) (hm : l.length ≤ maxLen) :
    Calls Tryd.prog 3 #[.slice A l.length c, .int .i64 n] w (True1 w) := by
  by_cases hs : 60 < l.length ∧ l.length ≤ 500 ∨ 600 < l.length
  · exact buckets_skip A c l.length n w hm hs
  by_cases hn : n < 1 ∨ 1048576 < n
  · exact buckets_out ea A c n l w hE hG hr (by omega) hn
  obtain ⟨n', rfl⟩ := Int.eq_ofNat_of_zero_le (show 0 ≤ n by omega)
  by_cases hb : 500 < l.length ∨ 500 < n'
  · exact buckets_over ea A c n' l w hE hG hr hU (by omega) (by omega) (by omega) (by omega)
  · exact buckets_good A c n' l w hr hU (by omega) (by omega) (by omega)
theorem jumpBuckets_args (ea : Nat → Addr) (A : Option Addr) (c : Nat) (n : Int) (l : List Int) (w : World) (hE : ErrsW ea w) (hG : HandleAt w) (hr : Reads w w.heap.size 1 A l.length (l.map (Value.int .u64))) (wf : ∀ n ∈ l, (Lit.int .u64 n).wf = true) (hm : l.length ≤ maxLen) :
    Calls Tryd.prog 3 #[.slice A l.length c, .int .i64 n] w (True1 w) := by
  obtain ⟨l', hl, hr', hu⟩ := keys_arg hr wf
  rw [hl] at hm ⊢
  exact jumpBuckets_any ea A c n l' w hE hG hr' hu hm
end Go.Proofs.YtajdokogahlgaaaDoor
