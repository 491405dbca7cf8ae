/-
  The law FlowsActs: its walk.
-/
import Derived.Test.YtlgnhifjakkodaaDoorFlowNow
import Derived.Test.YtlgnhifjakkodaaDoorFlowsStay
import Derived.Deep.RegionHeld3
import Derived.Deep.LoopGhost
import Derived.Deep.CutBlock
import Derived.Deep.DeepCutAuto
namespace Go.Proofs.YtlgnhifjakkodaaDoor
open Go.RowKit

/-- What stands at a loop's head. -/
structure FPre (w W : World) (fp mb mp time : Nat) (s : FS) : Prop where
  f : FlowsR W fp mb time s.1 s.2
  m : RAt W w.heap.size mp time s
  b : Below w.heap.size w W
  af : w.heap.size ≤ fp
  am : w.heap.size ≤ mb
theorem FPre.now {w W : World} {fp mb mp time : Nat} {s : FS} (h : FPre w W fp mb mp time s) (a : FAct) : FNow w (W.alloc (.cells (factC a) 47)) fp mb mp W.heap.size time s s a := by
  obtain ⟨sv, hm⟩ := h.m
  have hb := (Below.refl W.heap.size W).alloc (Nat.le_refl _) (.cells (factC a) 47)
  exact ⟨h.f.below hb, ⟨sv, hm.below hb⟩, below_two h.b hb, Blk.new _ _ _, h.af, h.am⟩
theorem FNow.pre {w W : World} {fp mb mp bx time : Nat} {s : FS} {a : FAct} (h : FNow w W fp mb mp bx time s s a) : FPre w W fp mb mp time s := ⟨h.f, h.m, h.b, h.af, h.am⟩
theorem fkind_ways (l : List UInt8) : (l == [112, 117, 116]) = true ∨ ((l == [112, 117, 116]) = false ∧ (l == [103, 101, 116]) = true) ∨ ((l == [112, 117, 116]) = false ∧ (l == [103, 101, 116]) = false ∧ (l == [101, 120, 112, 105, 114, 101]) = true) ∨ ((l == [112, 117, 116]) = false ∧ (l == [103, 101, 116]) = false ∧ (l == [101, 120, 112, 105, 114, 101]) = false ∧ (l == [100, 114, 111, 112]) = true) ∨ ((l == [112, 117, 116]) = false ∧ (l == [103, 101, 116]) = false ∧ (l == [101, 120, 112, 105, 114, 101]) = false ∧ (l == [100, 114, 111, 112]) = false ∧ (l == [109, 97, 110, 121]) = true) ∨ ((l == [112, 117, 116]) = false ∧ (l == [103, 101, 116]) = false ∧ (l == [101, 120, 112, 105, 114, 101]) = false ∧ (l == [100, 114, 111, 112]) = false ∧ (l == [109, 97, 110, 121]) = false) := by
  cases l == [112, 117, 116] <;> cases l == [103, 101, 116] <;> cases l == [101, 120, 112, 105, 114, 101] <;> cases l == [100, 114, 111, 112] <;> cases l == [109, 97, 110, 121] <;> simp
theorem wadd_some (a b : Nat) : ∃ k : Nat, U64 k ∧ IntKind.u64.wrap ((a : Int) + (b : Int)) = (k : Int) := by
  refine ⟨(a + b) % 18446744073709551616, Nat.mod_lt _ (by decide), ?_⟩
  show ((a : Int) + (b : Int)) % 18446744073709551616 = _
  omega
/-- The inputs of the law. -/
structure FActsIn (w : World) (A : Option Addr) (acts : List FAct) : Prop where
  r : Reads w w.heap.size 5 A acts.length (fActsC acts)
  m : acts.length ≤ maxLen
  s : ∀ a ∈ acts, FActOk w a
set_option maxRecDepth 100000 in
set_option maxHeartbeats 1000000 in
theorem facts_skip (T : Int) (A : Option Addr) (c : Nat) (acts : List FAct) (w : World) (hm : acts.length ≤ maxLen) (hn : 80 < acts.length) :
    Calls Tryd.prog 4 #[.int .i64 T, .slice A acts.length c] w (True1 w) := by
  unfold maxLen at hm
  have HW := Lib.hid (flowed_any w)
  have t1 : decide ((acts.length : Int) > 80) = true := by simp; omega
  clear hn
  go_enter Tryd.func4, Tryd.ntmps4
  go_wp2_with fail
  refine HW.out.mono ?_
  rintro e w1 ⟨rfl, hb1⟩
  go_wp2
  go_ret
  exact ⟨rfl, hb1⟩
set_option maxRecDepth 100000 in
set_option maxHeartbeats 1000000 in
theorem facts_time (ea : Nat → Addr) (T : Int) (A : Option Addr) (c : Nat) (acts : List FAct) (w : World) (hE : ErrsW ea w) (hG : HandleAt w) (hF : ErrsF ea w) (hn : acts.length ≤ 80) (hT : T < 1 ∨ 1000 < T) :
    Calls Tryd.prog 4 #[.int .i64 T, .slice A acts.length c] w (True1 w) := by
  have HW := Lib.hid (flowed_any w)
  have t1 : decide ((acts.length : Int) > 80) = false := by simp; omega
  have HN : Hid (∀ W, Below w.heap.size w W → Calls Tryd.prog 6 #[.int .i64 T] W (NewBadF ea W)) := Lib.hid fun W hW => newFlows_bad ea T W (hF.below hW) hT
  unfold NewBadF errB at HN
  have HC : Hid (∀ W, Below w.heap.size w W → Calls Tryd.prog 12 #[.iface 156 (.pointer (some (ea (gv 2)))), .int .i64 2] W fun e w' => e = .returned (.bool true) ∧ Below W.heap.size W w') := Lib.hid fun W hW => by
    exact (codedlaw2_any (f := ⟨2, none⟩) 2 (hE.below hW) (hG.below hW) (by decide) (by decide) ⟨rfl, rfl⟩ rfl).mono fun e w' ⟨x, y⟩ => ⟨x, y⟩
  have hw := newflows_ways hT
  clear hE hG hF hn hT
  rcases hw with d1 | ⟨d1, d2⟩
  all_goals
    go_enter Tryd.func4, Tryd.ntmps4
    go_wp2_with fail
    refine HW.out.mono ?_
    rintro e w1 ⟨rfl, hb1⟩
    go_wp2_with fail
    refine (HN.out _ hb1).mono ?_
    rintro e w2 ⟨rfl, hb2⟩
    have hb12 := below_two hb1 hb2
    go_wp2_with fail
    refine (HC.out _ hb12).mono ?_
    rintro e w3 ⟨rfl, hb3⟩
    go_wp2
    go_ret
    exact ⟨rfl, below_two hb12 hb3⟩
set_option maxRecDepth 100000 in
set_option maxHeartbeats 4000000 in
theorem facts_good (ea : Nat → Addr) (time : Nat) (A : Option Addr) (c : Nat) (acts : List FAct) (w : World) (hE : ErrsW ea w) (hG : HandleAt w) (hF : ErrsF ea w) (hI : FActsIn w A acts) (hn : acts.length ≤ 80) (hT1 : 1 ≤ time) (hT2 : time ≤ 1000) :
    Calls Tryd.prog 4 #[.int .i64 (time : Int), .slice A acts.length c] w (True1 w) := by
  have HW := Lib.hid (flowed_any w)
  have t1 : decide ((acts.length : Int) > 80) = false := by simp; omega
  have t2 : decide ((time : Int) < 1) = false := by simp; omega
  have t3 : decide ((time : Int) > 1000) = false := by simp; omega
  have HN : Hid (∀ W, Calls Tryd.prog 6 #[.int .i64 (time : Int)] W (NewFlows time W)) := Lib.hid fun W => newFlows_ok time W hT1 hT2
  have HI := Lib.hid hI
  have HE := Lib.hid hE
  have HG := Lib.hid hG
  have HF := Lib.hid hF
  clear hE hG hF hI
  go_enter Tryd.func4, Tryd.ntmps4
  go_wp2_with fail
  refine HW.out.mono ?_
  rintro e w1 ⟨rfl, hb1⟩
  go_wp2_with fail
  refine (HN.out _).mono ?_
  rintro e w2 ⟨fp, mb, rfl, hF2, hfp, hmb, hb2⟩
  have HP : Hid (FPre w (w2.alloc (.cells #[.int .i64 (time : Int), .int .i64 0, .slice none 0 0] 45)) fp mb w2.heap.size time (0, [])) := Lib.hid (by
    have hb3 := (Below.refl w2.heap.size w2).alloc (Nat.le_refl _) (.cells #[.int .i64 (time : Int), .int .i64 0, .slice none 0 0] 45)
    have hs1 := hb1.size
    have hs2 := hb2.size
    exact ⟨hF2.below hb3, ⟨.slice none 0 0, Blk.new _ _ _, World.ownsRow_nil _ _ _ _, Nat.zero_le _, by omega⟩, below_two (below_two hb1 hb2) hb3, by omega, by omega⟩)
  clear hF2 hfp hmb hb1 hb2
  go_wp2_with fail
  go_loopg [9, 10] acts.length (fun g cv iv wr => ∃ (cr k : Nat) (s : FS), cr ≤ 3 ∧ g + k = acts.length ∧ cv = .int .i64 (cr : Int) ∧ iv = .int .i64 (k : Int) ∧ Hid (FPre w wr fp mb w2.heap.size time s))
  case atStart => exact ⟨0, 0, (0, []), by omega, by omega, rfl, rfl, HP⟩
  case round =>
    obtain ⟨cr, k, s, hcr, hgk, rfl, rfl, hp⟩ := hrel
    generalize w2.heap.size = mp at *
    clear HP
    by_cases hlt : k < acts.length
    · obtain ⟨ad, hA, hc⟩ := fActAt_of HI.out.r hp.out.b hlt
      subst hA
      have HA := Lib.hid (HI.out.s _ (List.getElem_mem hlt))
      have HNow := Lib.hid (hp.out.now acts[k])
      generalize acts[k] = a at *
      obtain ⟨kc0, kc1, kc2, kc3, kc4⟩ := hc
      have hlt2 : (k : Int) < acts.length := by omega
      have hsz60 : a.host.size ≤ 9223372036854775807 := HA.out.s
      have HLF : Hid (∀ W, Below w.heap.size w W → Calls Tryd.prog 13 #[.slice a.A a.L.length a.cap] W (LongIs (longF a.L) W)) := Lib.hid fun W hW => longFlows_any a.A a.cap _ a.L W (HA.out.l.below hW).r HA.out.l.m HA.out.l.s
      have hlonga := longF_no (l := a.L)
      by_cases h60 : 60 < a.host.size
      · have t6 : decide ((a.host.size : Int) > 60) = true := by simp; omega
        go_wp2
        go_ret
        exact ⟨rfl, HNow.out.b⟩
      have t6 : decide ((a.host.size : Int) > 60) = false := by simp; omega
      unfold LongIs at HLF
      generalize longF a.L = lb at *
      cases lb with
      | true =>
        go_wp2_with fail
        refine (HLF.out _ HNow.out.b).mono ?_
        rintro e w4 ⟨rfl, rfl⟩
        go_wp2
        go_ret
        exact ⟨rfl, HNow.out.b⟩
      | false =>
        have HLN := Lib.hid (hlonga rfl)
        clear hlonga
        go_wp2_with fail
        refine (HLF.out _ HNow.out.b).mono ?_
        rintro e w4 ⟨rfl, rfl⟩
        clear HLF
        generalize hW0 : wr.alloc (.cells (factC a) 47) = W0 at *
        have ks0 := HNow.out.c0
        have ks1 := HNow.out.c1
        have ks2 := HNow.out.c2
        have ks3 := HNow.out.c3
        have ks4 := HNow.out.c4
        have HB := Lib.hid hp.out.b
        generalize wr.heap.size = bx at *
        clear hp hW0
        go_upto_block 2 with fail
        go_cut [9] (fun s9v wx => ∃ (c9 : Nat) (s9 : FS), c9 ≤ 3 ∧ s9v = .int .i64 (c9 : Int) ∧ Hid (FNow w wx fp mb mp bx time s9 s9 a))
        case first =>
          have hway := fkind_ways a.kind.toList
          rcases hway with k1 | ⟨k1, k2⟩ | ⟨k1, k2, k3⟩ | ⟨k1, k2, k3, k4⟩ | ⟨k1, k2, k3, k4, k5⟩ | ⟨k1, k2, k3, k4, k5⟩
          -- ARMS
          · as_aux_lemma =>
              obtain ⟨cd, s9, hcd, HP1, HP2⟩ := two_put a.key HF.out HNow.out.drew HA.out.u hT2 HA.out.s
              have HK := Lib.hid HNow.out.c123
              go_wp2_with fail
              go_region_held3 (fun w' => w'.cell? ⟨bx, 1, none⟩ = some (.string a.host) ∧ w'.cell? ⟨bx, 2, none⟩ = some (.int .u64 (a.key : Int)) ∧ w'.cell? ⟨bx, 3, none⟩ = some (.int .i64 a.now)) (first | exact HK.out | exact n6.c123 | exact n7.c123 | exact n8.c123 | go_keep)
                (first
                  | (go_at_call 7; refine HP1.out.mono ?_; rintro e w6 ⟨rfl, n6⟩)
                  | (go_at_call 14; refine (HP2.out _ _ n6).mono ?_; rintro e w7 ⟨rfl, n7⟩)
                  | (go_at_call 12; refine (fnow_coded _ HE.out HG.out n7 hcd).mono ?_; rintro e w8 ⟨rfl, n8⟩))
              clear HP1 HP2 HK

              go_wp2
              go_meet
              exact ⟨_, _, hcr, rfl, Lib.hid n8⟩
          · as_aux_lemma =>
              obtain ⟨so, bo, cd, s9, hcd, HP1, HP2⟩ := two_get HF.out HNow.out HA.out.u
              go_wp2_with fail
              refine HP1.out.mono ?_
              rintro e w6 ⟨rfl, n6⟩
              have ks62 := n6.c2
              have ks63 := n6.c3
              go_wp2_with fail
              refine (HP2.out _ _ n6).mono ?_
              rintro e w7 ⟨rfl, n7⟩
              go_wp2_with fail
              refine (fnow_coded _ HE.out HG.out n7 hcd).mono ?_
              rintro e w8 ⟨rfl, n8⟩
              clear HP1 HP2 n6 n7

              go_wp2
              go_meet
              exact ⟨_, _, hcr, rfl, Lib.hid n8⟩
          · as_aux_lemma =>
              obtain ⟨no, cd, s9, hcd, HP1, HP2⟩ := two_exp HF.out HNow.out
              go_wp2_with fail
              refine HP1.out.mono ?_
              rintro e w6 ⟨rfl, n6⟩
              have ks63 := n6.c3
              go_wp2_with fail
              refine (HP2.out _ _ n6).mono ?_
              rintro e w7 ⟨rfl, n7⟩
              go_wp2_with fail
              refine (fnow_coded _ HE.out HG.out n7 hcd).mono ?_
              rintro e w8 ⟨rfl, n8⟩
              clear HP1 HP2 n6 n7

              go_wp2
              go_meet
              exact ⟨_, _, hcr, rfl, Lib.hid n8⟩
          · as_aux_lemma =>
              obtain ⟨no, s9, HP1, HP2⟩ := two_drop HNow.out.drew
              have HK := Lib.hid HNow.out.c1
              go_wp2_with fail
              go_region_held3 (fun w' => w'.cell? ⟨bx, 1, none⟩ = some (.string a.host)) (first | exact HK.out | exact n6.c1 | exact n8.c1 | go_keep)
                (first
                  | (go_at_call 8; refine HP1.out.mono ?_; rintro e w6 ⟨rfl, n6⟩)
                  | (go_at_call 17; refine (HP2.out _ _ n6).mono ?_; rintro e w8 ⟨rfl, n8⟩))
              clear HP1 HP2 HK

              go_wp2
              go_meet
              exact ⟨_, _, hcr, rfl, Lib.hid n8⟩
          · as_aux_lemma =>
              by_cases hc3 : cr = 3
              · subst hc3
                have HB9 := Lib.hid HNow.out.b
                go_wp2
                go_ret
                exact ⟨rfl, HB9.out⟩
              have hcr4 : cr + 1 ≤ 3 := by omega
              have hc4 : decide (((cr + 1 : Nat) : Int) > 3) = false := by simp; omega
              have hc5 : decide ((cr : Int) + 1 > 3) = false := by simp; omega
              have hc6 : ¬ 3 < (cr : Int) + 1 := by omega
              have hc7 : ¬ 3 < cr + 1 := by omega
              go_wp2_with fail
              go_loopg [22] 120 (fun g jv wi => ∃ (j : Nat) (s' : FS), g + j = 120 ∧ jv = .int .u64 (j : Int) ∧ Hid (FNow w wi fp mb mp bx time s' s' a))
              case atStart => exact ⟨0, s, by omega, rfl, HNow⟩
              case round =>
                obtain ⟨j, s', hgj, rfl, hnj⟩ := hrel
                generalize wr = wr0 at *
                by_cases hj2 : j < 120
                · have hjd : decide ((j : Int) < 120) = true := by simp; omega
                  obtain ⟨wk, hwu, hwa⟩ := wadd_some a.key j
                  obtain ⟨cd, s9, hcd, HP1, HP2⟩ := two_put wk HF.out hnj.out.drew hwu hT2 HA.out.s
                  have HK := Lib.hid hnj.out.c123
                  go_wp2_with fail
                  go_region_held3 (fun w' => w'.cell? ⟨bx, 1, none⟩ = some (.string a.host) ∧ w'.cell? ⟨bx, 2, none⟩ = some (.int .u64 (a.key : Int)) ∧ w'.cell? ⟨bx, 3, none⟩ = some (.int .i64 a.now)) (first | exact HK.out | exact n6.c123 | exact n7.c123 | exact n8.c123 | go_keep)
                    (first
                      | (go_at_call 7; refine HP1.out.mono ?_; rintro e w6 ⟨rfl, n6⟩)
                      | (go_at_call 14; refine (HP2.out _ _ n6).mono ?_; rintro e w7 ⟨rfl, n7⟩)
                      | (go_at_call 12; refine (fnow_coded _ HE.out HG.out n7 hcd).mono ?_; rintro e w8 ⟨rfl, n8⟩))
                  clear HP1 HP2 HK hwa
                  go_wp2
                  go_roundg (120 - (j + 1))
                  case rel => exact ⟨j + 1, s9, by omega, by go_num, Lib.hid n8⟩
                  case measure => omega
                · have hjd : decide ((j : Int) < 120) = false := by simp; omega
                  obtain rfl : j = 120 := by omega
                  have n8 := hnj.out
                  generalize s' = s9 at *
                  clear hnj
                  go_wp2
                  go_meet
                  exact ⟨_, _, hcr4, by go_num, Lib.hid n8⟩
          · as_aux_lemma =>
              obtain ⟨hl40, _⟩ := HLN.out
              have hl1000 : a.L.length ≤ 1000 := by omega
              have HFI := Lib.hid (fun W (hW : Below w.heap.size w W) => HA.out.l.below hW)
              have HP0 := Lib.hid (fnow_own HNow.out.drew (HFI.out _ HNow.out.drew.b) hl1000)
              obtain ⟨no, o, s9, HP1, HP2⟩ := two_add (mp := mp) (bx := bx) (time := time) (s := s) (fp := fp) (mb := mb) HF.out HA.out hl1000
              have HK : Hid (W0.cell? ⟨bx, 3, none⟩ = some (.int .i64 a.now) ∧ W0.cell? ⟨bx, 4, none⟩ = some (.slice a.A a.L.length a.cap)) := Lib.hid ⟨HNow.out.c3, HNow.out.c4⟩
              go_wp2_with fail
              go_region_held3 (fun w' => w'.cell? ⟨bx, 3, none⟩ = some (.int .i64 a.now) ∧ w'.cell? ⟨bx, 4, none⟩ = some (.slice a.A a.L.length a.cap)) (first | exact HK.out | exact ⟨n6.c3, n6.c4⟩ | exact ⟨n7.c3, n7.c4⟩ | go_keep)
                (first
                  | (go_at_call 19; refine HP0.out.mono ?_; rintro e w6 ⟨A6, c6, rfl, r6, g6, n6⟩)
                  | (go_at_call 18; refine (HP1.out _ _ _ n6 r6 g6).mono ?_; rintro e w7 ⟨v7, rfl, i7, n7⟩))
              have ks73 := n7.c3
              have ks74 := n7.c4
              have HI7 := Lib.hid i7
              have HN7 := Lib.hid n7
              clear i7 n7 HP0 HP1 HK r6 g6
              go_wp2_with fail
              refine (HP2.out _ _ HN7.out).mono ?_
              rintro e w75 ⟨rfl, n75, i75⟩
              have hb76 := (Below.refl w75.heap.size w75).alloc (Nat.le_refl _) (.cells #[.int .i64 (fCode o : Int), .int .i64 (fAt o)] 57)
              have HC8 := Lib.hid (fnow_faulted HE.out HG.out (n75.below hb76) ((i75 _ _ HI7.out).below hb76))
              clear n75 i75 hb76 HI7 HN7 HP2
              generalize fCode o = fco at *
              generalize fAt o = fat at *
              go_wp2_with fail
              refine HC8.out.mono ?_
              rintro e w8 ⟨rfl, n8⟩
              clear HC8

              go_wp2
              go_meet
              exact ⟨_, _, hcr, rfl, Lib.hid n8⟩
          -- ENDARMS
        case rest =>
        obtain ⟨c9, ⟨la9, L9⟩, hc9, rfl, hn9⟩ := hcut
        obtain ⟨A9, cap9, hrow, hROW⟩ := hn9.out.row
        have HROW := Lib.hid hROW
        have hl9 := hn9.out.f.len
        have HLI := Lib.hid (fnow_list hn9.out.drew)
        clear hROW HNow ks0 ks1 ks2 ks3 ks4
        dsimp only at hrow HROW hl9 HLI
        have d9 : decide ((L9.length : Int) > 200) = false := by simp; omega
        have hl9b : L9.length ≤ 1000 := by omega
        go_wp2_with fail
        go_region_held3 (fun w' => w'.cell? ⟨mp, 2, none⟩ = some (.slice A9 L9.length cap9)) (first | exact hrow | exact (HROW.out _ (bl_undrew b10)).1 | go_keep)
          (first
            | (go_at_call 10; refine HLI.out.mono ?_; rintro e w10 ⟨A10, c10, rfl, r10, g10, b10, n10⟩)
            | (go_at_call 22; refine (sameFlows_yes _ _ _ _ _ _ L9 _ r10 (HROW.out _ (bl_undrew b10)).2.1 g10 (HROW.out _ (bl_undrew b10)).2.2 hl9b).mono ?_; rintro e w11 ⟨rfl, m11, rfl⟩))
        go_wp2
        go_roundg (acts.length - (k + 1))
        case rel => exact ⟨c9, k + 1, (la9, L9), hc9, by omega, rfl, by go_num, Lib.hid (n10.drewN m11).pre⟩
        case measure => omega
    · have hge : ¬ (k : Int) < acts.length := by omega
      have HB := Lib.hid hp.out.b
      clear hp
      go_wp2
      go_ret
      exact ⟨rfl, HB.out⟩
end Go.Proofs.YtlgnhifjakkodaaDoor
