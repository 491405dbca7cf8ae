/-
  The law PlaySpread: its walks.
-/
import Derived.Test.YteilefpjfbholaaGreatDoorPlayed
import Derived.Test.YteilefpjfbholaaGreatDoorSpread
import Derived.Test.YteilefpjfbholaaGreatDoorFaulted3
namespace Go.Proofs.YteilefpjfbholaaGreatDoor
open Go.RowKit

theorem errsT_w3 {ea : Nat → Addr} {w : World} (h : ErrsW ea w) : ErrsT ea w :=
  ⟨⟨(h.row 2 (by omega) (by omega)).1, (h.row 4 (by omega) (by omega)).1, (h.row 6 (by omega) (by omega)).1⟩, ⟨(h.row 2 (by omega) (by omega)).1, (h.row 3 (by omega) (by omega)).1⟩, (h.row 5 (by omega) (by omega)).1⟩
theorem key_one {l : List Nat} : ∀ u ∈ keysV l, u.oneCell' = true := by
  intro u hu
  obtain ⟨x, _, rfl⟩ := List.mem_map.1 hu
  rfl
set_option maxRecDepth 100000 in
set_option maxHeartbeats 4000000 in
theorem ps_good (ea : Nat → Addr) (A K : Option Addr) (c kc kn : Nat) (l : List ByteArray) (size n : Int) (m : Nat) (hm : max 0 (min n 500) = (m : Int)) (keys : List Nat) (w : World) (hE : ErrsB ea w) (hE9 : ErrsW ea w) (hG : HandleAt w) (hW : CarW w) (hK : ErrsK ea w) (hI : TxIn w A c l) (hL : longH l = false) (hkn : kn = keys.length) (hr : Reads w w.heap.size 1 K kn (keysV keys)) (_hu : ∀ k ∈ keys, U64 k) (xs : List Int) (hM : MakeYes ea l size xs) (hx : 2 ≤ xs.length ∧ xs.length ≤ 503) (hk60 : kn ≤ 60) :
    Calls Tryz.prog 8 #[.slice A l.length c, .int .i64 size, .slice K kn kc, .int .i64 n] w (True1 w) := by
  have HW := Lib.hid (played_any ea w hE hE9 hG hW hK)
  have HL : Hid (∀ W, Below w.heap.size w W → Calls Tryz.prog 28 #[.slice A l.length c] W (LongIs false W)) :=
    Lib.hid fun W hW => by rw [← hL]; exact longHosts_any A c W.heap.size l W (hI.below hW).r hI.lm hI.s
  obtain ⟨hl30, _⟩ := long_no hL
  have HKE : Hid (∀ W, Calls Tryz.prog 29 #[.int .i64 n] W fun e w' => ∃ (A' : Option Addr) (cap : Nat), e = .returned (.slice A' m cap) ∧ Below W.heap.size W w' ∧ ∀ i, i < m → ∃ T : Nat, (∃ ad, A' = some ad ∧ ∀ W2, Below w'.heap.size w' W2 → W2.cell? (ad.add i) = some (.int .u64 (T : Int))) ∧ Hid (∀ W2, Calls Tryz.prog 30 #[.int .u64 (i : Int)] W2 fun e w2 => e = .returned (.int .u64 (T : Int)) ∧ W2 = w2)) := Lib.hid fun W => (keys_any n m hm W).mono fun e w' ⟨v, a, b, d⟩ => by
    obtain ⟨A', cap, rfl, _⟩ := own_slice b
    refine ⟨A', cap, a, d, fun i hi => ⟨Mx.turn i, ?_, Lib.hid fun W2 => turnOf_any i W2 (by unfold U64; omega)⟩⟩
    obtain ⟨ad, u, hA, hbl, hu, hc⟩ := (Reads.of_own b).at_ hi
    refine ⟨ad, hA, fun W2 hb2 => ?_⟩
    rw [hb2.cell (by rw [block_of_add]; exact hbl), hc, ← hu]
    simp [keysV, turnsL, hi]
  have hm5 : m ≤ 500 := by omega
  have HI := Lib.hid hI
  have HRK := Lib.hid (fun W (hb : Below w.heap.size w W) => (show Reads W W.heap.size 1 K kn (keysV keys) from (hr.below hb).more hb.size))
  have HETT := Lib.hid (fun W (hb : Below w.heap.size w W) => errsT_w3 (hE9.below hb))
  have t1 : decide ((kn : Int) > 60) = false := by simp; omega
  have t3 : decide ((kn : Int) > 600) = false := by simp; omega
  have t4 : decide ((kn : Int) > 500) = false := by simp; omega
  have hk600 : kn ≤ 1000 := by omega
  have HSB : Hid (∀ W A4 c4 A5 c5, ErrsT ea W → TxIn W A4 c4 l → Reads W W.heap.size 1 A5 kn (keysV keys) → Calls Tryz.prog 31 #[.slice A4 l.length c4, .int .i64 size, .slice A5 kn c5] W (SpreadOk (spreadL xs l.length keys) W)) := Lib.hid fun W A4 c4 A5 c5 h1 h2 h3 => by
    subst hkn
    exact spread_ok ea A4 A5 c4 c5 l size xs keys W h1 h2 hM hx (by omega) (by omega) h3 _hu
  unfold SpreadOk at HSB
  rw [spreadL_len] at HSB
  have HTF : Hid (∀ W, Below w.heap.size w W → Calls Tryz.prog 34 #[.slice A l.length c, .int .i64 size] W (FineIs W)) := Lib.hid fun W hb => hM.fault W A c (hI.below hb)
  unfold FineIs at HTF
  have HTab : Hid (∀ W, Below w.heap.size w W → Calls Tryz.prog 37 #[.slice A l.length c, .int .i64 size] W (IntsPost xs W)) := Lib.hid fun W hb => hM.ref W A c (hI.below hb)
  unfold IntsPost at HTab
  have HSp : Hid (∀ W X, Below w.heap.size w W → Reads W W.heap.size 1 X xs.length (xs.map intV) → SpIn W xs l.length keys X K) := Lib.hid fun W X hb h1 => ⟨h1, by have := HRK.out W hb; rwa [hkn] at this, _hu, hx, hM.slot⟩
  have HMk := Lib.hid (make_nums l.length (by omega))
  have HKN := Lib.hid hkn
  have HSame : Hid (∀ g g2 W, Blk W g 3 (numsV (spreadL xs l.length keys)).toArray → Blk W g2 3 (numsV (spreadL xs l.length (keys.take kn))).toArray → Calls Tryz.prog 22 #[.slice (some ⟨g, 0, none⟩) l.length l.length, .slice (some ⟨g2, 0, none⟩) l.length l.length] W fun e w' => e = .returned (.bool true) ∧ ∃ q, w' = W.drewN q) := Lib.hid fun g g2 W h1 h2 => by
    rw [hkn, List.take_length] at h2
    have e : ((spreadL xs l.length keys).map fun x : Nat => (x : Int)).length = l.length := by rw [List.length_map, spreadL_len]
    have ev : ((spreadL xs l.length keys).map fun x : Nat => (x : Int)).map intV = numsV (spreadL xs l.length keys) := by simp [numsV, intV]
    have en : (numsV (spreadL xs l.length keys)).length = l.length := by simp [numsV, spreadL_len]
    have r1 := blk_reads h1
    have r2 := blk_reads h2
    rw [en] at r1 r2
    have h := sameInts (some ⟨g, 0, none⟩) (some ⟨g2, 0, none⟩) l.length l.length W.heap.size ((spreadL xs l.length keys).map fun x : Nat => (x : Int)) ((spreadL xs l.length keys).map fun x : Nat => (x : Int)) W (by rw [e, ev]; exact r1) (by rw [e, ev]; exact r2) (by rw [e]; unfold maxLen; omega) (by rw [e]; unfold maxLen; omega)
    rw [e] at h
    refine h.mono fun e' w' ⟨a, b⟩ => ⟨?_, b⟩
    rw [a, decide_eq_true rfl]
  have hx2 := hx.1
  have hx5 := hx.2
  have hsz := hM.sz
  obtain ⟨sz, hn⟩ : ∃ sz, sz = xs.length := ⟨_, rfl⟩
  rw [← hn] at hx2 hx5 hsz
  have hwn : IntKind.u64.wrap (sz : Int) = (sz : Int) := by rw [IntKind.wrap_u64]; omega
  have hn0 : ¬ (sz : Int) = 0 := by omega
  have HNX := Lib.hid hn
  subst hsz
  rw [← hn] at HTab
  clear hM hx hn
  clear hE hE9 hG hW hK hI hL hr _hu hkn
  obtain ⟨mn, hways⟩ : ∃ mn : Int, (decide (n < 0) = true ∧ mn = 0 ∧ (m : Int) = 0) ∨ (decide (n < 0) = false ∧ decide (n > 500) = true ∧ mn = 500 ∧ (m : Int) = 500) ∨ (decide (n < 0) = false ∧ decide (n > 500) = false ∧ mn = n ∧ (m : Int) = n) := by
    simp only [decide_eq_true_eq, decide_eq_false_iff_not]
    refine ⟨m, ?_⟩
    omega
  have hmn : mn = (m : Int) := by rcases hways with ⟨_, h1, h2⟩ | ⟨_, _, h1, h2⟩ | ⟨_, _, h1, h2⟩ <;> omega
  clear hm
  go_enter Tryz.func8, Tryz.ntmps8
  go_wp2_with fail
  refine HW.out.mono ?_
  rintro e w1 ⟨rfl, hb1⟩
  go_wp2_with fail
  refine (HL.out _ hb1).mono ?_
  rintro e w2 ⟨rfl, rfl⟩
  go_wp2_with fail
  refine (HKE.out _).mono ?_
  rintro e w2 ⟨A2, c2, rfl, hb2, hT2⟩
  have HB2 := Lib.hid (below_two hb1 hb2)
  have HT2 := Lib.hid hT2
  clear hb1 hb2 hT2 HW HL HKE
  have hne : ((m : Int) != mn) = false := by rw [hmn]; simp
  clear hmn
  rcases hways with ⟨q1, rfl, hq⟩ | ⟨q1, q2, rfl, hq⟩ | ⟨q1, q2, rfl, hq⟩
  all_goals
    have HQ := Lib.hid hq
    clear hq
    go_wp2_with fail
    clear hne
    go_loopw [12] (fun iv wr => ∃ i : Nat, i ≤ m ∧ iv = .int .i64 (i : Int) ∧ Hid (Below w2.heap.size w2 wr)) (fun iv _ => m + 1 - (intOf iv).toNat)
    case atStart => exact ⟨0, Nat.zero_le _, rfl, Lib.hid (Below.refl _ _)⟩
    case round =>
      obtain ⟨i, hile, rfl, hB⟩ := hrel
      by_cases him : i < m
      · first
          | (exfalso; have := HQ.out; omega)
          | (have him2 : (i : Int) < m := by omega
             obtain ⟨T, ⟨ad, rfl, hck⟩, HTO⟩ := HT2.out i him
             have hwi : IntKind.u64.wrap (i : Int) = (i : Int) := by rw [IntKind.wrap_u64]; omega
             have HCK := Lib.hid hck
             have hRef := Below.refl wr.heap.size wr
             have ck := hck wr hB.out
             have ckd : wr.drew.cell? (ad.add i) = some (.int .u64 (T : Int)) := ck
             have HTO2 := Lib.hid (HTO.out wr.drew)
             clear hck HTO
             go_wp2_with fail
             go_region_held3 (fun w' => w'.cell? (ad.add i) = some (.int .u64 (T : Int))) (first | exact ckd | go_keep) (first
               | (go_at_call 30
                  refine HTO2.out.mono ?_
                  rintro e w3 ⟨rfl, rfl⟩))
             all_goals
               have HB3 := Lib.hid (bl_drew hB.out)
               clear hB ck ckd HTO2 HCK hRef
               go_wp2_with fail
               go_roundw
               case rel => exact ⟨i + 1, by omega, by go_num, HB3⟩
               case measure => simp [intOf]; omega)
      · obtain rfl : i = m := by omega
        have hge : ¬ (i : Int) < i := by omega
        have hb2r := below_two HB2.out hB.out
        have hT2 := (HI.out.below hb2r)
        clear hB HT2 HB2
        go_wp2_with fail
        refine (ownTexts_any A l.length c w.heap.size (strV l) wr (HI.out.r.below hb2r) str_one (by omega)).mono ?_
        rintro e w4 ⟨A4, c4, rfl, ho4, hb4⟩
        have hb24 := below_two hb2r hb4
        have HT4 := Lib.hid ho4
        have HRK4 := Lib.hid (HRK.out w4 hb24)
        clear ho4 hT2
        go_wp2_with fail
        refine (ownKeys_any K kn kc w4.heap.size (keysV keys) w4 HRK4.out key_one (by omega)).mono ?_
        rintro e w5 ⟨A5, c5, rfl, ho5, hb5⟩
        have HT5 : Hid (TxIn w5 A4 c4 l) := Lib.hid (TxIn.below ⟨Reads.of_own HT4.out, own_ncap2 HT4.out, HI.out.lm, HI.out.s⟩ hb5)
        have HK5 := Lib.hid (Reads.of_own ho5)
        have hb25 := below_two hb24 hb5
        clear ho5 HT4 HRK4
        go_wp2_with fail
        refine (HSB.out w5 A4 c4 A5 c5 (HETT.out w5 hb25) HT5.out HK5.out).mono ?_
        rintro e w6 ⟨g6, rfl, hB6, hb6⟩
        have HB6 := Lib.hid hB6
        have hb26 := below_two hb25 hb6
        clear HT5 HK5 HSB hB6
        go_wp2_with fail
        refine (HTF.out w6 hb26).mono ?_
        rintro e w7 ⟨rfl, hb7⟩
        have hb7a := hb7.alloc hb7.size (.cells #[.int .i64 0, .int .i64 (-1)] 87)
        have hb27 := below_two hb26 hb7a
        have HB7 := Lib.hid (HB6.out.below hb7a HB6.out.lt)
        have HTO7 := Lib.hid (HTab.out _ hb27)
        clear hb7 hb7a HTF HB6
        go_wp2_with fail
        refine HTO7.out.mono ?_
        rintro e w8 ⟨A8, c8, rfl, hr8, hb8⟩
        have HB8 := Lib.hid (HB7.out.below hb8 HB7.out.lt)
        have hb28 := below_two hb27 hb8
        have HIN := Lib.hid (HSp.out w8 A8 hb28 (by rw [← HNX.out]; exact hr8))
        have hm8 := HMk.out w8
        have HXB := Lib.hid (Blk.new w8 3 (numsV (List.replicate l.length 0)).toArray)
        have HBN := Lib.hid ((Below.refl w8.heap.size w8).alloc (Nat.le_refl _) (.cells (numsV (List.replicate l.length 0)).toArray 3))
        have HB28 := Lib.hid hb28
        clear hb8 hr8 HTO7 HB7 hb28 hb27 HMk HSp HTab
        go_wp2_with fail
        have HB0 : Hid (Blk (w8.alloc (.cells (numsV (List.replicate l.length 0)).toArray 3)) w8.heap.size 3 (numsV (spreadL xs l.length (keys.take 0))).toArray) := Lib.hid HXB.out
        generalize w8.alloc (.cells (numsV (List.replicate l.length 0)).toArray 3) = w9 at *
        clear HXB
        go_loopw [18] (fun iv wr => ∃ i : Nat, i ≤ kn ∧ iv = .int .i64 (i : Int) ∧ Hid (Blk wr w8.heap.size 3 (numsV (spreadL xs l.length (keys.take i))).toArray) ∧ Hid (Below w8.heap.size w8 wr)) (fun iv _ => kn + 1 - (intOf iv).toNat)
        case atStart => exact ⟨0, Nat.zero_le _, rfl, HB0, HBN⟩
        case round =>
          obtain ⟨i, hile, rfl, hB, hbw⟩ := hrel
          clear HB0 HBN
          generalize wr = wr2 at *
          by_cases hil : i < kn
          · have hil2 : (i : Int) < kn := by omega
            obtain ⟨key, T, j, s, cc, hS, hsm, hcc, hT, hB2⟩ := sp_step HIN.out hbw.out (Nat.le_refl _) hB.out (by rw [← HKN.out]; exact hil)
            obtain ⟨⟨adk, rfl, ck⟩, ⟨adx, rfl, cx⟩, gx, gf, tm, te, jn, tu⟩ := hS
            rw [← HNX.out] at tm te jn
            have HT1 : Hid (∀ W', Calls Tryz.prog 30 #[.int .u64 (key : Int)] W' fun e w' => e = .returned (.int .u64 (T : Int)) ∧ W' = w') := Lib.hid fun W' => by rw [hT.out.2.1]; exact turnOf_any key W' hT.out.2.2
            have HB3 : Hid (Blk (wr2.setCell ⟨w8.heap.size, s, none⟩ (.int .i64 ((cc : Int) + 1))) w8.heap.size 3 (numsV (spreadL xs l.length (keys.take (i + 1)))).toArray) := Lib.hid (hB2.out _ (hB.out.set_ s _))
            have HB4 : Hid (Below w8.heap.size w8 (wr2.setCell ⟨w8.heap.size, s, none⟩ (.int .i64 ((cc : Int) + 1)))) := Lib.hid (hbw.out.setCell (Nat.le_refl _) _)
            have hs2 : (s : Int) < l.length := by omega
            have hj2 : (j : Int) < sz := by omega
            have hcc2 : cc ≤ 1000 := by have := HKN.out; omega
            have hwj : IntKind.i64.wrap (j : Int) = (j : Int) := IntWalk.i64_in _ (by omega)
            clear hT hB2 hB hbw tu hcc
            go_wp2_with fail
            refine (HT1.out _).mono ?_
            rintro e w10 ⟨rfl, rfl⟩
            go_wp2_with fail
            go_roundw
            case rel => exact ⟨i + 1, by omega, by go_num, HB3, HB4⟩
            case measure => simp [intOf]; omega
          · obtain rfl : i = kn := by omega
            have hge2 : ¬ (i : Int) < i := by omega
            have HSI := Lib.hid (HSame.out g6 w8.heap.size wr2 (HB8.out.below hbw.out HB8.out.lt) hB.out)
            have HBW := Lib.hid (below_two HB28.out hbw.out)
            clear hB hbw
            go_wp2_with fail
            refine HSI.out.mono ?_
            rintro e w11 ⟨rfl, m11, rfl⟩
            go_wp2_with fail
            go_ret
            exact ⟨rfl, below_drewN HBW.out m11⟩
set_option maxRecDepth 100000 in
set_option maxHeartbeats 4000000 in
theorem ps_long (ea : Nat → Addr) (A K : Option Addr) (c kc kn : Nat) (l : List ByteArray) (size n : Int) (m : Nat) (hm : max 0 (min n 500) = (m : Int)) (keys : List Nat) (w : World) (hE : ErrsB ea w) (hE9 : ErrsW ea w) (hG : HandleAt w) (hW : CarW w) (hK : ErrsK ea w) (hI : TxIn w A c l) (hL : longH l = false) (hkn : kn = keys.length) (hr : Reads w w.heap.size 1 K kn (keysV keys)) (_hu : ∀ k ∈ keys, U64 k) (xs : List Int) (hM : MakeYes ea l size xs) (hk5 : 500 < kn) (hk600 : kn ≤ 600) :
    Calls Tryz.prog 8 #[.slice A l.length c, .int .i64 size, .slice K kn kc, .int .i64 n] w (True1 w) := by
  have HW := Lib.hid (played_any ea w hE hE9 hG hW hK)
  have HL : Hid (∀ W, Below w.heap.size w W → Calls Tryz.prog 28 #[.slice A l.length c] W (LongIs false W)) :=
    Lib.hid fun W hW => by rw [← hL]; exact longHosts_any A c W.heap.size l W (hI.below hW).r hI.lm hI.s
  obtain ⟨hl30, _⟩ := long_no hL
  have HKE : Hid (∀ W, Calls Tryz.prog 29 #[.int .i64 n] W fun e w' => ∃ (A' : Option Addr) (cap : Nat), e = .returned (.slice A' m cap) ∧ Below W.heap.size W w' ∧ ∀ i, i < m → ∃ T : Nat, (∃ ad, A' = some ad ∧ ∀ W2, Below w'.heap.size w' W2 → W2.cell? (ad.add i) = some (.int .u64 (T : Int))) ∧ Hid (∀ W2, Calls Tryz.prog 30 #[.int .u64 (i : Int)] W2 fun e w2 => e = .returned (.int .u64 (T : Int)) ∧ W2 = w2)) := Lib.hid fun W => (keys_any n m hm W).mono fun e w' ⟨v, a, b, d⟩ => by
    obtain ⟨A', cap, rfl, _⟩ := own_slice b
    refine ⟨A', cap, a, d, fun i hi => ⟨Mx.turn i, ?_, Lib.hid fun W2 => turnOf_any i W2 (by unfold U64; omega)⟩⟩
    obtain ⟨ad, u, hA, hbl, hu, hc⟩ := (Reads.of_own b).at_ hi
    refine ⟨ad, hA, fun W2 hb2 => ?_⟩
    rw [hb2.cell (by rw [block_of_add]; exact hbl), hc, ← hu]
    simp [keysV, turnsL, hi]
  have hm5 : m ≤ 500 := by omega
  have HI := Lib.hid hI
  have HRK := Lib.hid (fun W (hb : Below w.heap.size w W) => (show Reads W W.heap.size 1 K kn (keysV keys) from (hr.below hb).more hb.size))
  have HETT := Lib.hid (fun W (hb : Below w.heap.size w W) => errsT_w3 (hE9.below hb))
  have t1 : decide ((kn : Int) > 60) = true := by simp; omega
  have t2 : decide ((kn : Int) ≤ 500) = false := by simp; omega
  have t3 : decide ((kn : Int) > 600) = false := by simp; omega
  have t4 : decide ((kn : Int) > 500) = true := by simp; omega
  have t5 : decide (kn > 500) = true := by simp; omega
  have HSB : Hid (∀ W A4 c4 A5 c5, ErrsT ea W → TxIn W A4 c4 l → Calls Tryz.prog 31 #[.slice A4 l.length c4, .int .i64 size, .slice A5 kn c5] W fun e w' => e = .returned (.tuple #[.slice none 0 0, .iface 330 (.pointer (some (ea (gv 2))))]) ∧ Below W.heap.size W w') := Lib.hid fun W A4 c4 A5 c5 h1 h2 => spread_long ea A4 A5 c4 kn c5 l size xs W h1 h2 hM hk5 (by unfold maxLen; omega)
  have HTF : Hid (∀ W, Below w.heap.size w W → Calls Tryz.prog 34 #[.slice A l.length c, .int .i64 size] W (FineIs W)) := Lib.hid fun W hb => hM.fault W A c (hI.below hb)
  unfold FineIs at HTF
  have HFA : Hid (∀ W, Below w.heap.size w W → Calls Tryz.prog 36 #[.iface 330 (.pointer (some (ea (gv 2)))), .agg #[.int .i64 2, .int .i64 (-1)]] W (Yeslaw3 W)) := Lib.hid fun W hW => faultedlaw3_some (f := ⟨2, none⟩) (hE9.below hW) (hG.below hW) (by decide) (by decide) ⟨rfl, rfl⟩
  unfold Yeslaw3 at HFA
  clear hM
  generalize ea (gv 2) = e2 at *
  clear hE hE9 hG hW hK hI hL hr _hu hkn
  obtain ⟨mn, hways⟩ : ∃ mn : Int, (decide (n < 0) = true ∧ mn = 0 ∧ (m : Int) = 0) ∨ (decide (n < 0) = false ∧ decide (n > 500) = true ∧ mn = 500 ∧ (m : Int) = 500) ∨ (decide (n < 0) = false ∧ decide (n > 500) = false ∧ mn = n ∧ (m : Int) = n) := by
    simp only [decide_eq_true_eq, decide_eq_false_iff_not]
    refine ⟨m, ?_⟩
    omega
  have hmn : mn = (m : Int) := by rcases hways with ⟨_, h1, h2⟩ | ⟨_, _, h1, h2⟩ | ⟨_, _, h1, h2⟩ <;> omega
  clear hm
  go_enter Tryz.func8, Tryz.ntmps8
  go_wp2_with fail
  refine HW.out.mono ?_
  rintro e w1 ⟨rfl, hb1⟩
  go_wp2_with fail
  refine (HL.out _ hb1).mono ?_
  rintro e w2 ⟨rfl, rfl⟩
  go_wp2_with fail
  refine (HKE.out _).mono ?_
  rintro e w2 ⟨A2, c2, rfl, hb2, hT2⟩
  have HB2 := Lib.hid (below_two hb1 hb2)
  have HT2 := Lib.hid hT2
  clear hb1 hb2 hT2 HW HL HKE
  have hne : ((m : Int) != mn) = false := by rw [hmn]; simp
  clear hmn
  rcases hways with ⟨q1, rfl, hq⟩ | ⟨q1, q2, rfl, hq⟩ | ⟨q1, q2, rfl, hq⟩
  all_goals
    have HQ := Lib.hid hq
    clear hq
    go_wp2_with fail
    clear hne
    go_loopw [12] (fun iv wr => ∃ i : Nat, i ≤ m ∧ iv = .int .i64 (i : Int) ∧ Hid (Below w2.heap.size w2 wr)) (fun iv _ => m + 1 - (intOf iv).toNat)
    case atStart => exact ⟨0, Nat.zero_le _, rfl, Lib.hid (Below.refl _ _)⟩
    case round =>
      obtain ⟨i, hile, rfl, hB⟩ := hrel
      by_cases him : i < m
      · first
          | (exfalso; have := HQ.out; omega)
          | (have him2 : (i : Int) < m := by omega
             obtain ⟨T, ⟨ad, rfl, hck⟩, HTO⟩ := HT2.out i him
             have hwi : IntKind.u64.wrap (i : Int) = (i : Int) := by rw [IntKind.wrap_u64]; omega
             have HCK := Lib.hid hck
             have hRef := Below.refl wr.heap.size wr
             have ck := hck wr hB.out
             have ckd : wr.drew.cell? (ad.add i) = some (.int .u64 (T : Int)) := ck
             have HTO2 := Lib.hid (HTO.out wr.drew)
             clear hck HTO
             go_wp2_with fail
             go_region_held3 (fun w' => w'.cell? (ad.add i) = some (.int .u64 (T : Int))) (first | exact ckd | go_keep) (first
               | (go_at_call 30
                  refine HTO2.out.mono ?_
                  rintro e w3 ⟨rfl, rfl⟩))
             all_goals
               have HB3 := Lib.hid (bl_drew hB.out)
               clear hB ck ckd HTO2 HCK hRef
               go_wp2_with fail
               go_roundw
               case rel => exact ⟨i + 1, by omega, by go_num, HB3⟩
               case measure => simp [intOf]; omega)
      · obtain rfl : i = m := by omega
        have hge : ¬ (i : Int) < i := by omega
        have hb2r := below_two HB2.out hB.out
        have hT2 := (HI.out.below hb2r)
        clear hB HT2 HB2
        go_wp2_with fail
        refine (ownTexts_any A l.length c w.heap.size (strV l) wr (HI.out.r.below hb2r) str_one (by omega)).mono ?_
        rintro e w4 ⟨A4, c4, rfl, ho4, hb4⟩
        have hb24 := below_two hb2r hb4
        have HT4 := Lib.hid ho4
        have HRK4 := Lib.hid (HRK.out w4 hb24)
        clear ho4 hT2
        go_wp2_with fail
        refine (ownKeys_any K kn kc w4.heap.size (keysV keys) w4 HRK4.out key_one (by omega)).mono ?_
        rintro e w5 ⟨A5, c5, rfl, ho5, hb5⟩
        have HT5 : Hid (TxIn w5 A4 c4 l) := Lib.hid (TxIn.below ⟨Reads.of_own HT4.out, own_ncap2 HT4.out, HI.out.lm, HI.out.s⟩ hb5)
        have HK5 := Lib.hid (Reads.of_own ho5)
        have hb25 := below_two hb24 hb5
        clear ho5 HT4 HRK4
        go_wp2_with fail
        refine (HSB.out w5 A4 c4 A5 c5 (HETT.out w5 hb25) HT5.out).mono ?_
        rintro e w6 ⟨rfl, hb6⟩
        have hb26 := below_two hb25 hb6
        clear HT5 HK5 HSB
        go_wp2_with fail
        refine (HTF.out w6 hb26).mono ?_
        rintro e w7 ⟨rfl, hb7⟩
        have hb7a := hb7.alloc hb7.size (.cells #[.int .i64 0, .int .i64 (-1)] 87)
        have hX7 := Blk.new w7 87 #[.int .i64 0, .int .i64 (-1)]
        have hb27 := below_two hb26 hb7a
        obtain ⟨w7a, hw7⟩ : ∃ w7a, w7a = w7.alloc (.cells #[.int .i64 0, .int .i64 (-1)] 87) := ⟨_, rfl⟩
        rw [← hw7] at hb7a hX7 hb27
        go_wp2_with fail
        rw [← hw7]
        refine (bare_any 2 w7a).mono ?_
        rintro e w8 ⟨rfl, hb8⟩
        have hX8 := hX7.below hb8 hX7.lt
        have hb28 := below_two hb27 hb8
        have x0 := hX8.cell 0
        have x1 := hX8.cell 1
        have f0 := hX8.frozen 0
        have f1 := hX8.frozen 1
        have hS8 : Hid (Below w.heap.size w ((w8.setCell ⟨w7.heap.size, 0, none⟩ (.int .i64 2)).setCell ⟨w7.heap.size, 1, none⟩ (.int .i64 (-1)))) := Lib.hid ((hb28.setCell (p := ⟨w7.heap.size, 0, none⟩) (Nat.le_trans hb26.size hb7.size) _).setCell (p := ⟨w7.heap.size, 1, none⟩) (Nat.le_trans hb26.size hb7.size) _)
        have HFA8 := Lib.hid (HFA.out _ hS8.out)
        clear hX7 hX8 hb7 hb7a hb8 hb27 hb28 hw7 HFA HTF
        simp at x0 x1
        go_wp2_with fail
        refine HFA8.out.mono ?_
        rintro e w9 ⟨rfl, hb9⟩
        have HB9 := Lib.hid (below_two hS8.out hb9)
        clear hb9 HFA8
        go_wp2_with fail
        go_ret
        exact ⟨rfl, HB9.out⟩
set_option maxRecDepth 100000 in
set_option maxHeartbeats 4000000 in
theorem ps_badA (ea : Nat → Addr) (A K : Option Addr) (c kc kn : Nat) (l : List ByteArray) (size n : Int) (m : Nat) (hm : max 0 (min n 500) = (m : Int)) (keys : List Nat) (w : World) (hE : ErrsB ea w) (hE9 : ErrsW ea w) (hG : HandleAt w) (hW : CarW w) (hK : ErrsK ea w) (hI : TxIn w A c l) (hL : longH l = false) (_hkn : kn = keys.length) (hr : Reads w w.heap.size 1 K kn (keysV keys)) (_hu : ∀ k ∈ keys, U64 k) (f : Flt) (hf1 : 1 ≤ f.code) (hf9 : f.code ≤ 9) (hM : MakeNo ea l size f) (t1 : decide ((kn : Int) > 60) = false) (t3 : decide ((kn : Int) > 600) = false) (hk600 : kn ≤ 1000) :
    Calls Tryz.prog 8 #[.slice A l.length c, .int .i64 size, .slice K kn kc, .int .i64 n] w (True1 w) := by
  have HW := Lib.hid (played_any ea w hE hE9 hG hW hK)
  have HL : Hid (∀ W, Below w.heap.size w W → Calls Tryz.prog 28 #[.slice A l.length c] W (LongIs false W)) :=
    Lib.hid fun W hW => by rw [← hL]; exact longHosts_any A c W.heap.size l W (hI.below hW).r hI.lm hI.s
  obtain ⟨hl30, _⟩ := long_no hL
  have HKE : Hid (∀ W, Calls Tryz.prog 29 #[.int .i64 n] W fun e w' => ∃ (A' : Option Addr) (cap : Nat), e = .returned (.slice A' m cap) ∧ Below W.heap.size W w' ∧ ∀ i, i < m → ∃ T : Nat, (∃ ad, A' = some ad ∧ ∀ W2, Below w'.heap.size w' W2 → W2.cell? (ad.add i) = some (.int .u64 (T : Int))) ∧ Hid (∀ W2, Calls Tryz.prog 30 #[.int .u64 (i : Int)] W2 fun e w2 => e = .returned (.int .u64 (T : Int)) ∧ W2 = w2)) := Lib.hid fun W => (keys_any n m hm W).mono fun e w' ⟨v, a, b, d⟩ => by
    obtain ⟨A', cap, rfl, _⟩ := own_slice b
    refine ⟨A', cap, a, d, fun i hi => ⟨Mx.turn i, ?_, Lib.hid fun W2 => turnOf_any i W2 (by unfold U64; omega)⟩⟩
    obtain ⟨ad, u, hA, hbl, hu, hc⟩ := (Reads.of_own b).at_ hi
    refine ⟨ad, hA, fun W2 hb2 => ?_⟩
    rw [hb2.cell (by rw [block_of_add]; exact hbl), hc, ← hu]
    simp [keysV, turnsL, hi]
  have hm5 : m ≤ 500 := by omega
  have HI := Lib.hid hI
  have HRK := Lib.hid (fun W (hb : Below w.heap.size w W) => (show Reads W W.heap.size 1 K kn (keysV keys) from (hr.below hb).more hb.size))
  have HETT := Lib.hid (fun W (hb : Below w.heap.size w W) => errsT_w3 (hE9.below hb))
  have HSB : Hid (∀ W A4 c4 A5 c5, ErrsT ea W → TxIn W A4 c4 l → Calls Tryz.prog 31 #[.slice A4 l.length c4, .int .i64 size, .slice A5 kn c5] W (SortedBad ea f W)) := Lib.hid fun W A4 c4 A5 c5 h1 h2 => spread_bad ea A4 A5 c4 kn c5 l size f W h1 h2 hM
  unfold SortedBad at HSB
  have HTF : Hid (∀ W, Below w.heap.size w W → Calls Tryz.prog 34 #[.slice A l.length c, .int .i64 size] W (FaultPost (some f) W)) := Lib.hid fun W hb => hM.2 W A c (hI.below hb)
  unfold FaultPost at HTF
  have HFA : Hid (∀ W t a, Below w.heap.size w W → IsErr ea W f t a → Calls Tryz.prog 36 #[.iface t (.pointer (some a)), .agg #[.int .i64 (fCode (some f) : Int), .int .i64 (fAt (some f))]] W (Yeslaw3 W)) := Lib.hid fun W t a hW hI => faultedlaw3_some (hE9.below hW) (hG.below hW) hf1 hf9 hI
  unfold Yeslaw3 at HFA
  have hc1 : 0 < fCode (some f) := hf1
  have HIE : Hid (∀ W W' t a, Below W.heap.size W W' → IsErr ea W f t a → IsErr ea W' f t a) := Lib.hid fun W W' t a hb h => h.below hb
  clear hM hf1 hf9
  generalize fCode (some f) = fc at *
  generalize fAt (some f) = fa at *
  have hc2 : ((fc : Int) == 0) = false := beq_eq_false_iff_ne.2 (by omega)
  have hc3 : (fc == 0) = false := beq_eq_false_iff_ne.2 (by omega)
  clear hE hE9 hG hW hK hI hL hr _hu _hkn
  obtain ⟨mn, hways⟩ : ∃ mn : Int, (decide (n < 0) = true ∧ mn = 0 ∧ (m : Int) = 0) ∨ (decide (n < 0) = false ∧ decide (n > 500) = true ∧ mn = 500 ∧ (m : Int) = 500) ∨ (decide (n < 0) = false ∧ decide (n > 500) = false ∧ mn = n ∧ (m : Int) = n) := by
    simp only [decide_eq_true_eq, decide_eq_false_iff_not]
    refine ⟨m, ?_⟩
    omega
  have hmn : mn = (m : Int) := by rcases hways with ⟨_, h1, h2⟩ | ⟨_, _, h1, h2⟩ | ⟨_, _, h1, h2⟩ <;> omega
  clear hm
  go_enter Tryz.func8, Tryz.ntmps8
  go_wp2_with fail
  refine HW.out.mono ?_
  rintro e w1 ⟨rfl, hb1⟩
  go_wp2_with fail
  refine (HL.out _ hb1).mono ?_
  rintro e w2 ⟨rfl, rfl⟩
  go_wp2_with fail
  refine (HKE.out _).mono ?_
  rintro e w2 ⟨A2, c2, rfl, hb2, hT2⟩
  have HB2 := Lib.hid (below_two hb1 hb2)
  have HT2 := Lib.hid hT2
  clear hb1 hb2 hT2 HW HL HKE
  have hne : ((m : Int) != mn) = false := by rw [hmn]; simp
  clear hmn
  rcases hways with ⟨q1, rfl, hq⟩ | ⟨q1, q2, rfl, hq⟩ | ⟨q1, q2, rfl, hq⟩
  all_goals
    have HQ := Lib.hid hq
    clear hq
    go_wp2_with fail
    clear hne
    go_loopw [12] (fun iv wr => ∃ i : Nat, i ≤ m ∧ iv = .int .i64 (i : Int) ∧ Hid (Below w2.heap.size w2 wr)) (fun iv _ => m + 1 - (intOf iv).toNat)
    case atStart => exact ⟨0, Nat.zero_le _, rfl, Lib.hid (Below.refl _ _)⟩
    case round =>
      obtain ⟨i, hile, rfl, hB⟩ := hrel
      by_cases him : i < m
      · first
          | (exfalso; have := HQ.out; omega)
          | (have him2 : (i : Int) < m := by omega
             obtain ⟨T, ⟨ad, rfl, hck⟩, HTO⟩ := HT2.out i him
             have hwi : IntKind.u64.wrap (i : Int) = (i : Int) := by rw [IntKind.wrap_u64]; omega
             have HCK := Lib.hid hck
             have hRef := Below.refl wr.heap.size wr
             have ck := hck wr hB.out
             have ckd : wr.drew.cell? (ad.add i) = some (.int .u64 (T : Int)) := ck
             have HTO2 := Lib.hid (HTO.out wr.drew)
             clear hck HTO
             go_wp2_with fail
             go_region_held3 (fun w' => w'.cell? (ad.add i) = some (.int .u64 (T : Int))) (first | exact ckd | go_keep) (first
               | (go_at_call 30
                  refine HTO2.out.mono ?_
                  rintro e w3 ⟨rfl, rfl⟩))
             all_goals
               have HB3 := Lib.hid (bl_drew hB.out)
               clear hB ck ckd HTO2 HCK hRef
               go_wp2_with fail
               go_roundw
               case rel => exact ⟨i + 1, by omega, by go_num, HB3⟩
               case measure => simp [intOf]; omega)
      · obtain rfl : i = m := by omega
        have hge : ¬ (i : Int) < i := by omega
        have hb2r := below_two HB2.out hB.out
        have hT2 := (HI.out.below hb2r)
        clear hB HT2 HB2
        go_wp2_with fail
        refine (ownTexts_any A l.length c w.heap.size (strV l) wr (HI.out.r.below hb2r) str_one (by omega)).mono ?_
        rintro e w4 ⟨A4, c4, rfl, ho4, hb4⟩
        have hb24 := below_two hb2r hb4
        have HT4 := Lib.hid ho4
        have HRK4 := Lib.hid (HRK.out w4 hb24)
        clear ho4 hT2
        go_wp2_with fail
        refine (ownKeys_any K kn kc w4.heap.size (keysV keys) w4 HRK4.out key_one (by omega)).mono ?_
        rintro e w5 ⟨A5, c5, rfl, ho5, hb5⟩
        have HT5 : Hid (TxIn w5 A4 c4 l) := Lib.hid (TxIn.below ⟨Reads.of_own HT4.out, own_ncap2 HT4.out, HI.out.lm, HI.out.s⟩ hb5)
        have HK5 := Lib.hid (Reads.of_own ho5)
        have hb25 := below_two hb24 hb5
        clear ho5 HT4 HRK4
        go_wp2_with fail
        refine (HSB.out w5 A4 c4 A5 c5 (HETT.out w5 hb25) HT5.out).mono ?_
        rintro e w6 ⟨ft, fp, rfl, hie, hb6⟩
        have hb26 := below_two hb25 hb6
        have HIE6 := Lib.hid hie
        clear hie HT5 HK5 HSB
        go_wp2_with fail
        refine (HTF.out w6 hb26).mono ?_
        rintro e w7 ⟨rfl, hb7⟩
        have hb7a := hb7.alloc hb7.size (.cells #[.int .i64 (fc : Int), .int .i64 fa] 87)
        have hb27 := below_two hb26 hb7a
        have HFA7 := Lib.hid (HFA.out _ ft fp hb27 (HIE.out _ _ _ _ hb7a HIE6.out))
        clear hb7 hb7a HFA HIE HIE6 HTF
        go_wp2_with fail
        refine HFA7.out.mono ?_
        rintro e w8 ⟨rfl, hb8⟩
        have HB8 := Lib.hid (below_two hb27 hb8)
        clear hb8 hb27 HFA7
        go_wp2_with fail
        go_ret
        exact ⟨rfl, HB8.out⟩
set_option maxRecDepth 100000 in
set_option maxHeartbeats 4000000 in
theorem ps_badB (ea : Nat → Addr) (A K : Option Addr) (c kc kn : Nat) (l : List ByteArray) (size n : Int) (m : Nat) (hm : max 0 (min n 500) = (m : Int)) (keys : List Nat) (w : World) (hE : ErrsB ea w) (hE9 : ErrsW ea w) (hG : HandleAt w) (hW : CarW w) (hK : ErrsK ea w) (hI : TxIn w A c l) (hL : longH l = false) (_hkn : kn = keys.length) (hr : Reads w w.heap.size 1 K kn (keysV keys)) (_hu : ∀ k ∈ keys, U64 k) (f : Flt) (hf1 : 1 ≤ f.code) (hf9 : f.code ≤ 9) (hM : MakeNo ea l size f) (t1 : decide ((kn : Int) > 60) = true) (t2 : decide ((kn : Int) ≤ 500) = false) (t3 : decide ((kn : Int) > 600) = false) (hk600 : kn ≤ 1000) :
    Calls Tryz.prog 8 #[.slice A l.length c, .int .i64 size, .slice K kn kc, .int .i64 n] w (True1 w) := by
  have HW := Lib.hid (played_any ea w hE hE9 hG hW hK)
  have HL : Hid (∀ W, Below w.heap.size w W → Calls Tryz.prog 28 #[.slice A l.length c] W (LongIs false W)) :=
    Lib.hid fun W hW => by rw [← hL]; exact longHosts_any A c W.heap.size l W (hI.below hW).r hI.lm hI.s
  obtain ⟨hl30, _⟩ := long_no hL
  have HKE : Hid (∀ W, Calls Tryz.prog 29 #[.int .i64 n] W fun e w' => ∃ (A' : Option Addr) (cap : Nat), e = .returned (.slice A' m cap) ∧ Below W.heap.size W w' ∧ ∀ i, i < m → ∃ T : Nat, (∃ ad, A' = some ad ∧ ∀ W2, Below w'.heap.size w' W2 → W2.cell? (ad.add i) = some (.int .u64 (T : Int))) ∧ Hid (∀ W2, Calls Tryz.prog 30 #[.int .u64 (i : Int)] W2 fun e w2 => e = .returned (.int .u64 (T : Int)) ∧ W2 = w2)) := Lib.hid fun W => (keys_any n m hm W).mono fun e w' ⟨v, a, b, d⟩ => by
    obtain ⟨A', cap, rfl, _⟩ := own_slice b
    refine ⟨A', cap, a, d, fun i hi => ⟨Mx.turn i, ?_, Lib.hid fun W2 => turnOf_any i W2 (by unfold U64; omega)⟩⟩
    obtain ⟨ad, u, hA, hbl, hu, hc⟩ := (Reads.of_own b).at_ hi
    refine ⟨ad, hA, fun W2 hb2 => ?_⟩
    rw [hb2.cell (by rw [block_of_add]; exact hbl), hc, ← hu]
    simp [keysV, turnsL, hi]
  have hm5 : m ≤ 500 := by omega
  have HI := Lib.hid hI
  have HRK := Lib.hid (fun W (hb : Below w.heap.size w W) => (show Reads W W.heap.size 1 K kn (keysV keys) from (hr.below hb).more hb.size))
  have HETT := Lib.hid (fun W (hb : Below w.heap.size w W) => errsT_w3 (hE9.below hb))
  have HSB : Hid (∀ W A4 c4 A5 c5, ErrsT ea W → TxIn W A4 c4 l → Calls Tryz.prog 31 #[.slice A4 l.length c4, .int .i64 size, .slice A5 kn c5] W (SortedBad ea f W)) := Lib.hid fun W A4 c4 A5 c5 h1 h2 => spread_bad ea A4 A5 c4 kn c5 l size f W h1 h2 hM
  unfold SortedBad at HSB
  have HTF : Hid (∀ W, Below w.heap.size w W → Calls Tryz.prog 34 #[.slice A l.length c, .int .i64 size] W (FaultPost (some f) W)) := Lib.hid fun W hb => hM.2 W A c (hI.below hb)
  unfold FaultPost at HTF
  have HFA : Hid (∀ W t a, Below w.heap.size w W → IsErr ea W f t a → Calls Tryz.prog 36 #[.iface t (.pointer (some a)), .agg #[.int .i64 (fCode (some f) : Int), .int .i64 (fAt (some f))]] W (Yeslaw3 W)) := Lib.hid fun W t a hW hI => faultedlaw3_some (hE9.below hW) (hG.below hW) hf1 hf9 hI
  unfold Yeslaw3 at HFA
  have hc1 : 0 < fCode (some f) := hf1
  have HIE : Hid (∀ W W' t a, Below W.heap.size W W' → IsErr ea W f t a → IsErr ea W' f t a) := Lib.hid fun W W' t a hb h => h.below hb
  clear hM hf1 hf9
  generalize fCode (some f) = fc at *
  generalize fAt (some f) = fa at *
  have hc2 : ((fc : Int) == 0) = false := beq_eq_false_iff_ne.2 (by omega)
  have hc3 : (fc == 0) = false := beq_eq_false_iff_ne.2 (by omega)
  clear hE hE9 hG hW hK hI hL hr _hu _hkn
  obtain ⟨mn, hways⟩ : ∃ mn : Int, (decide (n < 0) = true ∧ mn = 0 ∧ (m : Int) = 0) ∨ (decide (n < 0) = false ∧ decide (n > 500) = true ∧ mn = 500 ∧ (m : Int) = 500) ∨ (decide (n < 0) = false ∧ decide (n > 500) = false ∧ mn = n ∧ (m : Int) = n) := by
    simp only [decide_eq_true_eq, decide_eq_false_iff_not]
    refine ⟨m, ?_⟩
    omega
  have hmn : mn = (m : Int) := by rcases hways with ⟨_, h1, h2⟩ | ⟨_, _, h1, h2⟩ | ⟨_, _, h1, h2⟩ <;> omega
  clear hm
  go_enter Tryz.func8, Tryz.ntmps8
  go_wp2_with fail
  refine HW.out.mono ?_
  rintro e w1 ⟨rfl, hb1⟩
  go_wp2_with fail
  refine (HL.out _ hb1).mono ?_
  rintro e w2 ⟨rfl, rfl⟩
  go_wp2_with fail
  refine (HKE.out _).mono ?_
  rintro e w2 ⟨A2, c2, rfl, hb2, hT2⟩
  have HB2 := Lib.hid (below_two hb1 hb2)
  have HT2 := Lib.hid hT2
  clear hb1 hb2 hT2 HW HL HKE
  have hne : ((m : Int) != mn) = false := by rw [hmn]; simp
  clear hmn
  rcases hways with ⟨q1, rfl, hq⟩ | ⟨q1, q2, rfl, hq⟩ | ⟨q1, q2, rfl, hq⟩
  all_goals
    have HQ := Lib.hid hq
    clear hq
    go_wp2_with fail
    clear hne
    go_loopw [12] (fun iv wr => ∃ i : Nat, i ≤ m ∧ iv = .int .i64 (i : Int) ∧ Hid (Below w2.heap.size w2 wr)) (fun iv _ => m + 1 - (intOf iv).toNat)
    case atStart => exact ⟨0, Nat.zero_le _, rfl, Lib.hid (Below.refl _ _)⟩
    case round =>
      obtain ⟨i, hile, rfl, hB⟩ := hrel
      by_cases him : i < m
      · first
          | (exfalso; have := HQ.out; omega)
          | (have him2 : (i : Int) < m := by omega
             obtain ⟨T, ⟨ad, rfl, hck⟩, HTO⟩ := HT2.out i him
             have hwi : IntKind.u64.wrap (i : Int) = (i : Int) := by rw [IntKind.wrap_u64]; omega
             have HCK := Lib.hid hck
             have hRef := Below.refl wr.heap.size wr
             have ck := hck wr hB.out
             have ckd : wr.drew.cell? (ad.add i) = some (.int .u64 (T : Int)) := ck
             have HTO2 := Lib.hid (HTO.out wr.drew)
             clear hck HTO
             go_wp2_with fail
             go_region_held3 (fun w' => w'.cell? (ad.add i) = some (.int .u64 (T : Int))) (first | exact ckd | go_keep) (first
               | (go_at_call 30
                  refine HTO2.out.mono ?_
                  rintro e w3 ⟨rfl, rfl⟩))
             all_goals
               have HB3 := Lib.hid (bl_drew hB.out)
               clear hB ck ckd HTO2 HCK hRef
               go_wp2_with fail
               go_roundw
               case rel => exact ⟨i + 1, by omega, by go_num, HB3⟩
               case measure => simp [intOf]; omega)
      · obtain rfl : i = m := by omega
        have hge : ¬ (i : Int) < i := by omega
        have hb2r := below_two HB2.out hB.out
        have hT2 := (HI.out.below hb2r)
        clear hB HT2 HB2
        go_wp2_with fail
        refine (ownTexts_any A l.length c w.heap.size (strV l) wr (HI.out.r.below hb2r) str_one (by omega)).mono ?_
        rintro e w4 ⟨A4, c4, rfl, ho4, hb4⟩
        have hb24 := below_two hb2r hb4
        have HT4 := Lib.hid ho4
        have HRK4 := Lib.hid (HRK.out w4 hb24)
        clear ho4 hT2
        go_wp2_with fail
        refine (ownKeys_any K kn kc w4.heap.size (keysV keys) w4 HRK4.out key_one (by omega)).mono ?_
        rintro e w5 ⟨A5, c5, rfl, ho5, hb5⟩
        have HT5 : Hid (TxIn w5 A4 c4 l) := Lib.hid (TxIn.below ⟨Reads.of_own HT4.out, own_ncap2 HT4.out, HI.out.lm, HI.out.s⟩ hb5)
        have HK5 := Lib.hid (Reads.of_own ho5)
        have hb25 := below_two hb24 hb5
        clear ho5 HT4 HRK4
        go_wp2_with fail
        refine (HSB.out w5 A4 c4 A5 c5 (HETT.out w5 hb25) HT5.out).mono ?_
        rintro e w6 ⟨ft, fp, rfl, hie, hb6⟩
        have hb26 := below_two hb25 hb6
        have HIE6 := Lib.hid hie
        clear hie HT5 HK5 HSB
        go_wp2_with fail
        refine (HTF.out w6 hb26).mono ?_
        rintro e w7 ⟨rfl, hb7⟩
        have hb7a := hb7.alloc hb7.size (.cells #[.int .i64 (fc : Int), .int .i64 fa] 87)
        have hb27 := below_two hb26 hb7a
        have HFA7 := Lib.hid (HFA.out _ ft fp hb27 (HIE.out _ _ _ _ hb7a HIE6.out))
        clear hb7 hb7a HFA HIE HIE6 HTF
        go_wp2_with fail
        refine HFA7.out.mono ?_
        rintro e w8 ⟨rfl, hb8⟩
        have HB8 := Lib.hid (below_two hb27 hb8)
        clear hb8 hb27 HFA7
        go_wp2_with fail
        go_ret
        exact ⟨rfl, HB8.out⟩
theorem ps_ways (lg : Bool) (n : Nat) (h : lg = true ∨ (60 < n ∧ n ≤ 500) ∨ 600 < n) : lg = true ∨ (lg = false ∧ decide ((n : Int) > 60) = true ∧ decide ((n : Int) ≤ 500) = true) ∨ (lg = false ∧ decide ((n : Int) > 60) = true ∧ decide ((n : Int) ≤ 500) = false ∧ decide ((n : Int) > 600) = true) := by
  cases lg
  · rcases h with h | h | h
    · cases h
    · exact .inr (.inl ⟨rfl, by simp; omega, by simp; omega⟩)
    · exact .inr (.inr ⟨rfl, by simp; omega, by simp; omega, by simp; omega⟩)
  · exact .inl rfl
set_option maxRecDepth 100000 in
set_option maxHeartbeats 1000000 in
theorem ps_skip (ea : Nat → Addr) (A K : Option Addr) (c kc kn : Nat) (l : List ByteArray) (size n : Int) (w : World) (hE : ErrsB ea w) (hE9 : ErrsW ea w) (hG : HandleAt w) (hW : CarW w) (hK : ErrsK ea w) (hI : TxIn w A c l) (_hm : kn ≤ maxLen) (h : longH l = true ∨ (60 < kn ∧ kn ≤ 500) ∨ 600 < kn) :
    Calls Tryz.prog 8 #[.slice A l.length c, .int .i64 size, .slice K kn kc, .int .i64 n] w (True1 w) := by
  unfold maxLen at _hm
  have HL : Hid (∀ W, Below w.heap.size w W → Calls Tryz.prog 28 #[.slice A l.length c] W (LongIs (longH l) W)) :=
    Lib.hid fun W hW => longHosts_any A c W.heap.size l W (hI.below hW).r hI.lm hI.s
  have HW := Lib.hid (played_any ea w hE hE9 hG hW hK)
  have hways := ps_ways (longH l) kn h
  have hlm := hI.lm
  unfold maxLen at hlm
  generalize longH l = lg at *
  clear hE hE9 hG hW hK hI h
  rcases hways with rfl | ⟨rfl, t1, t2⟩ | ⟨rfl, t1, t2, t3⟩
  all_goals
    go_enter Tryz.func8, Tryz.ntmps8
    go_wp2_with fail
    refine HW.out.mono ?_
    rintro e w1 ⟨rfl, hb1⟩
    go_wp2_with fail
    refine (HL.out _ hb1).mono ?_
    rintro e w2 ⟨rfl, rfl⟩
    go_wp2
    go_ret
    exact ⟨rfl, hb1⟩
theorem spread_args (ea : Nat → Addr) (A K : Option Addr) (c kc : Nat) (l : List ByteArray) (size n : Int) (ks : List Int) (w : World) (hE : ErrsB ea w) (hE9 : ErrsW ea w) (hG : HandleAt w) (hW : CarW w) (hK : ErrsK ea w)
    (R0 : Reads w w.heap.size 1 A l.length (l.map Value.string)) (lc0 : l.length ≤ c) (cm0 : c ≤ maxLen) (wf0 : ∀ s ∈ l, s.size ≤ maxLen) (R2 : Reads w w.heap.size 1 K ks.length (ks.map (Value.int .u64))) (lc2 : ks.length ≤ kc) (cm2 : kc ≤ maxLen) (wf2 : ∀ k ∈ ks, (Lit.int .u64 k).wf = true) :
    Calls Tryz.prog 8 #[.slice A l.length c, .int .i64 size, .slice K ks.length kc, .int .i64 n] w (True1 w) := by
  have hI : TxIn w A c l := ⟨R0, lc0, Nat.le_trans lc0 cm0, wf0⟩
  obtain ⟨keys, he, hr, hu⟩ := keys_arg R2 wf2
  rw [he]
  by_cases hs : longH l = true ∨ (60 < keys.length ∧ keys.length ≤ 500) ∨ 600 < keys.length
  · exact ps_skip ea A K c kc keys.length l size n w hE hE9 hG hW hK hI (by omega) hs
  simp only [not_or, Bool.not_eq_true] at hs
  obtain ⟨hL, hs2, hs3⟩ := hs
  have t3 : decide ((keys.length : Int) > 600) = false := by simp; omega
  obtain ⟨m, hm⟩ : ∃ m : Nat, max 0 (min n 500) = (m : Int) := ⟨(max 0 (min n 500)).toNat, by omega⟩
  cases hf : tableFault l size with
  | some f =>
    obtain ⟨hf1, hf9⟩ := tableFault_code hf
    have hM : MakeNo ea l size f := ⟨fun W A c hE hI => make_bad ea A c l size f W hE hI hf, fun W A c hI => by
      have := fault_no l size W A c hI
      rwa [hf] at this⟩
    by_cases h6 : keys.length ≤ 60
    · exact ps_badA ea A K c kc keys.length l size n m hm keys w hE hE9 hG hW hK hI hL rfl hr hu f hf1 hf9 hM (by simp; omega) t3 (by omega)
    · exact ps_badB ea A K c kc keys.length l size n m hm keys w hE hE9 hG hW hK hI hL rfl hr hu f hf1 hf9 hM (by simp; omega) (by simp; omega) t3 (by omega)
  | none =>
    obtain ⟨_, _, k, rfl, hk2, hk5, _⟩ := tableFault_none hf
    have hM := make_yes ea l k hf
    have hl := slotsI_length l k
    by_cases h6 : keys.length ≤ 60
    · exact ps_good ea A K c kc keys.length l _ n m hm keys w hE hE9 hG hW hK hI hL rfl hr hu _ hM (by omega) h6
    · exact ps_long ea A K c kc keys.length l _ n m hm keys w hE hE9 hG hW hK hI hL rfl hr hu _ hM (by omega) (by omega)
end Go.Proofs.YteilefpjfbholaaGreatDoor
