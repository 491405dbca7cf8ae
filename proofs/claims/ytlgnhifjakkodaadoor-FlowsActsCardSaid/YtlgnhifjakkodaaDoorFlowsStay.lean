/-
  The law FlowsStay: its walk.
-/
import Derived.Test.YtlgnhifjakkodaaDoorFlowDrop
import Derived.Test.YtlgnhifjakkodaaDoorKeys
import Derived.Deep.CutBlock
import Derived.Deep.DeepCutAuto
namespace Go.Proofs.YtlgnhifjakkodaaDoor
open Go.RowKit

def strMine : ByteArray := ⟨#[109, 105, 110, 101]⟩
def strOther : ByteArray := ⟨#[111, 116, 104, 101, 114]⟩
def strWhat : ByteArray := ⟨#[119, 104, 97, 116]⟩
def strA : ByteArray := ⟨#[97]⟩
theorem putF_fresh {L : List Fl} {x : Fl} (hl : L.length < 200) (hf : ∀ y ∈ L, y.key ≠ x.key) : putF L x = insF x L := by
  have e : roomF L x.key = L := by unfold roomF; rw [if_pos (.inr hl)]
  unfold putF
  rw [e, delF_none hf]
theorem putF_low {L : List Fl} {x : Fl} (hl : L.length < 200) : putF L x = insF x (delF x.key L) := by
  have e : roomF L x.key = L := by unfold roomF; rw [if_pos (.inr hl)]
  unfold putF
  rw [e]
/-- What is there while others come. -/
structure StayL (T key n : Nat) (L : List Fl) : Prop where
  til : ∀ x ∈ L, x.til = 10 + (T : Int)
  host : ∀ x ∈ L, x.host = strMine ∨ x.host = strOther
  mine : (⟨key, strMine, 10 + (T : Int)⟩ : Fl) ∈ L
  len : L.length ≤ n
theorem StayL.start (T key : Nat) : StayL T key 1 (putF [] ⟨key, strMine, 10 + (T : Int)⟩) := by
  have e : putF [] ⟨key, strMine, 10 + (T : Int)⟩ = [⟨key, strMine, 10 + (T : Int)⟩] := rfl
  rw [e]
  exact ⟨by simp, by simp, by simp, by simp⟩
theorem StayL.step {T key n o : Nat} {L : List Fl} (h : StayL T key n L) (hn : n < 200) (ho : o ≠ key) : StayL T key (n + 1) (putF L ⟨o, strOther, 10 + (T : Int)⟩) := by
  rw [putF_low (by have := h.len; omega)]
  refine ⟨fun x hx => ?_, fun x hx => ?_, ?_, ?_⟩
  · rcases mem_insF.1 hx with rfl | hx
    · rfl
    · exact h.til x (delF_mem hx)
  · rcases mem_insF.1 hx with rfl | hx
    · exact .inr rfl
    · exact h.host x (delF_mem hx)
  · refine mem_insF.2 (.inr (List.mem_filter.2 ⟨h.mine, by simpa using fun e => ho e.symm⟩))
  · rw [insF_length]
    have := List.length_filter_le (fun y => !decide (y.key = o)) L
    have := h.len
    show (List.filter (fun y => !decide (y.key = o)) L).length + 1 ≤ n + 1
    omega
theorem StayL.drop {T key n : Nat} {L : List Fl} (h : StayL T key n L) : (L.filter fun x => !decide (x.host = strWhat)) = L := by
  refine List.filter_eq_self.2 fun x hx => ?_
  rcases h.host x hx with e | e
  · rw [e]; decide
  · rw [e]; decide
theorem StayL.keep {T key n wait : Nat} {L : List Fl} (h : StayL T key n L) (hw : wait < T) : (L.filter fun x => !decide (x.til ≤ ((10 + wait : Nat) : Int))) = L := by
  refine List.filter_eq_self.2 fun x hx => ?_
  rw [h.til x hx]
  simp; omega
theorem StayL.gone {T key n wait : Nat} {L : List Fl} (h : StayL T key n L) (hw : T ≤ wait) : (L.filter fun x => !decide (x.til ≤ ((10 + wait : Nat) : Int))) = [] := by
  refine List.filter_eq_nil_iff.2 fun x hx => ?_
  rw [h.til x hx]
  simp; omega
theorem StayL.get {T key n wait : Nat} {L : List Fl} (h : StayL T key n L) (hr : Rise L) : getF L key ((10 + wait : Nat) : Int) = if wait < T then some strMine else none := by
  unfold getF
  have hf := findF_mem hr h.mine
  dsimp only at hf
  rw [hf]
  dsimp only
  by_cases hw : wait < T
  · rw [if_pos hw, if_neg (by omega)]
  · rw [if_neg hw, if_pos (by omega)]
theorem below_turn {bs : List Nat} {w W W' : World} (hb : Below w.heap.size w W) (ht : Turn bs W W') (h : ∀ b ∈ bs, w.heap.size ≤ b) : Below w.heap.size w W' := hb.trans (ht.below hb.size h)
set_option maxRecDepth 100000 in
set_option maxHeartbeats 1000000 in
theorem flowed_any (w : World) : Calls Tryd.prog 5 #[] w (True1 w) := by
  have HN := Lib.hid (newFlows_ok 5 w (by omega) (by omega))
  unfold NewFlows at HN
  have HP : Hid (∀ W fp mb, FlowsR W fp mb 5 0 [] → Calls Tryd.prog 7 #[.pointer (some ⟨fp, 0, none⟩), .int .u64 7, .string ⟨#[97]⟩, .int .i64 10] W (PutOk fp mb 5 10 [⟨7, strA, 15⟩] W)) := Lib.hid fun W fp mb h => by
    have := put_ok 7 strA 10 W h (by unfold U64; omega) (by decide) (by decide +kernel) (by omega) (by omega)
    exact this
  unfold PutOk at HP
  have HG1 : Hid (∀ W fp mb, FlowsR W fp mb 5 10 [⟨7, strA, 15⟩] → Calls Tryd.prog 9 #[.pointer (some ⟨fp, 0, none⟩), .int .u64 7, .int .i64 14] W fun e w' => e = .returned (.tuple #[.string ⟨#[97]⟩, .bool true, .nilIface]) ∧ FlowsR w' fp mb 5 14 [⟨7, strA, 15⟩] ∧ Turn [fp] W w') := Lib.hid fun W fp mb h => get_ok 7 14 W h (by unfold U64; omega) (by omega) (by omega)
  have HG2 : Hid (∀ W fp mb, FlowsR W fp mb 5 14 [⟨7, strA, 15⟩] → Calls Tryd.prog 9 #[.pointer (some ⟨fp, 0, none⟩), .int .u64 7, .int .i64 15] W fun e w' => e = .returned (.tuple #[.string ⟨#[]⟩, .bool false, .nilIface]) ∧ FlowsR w' fp mb 5 15 [⟨7, strA, 15⟩] ∧ Turn [fp] W w') := Lib.hid fun W fp mb h => get_ok 7 15 W h (by unfold U64; omega) (by omega) (by omega)
  have HL : Hid (∀ W fp mb, FlowsR W fp mb 5 15 [⟨7, strA, 15⟩] → Calls Tryd.prog 10 #[.pointer (some ⟨fp, 0, none⟩)] W fun e w' => ∃ A cap, e = .returned (.slice A 1 cap) ∧ Below W.heap.size W w') := Lib.hid fun W fp mb h => (list_any W h).mono fun e w' ⟨v, he, ho, hb⟩ => by
    obtain ⟨A, cap, rfl, _⟩ := own_slice ho
    exact ⟨A, cap, he, hb⟩
  go_enter Tryd.func5, Tryd.ntmps5
  go_wp2_with fail
  refine HN.out.mono ?_
  rintro e w1 ⟨fp, mb, rfl, hF1, hfp, hmb, hb1⟩
  have HP1 := Lib.hid (HP.out w1 fp mb hF1)
  clear hF1
  go_wp2_with fail
  refine HP1.out.mono ?_
  rintro e w2 ⟨rfl, hF2, ht2⟩
  have HG11 := Lib.hid (HG1.out w2 fp mb hF2)
  clear hF2
  go_wp2_with fail
  refine HG11.out.mono ?_
  rintro e w3 ⟨rfl, hF3, ht3⟩
  have HG21 := Lib.hid (HG2.out w3 fp mb hF3)
  clear hF3
  go_wp2_with fail
  refine HG21.out.mono ?_
  rintro e w4 ⟨rfl, hF4, ht4⟩
  have HL1 := Lib.hid (HL.out w4 fp mb hF4)
  clear hF4
  have HT := Lib.hid ((((Turn.of_below hb1).trans ht2 (by simp; omega) : Turn [] w w2).trans ht3 (by simp; omega) : Turn [] w w3).trans ht4 (by simp; omega) : Turn [] w w4)
  clear ht2 ht3 ht4
  go_wp2_with fail
  refine HL1.out.mono ?_
  rintro e w5 ⟨A, cap, rfl, hb5⟩
  go_wp2
  go_ret
  exact ⟨rfl, (HT.out.thenB hb5).below (Nat.le_refl _) (by simp)⟩
theorem stay_ways (t n : Nat) (T wait : Int) (h : T < 1 ∨ 1000 < T ∨ 100 < n ∨ wait < 0 ∨ 2000 < wait) : t = t ∧ (decide (T < 1) = true ∨ (decide (T < 1) = false ∧ decide (T > 1000) = true) ∨ (decide (T < 1) = false ∧ decide (T > 1000) = false ∧ decide ((n : Int) > 100) = true) ∨ (decide (T < 1) = false ∧ decide (T > 1000) = false ∧ decide ((n : Int) > 100) = false ∧ decide (wait < 0) = true) ∨ (decide (T < 1) = false ∧ decide (T > 1000) = false ∧ decide ((n : Int) > 100) = false ∧ decide (wait < 0) = false ∧ decide (wait > 2000) = true)) := by
  refine ⟨rfl, ?_⟩
  simp only [decide_eq_true_eq, decide_eq_false_iff_not]; omega
set_option maxRecDepth 100000 in
set_option maxHeartbeats 2000000 in
theorem stay_skip (A : Option Addr) (c n k : Nat) (T wait : Int) (w : World) (h : T < 1 ∨ 1000 < T ∨ 100 < n ∨ wait < 0 ∨ 2000 < wait) :
    Calls Tryd.prog 3 #[.int .i64 T, .int .u64 (k : Int), .slice A n c, .int .i64 wait] w (True1 w) := by
  have HW := Lib.hid (flowed_any w)
  have hw := (stay_ways 0 n T wait h).2
  clear h
  rcases hw with t1 | ⟨t1, t2⟩ | ⟨t1, t2, t3⟩ | ⟨t1, t2, t3, t4⟩ | ⟨t1, t2, t3, t4, t5⟩
  all_goals
    go_enter Tryd.func3, Tryd.ntmps3
    go_wp2_with fail
    refine HW.out.mono ?_
    rintro e w1 ⟨rfl, hb1⟩
    go_wp2
    go_ret
    exact ⟨rfl, hb1⟩
set_option maxRecDepth 100000 in
set_option maxHeartbeats 4000000 in
theorem stay_walk (A : Option Addr) (c key T wait : Nat) (ks : List Nat) (w : World) (hr : Reads w w.heap.size 1 A ks.length (keysV ks)) (hU : U64 key) (hus : ∀ k ∈ ks, U64 k) (h1 : 1 ≤ T) (h2 : T ≤ 1000) (h3 : ks.length ≤ 100) (h5 : wait ≤ 2000) :
    Calls Tryd.prog 3 #[.int .i64 (T : Int), .int .u64 (key : Int), .slice A ks.length c, .int .i64 (wait : Int)] w (True1 w) := by
  have HW := Lib.hid (flowed_any w)
  have HN := Lib.hid (fun W => newFlows_ok T W h1 h2)
  unfold NewFlows at HN
  have HPm : Hid (∀ W fp mb, FlowsR W fp mb T 0 [] → Calls Tryd.prog 7 #[.pointer (some ⟨fp, 0, none⟩), .int .u64 (key : Int), .string ⟨#[109, 105, 110, 101]⟩, .int .i64 10] W (PutOk fp mb T 10 (putF [] ⟨key, strMine, 10 + (T : Int)⟩) W)) := Lib.hid fun W fp mb h => put_ok key strMine 10 W h hU (by decide) (by decide +kernel) (by omega) (by omega)
  have HPo : Hid (∀ W fp mb L o, FlowsR W fp mb T 10 L → U64 o → Calls Tryd.prog 7 #[.pointer (some ⟨fp, 0, none⟩), .int .u64 (o : Int), .string ⟨#[111, 116, 104, 101, 114]⟩, .int .i64 10] W (PutOk fp mb T 10 (putF L ⟨o, strOther, 10 + (T : Int)⟩) W)) := Lib.hid fun W fp mb L o h hu => put_ok o strOther 10 W h hu (by decide) (by decide +kernel) (by omega) (by omega)
  unfold PutOk at HPm HPo
  have HDr : Hid (∀ W fp mb L n, FlowsR W fp mb T 10 L → StayL T key n L → Calls Tryd.prog 8 #[.pointer (some ⟨fp, 0, none⟩), .string ⟨#[119, 104, 97, 116]⟩] W fun e w' => e = .returned (.int .i64 ((L.length - L.length : Nat) : Int)) ∧ FlowsR w' fp mb T 10 L ∧ Turn [mb] W w') := Lib.hid fun W fp mb L n h hs => (drop_any strWhat W h).mono fun e w' hp => by
    unfold DropPost at hp
    rwa [hs.drop] at hp
  have HKA : Hid (∀ i (h : i < ks.length), ∃ ad, A = some ad ∧ KeyAt2 ad i ks[i] w ∧ U64 ks[i]) := Lib.hid fun i h => by
    obtain ⟨ad, ha, hk⟩ := keyAt2_of hr h
    exact ⟨ad, ha, hk, hus _ (List.getElem_mem h)⟩
  have HLi : Hid (∀ W fp mb last L, FlowsR W fp mb T last L → Calls Tryd.prog 10 #[.pointer (some ⟨fp, 0, none⟩)] W (FlsPost L W)) := Lib.hid fun W fp mb last L h => list_any W h
  unfold FlsPost at HLi
  have HS0 := Lib.hid (StayL.start T key)
  have hin : IntKind.i64.wrap ((10 : Int) + (wait : Int)) = 10 + (wait : Int) := IntWalk.i64_in _ (by omega)
  have t1 : decide ((T : Int) < 1) = false := by simp; omega
  have t2 : decide ((T : Int) > 1000) = false := by simp; omega
  have t3 : decide ((ks.length : Int) > 100) = false := by simp; omega
  have t4 : decide ((wait : Int) < 0) = false := by simp
  have t5 : decide ((wait : Int) > 2000) = false := by simp; omega
  clear hr hus
  go_enter Tryd.func3, Tryd.ntmps3
  go_wp2_with fail
  refine HW.out.mono ?_
  rintro e w1 ⟨rfl, hb1⟩
  go_wp2_with fail
  refine (HN.out w1).mono ?_
  rintro e w2 ⟨fp, mb, rfl, hF2, hfp, hmb, hb2⟩
  have hfp2 : w.heap.size ≤ fp := Nat.le_trans hb1.size hfp
  have hmb2 : w.heap.size ≤ mb := Nat.le_trans hb1.size hmb
  have HB3 : Hid (∀ b ∈ [fp, mb], w.heap.size ≤ b) := Lib.hid (by simp; exact ⟨hfp2, hmb2⟩)
  have hb12 := below_two hb1 hb2
  have HP2 := Lib.hid (HPm.out w2 fp mb hF2)
  clear hF2 hfp hmb
  go_wp2_with fail
  refine HP2.out.mono ?_
  rintro e w3 ⟨rfl, hF3, ht3⟩
  have hb3 := below_turn hb12 ht3 HB3.out
  have HF3 := Lib.hid hF3
  clear hF3 ht3
  go_upto_block 0 with fail
  go_cut [] (fun wx => ∃ L, Hid (StayL T key 101 L) ∧ Hid (FlowsR wx fp mb T 10 L) ∧ Below w.heap.size w wx)
  case first =>
    go_wp2_with fail
    go_loopg [12] ks.length (fun g iv wr => ∃ (i : Nat) (L : List Fl), g + i = ks.length ∧ iv = .int .i64 (i : Int) ∧ Hid (StayL T key (i + 1) L) ∧ Hid (FlowsR wr fp mb T 10 L) ∧ Below w.heap.size w wr)
    case atStart => exact ⟨0, _, by omega, rfl, HS0, HF3, hb3⟩
    case round =>
      obtain ⟨i, L, hgi, rfl, hS, hF, hb⟩ := hrel
      by_cases hlt : i < ks.length
      · have hlt2 : (i : Int) < ks.length := by omega
        obtain ⟨ad, rfl, hck, hu⟩ := HKA.out i hlt
        have ck := hck wr hb
        generalize ks[i] = o at *
        clear hck
        by_cases ho : o = key
        · subst ho
          go_wp2_with fail
          go_roundg (ks.length - (i + 1))
          case rel => exact ⟨i + 1, L, by omega, by go_num, Lib.hid ⟨hS.out.til, hS.out.host, hS.out.mine, by have := hS.out.len; omega⟩, hF, hb⟩
          case measure => omega
        · have hone : ((o : Int) != (key : Int)) = true := by simp; omega
          have hone2 : ((o : Int) == (key : Int)) = false := by simp; omega
          have HP3 := Lib.hid (HPo.out wr fp mb L o hF.out hu)
          have HS2 := Lib.hid (hS.out.step (by omega) ho)
          clear ho hS hF
          go_wp2_with fail
          refine HP3.out.mono ?_
          rintro e w4 ⟨rfl, hF4, ht4⟩
          have hb4 := below_turn hb ht4 HB3.out
          have HF4 := Lib.hid hF4
          clear hF4 ht4
          go_wp2_with fail
          go_roundg (ks.length - (i + 1))
          case rel => exact ⟨i + 1, _, by omega, by go_num, HS2, HF4, hb4⟩
          case measure => omega
      · obtain rfl : i = ks.length := by omega
        have hge : ¬ (ks.length : Int) < ks.length := by omega
        go_wp2_with fail
        go_meet
        exact ⟨L, Lib.hid ⟨hS.out.til, hS.out.host, hS.out.mine, by have := hS.out.len; omega⟩, hF, hb⟩
  case rest =>
  obtain ⟨L, hS, hF, hb⟩ := hcut
  have HD1 := Lib.hid (HDr.out wc fp mb L 101 hF.out hS.out)
  have hL0 : 0 < L.length := by
    have := hS.out.mine
    rcases Nat.eq_zero_or_pos L.length with h | h
    · rw [List.eq_nil_of_length_eq_zero h] at this; cases this
    · exact h
  have hL1 : L.length ≤ 101 := hS.out.len
  have HG : Hid (∀ W, FlowsR W fp mb T 10 L → Calls Tryd.prog 9 #[.pointer (some ⟨fp, 0, none⟩), .int .u64 (key : Int), .int .i64 (10 + (wait : Int))] W fun e w' => e = .returned (gotV (if wait < T then some strMine else none)) ∧ FlowsR w' fp mb T (10 + wait) L ∧ Turn [fp] W w') := Lib.hid fun W h => by
    have h6 := get_ok key (10 + wait) W h hU (by omega) (by omega)
    unfold GetOk at h6
    rw [hS.out.get h.map.rise, show (((10 + wait : Nat)) : Int) = 10 + (wait : Int) by omega] at h6
    exact h6
  have HE : Hid (∀ W, FlowsR W fp mb T (10 + wait) L → Calls Tryd.prog 11 #[.pointer (some ⟨fp, 0, none⟩), .int .i64 (10 + (wait : Int))] W (ExpPost fp mb T (10 + wait) L W)) := Lib.hid fun W h => by
    have h6 := expire_ok (10 + wait) W h (Nat.le_refl _) (by omega)
    rwa [show (((10 + wait : Nat)) : Int) = 10 + (wait : Int) by omega] at h6
  clear HDr HPo HPm
  by_cases hw : wait < T
  · rw [if_pos hw] at HG
    have HE : Hid (∀ W, FlowsR W fp mb T (10 + wait) L → Calls Tryd.prog 11 #[.pointer (some ⟨fp, 0, none⟩), .int .i64 (10 + (wait : Int))] W fun e w' => e = .returned (.tuple #[.int .i64 0, .nilIface]) ∧ FlowsR w' fp mb T (10 + wait) L ∧ Turn [fp, mb] W w') := Lib.hid fun W h => by
      have h6 := HE.out W h
      unfold ExpPost at h6
      rw [hS.out.keep hw, Nat.sub_self] at h6
      exact h6
    have t6 : decide (wait < T) = true := by simpa using hw
    dsimp only [gotV, strMine] at HG
    go_wp2_with fail
    refine HD1.out.mono ?_
    rintro e w5 ⟨rfl, hF5, ht5⟩
    have hb5 := below_turn hb ht5 (by simp; exact hmb2)
    have HG5 := Lib.hid (HG.out w5 hF5)
    clear hF5 ht5
    go_wp2_with fail
    refine HG5.out.mono ?_
    rintro e w6 ⟨rfl, hF6, ht6⟩
    have hb6 := below_turn hb5 ht6 (by simp; exact hfp2)
    have HL6 := Lib.hid (HLi.out w6 fp mb _ L hF6)
    have HF6 := Lib.hid hF6
    clear hF6 ht6
    go_wp2_with fail
    refine HL6.out.mono ?_
    rintro e w7 ⟨v, rfl, ho7, hb7⟩
    obtain ⟨g, cap, hv, _, _⟩ := ho7.form hL0
    subst hv
    have hb67 := below_two hb6 hb7
    have HO := Lib.hid (fun k (hk : k < L.length) => cells3_of ho7 hk)
    have HF7 := Lib.hid (HF6.out.below hb7)
    have HRi := Lib.hid (fun j (hj : j + 1 < L.length) => (List.pairwise_iff_getElem.1 HF7.out.map.rise j (j + 1) (by omega) hj (by omega)))
    clear ho7
    go_wp2_with fail
    go_loopg [16] L.length (fun g iv W => ∃ j q : Nat, g + j = L.length ∧ j < L.length ∧ iv = .int .i64 ((j + 1 : Nat) : Int) ∧ W = w7.drewN q)
    case atStart => exact ⟨0, 0, by omega, hL0, rfl, rfl⟩
    case round =>
      obtain ⟨j, q, hgj, hjl, rfl, rfl⟩ := hrel
      by_cases hlt : j + 1 < L.length
      · have hlt2 : ((j + 1 : Nat) : Int) < L.length := by omega
        have hj2 : (j : Int) < L.length := by omega
        obtain ⟨a0, _, _⟩ := HO.out (j + 1) hlt
        obtain ⟨b0, _, _⟩ := HO.out j (by omega)
        have hk := HRi.out j hlt
        have hd : decide (L[j + 1].key ≤ L[j].key) = false := by simp; omega
        have hsb : IntKind.i64.wrap (((j + 1 : Nat) : Int) - 1) = (j : Int) := by rw [IntWalk.i64_in _ (by omega)]; omega
        clear hk
        generalize L[j + 1].key = kx at *
        generalize L[j].key = ky at *
        go_wp2_with fail
        go_quiet (fail)
        go_wp2_with fail
        go_roundg (L.length - (j + 1))
        case rel => exact ⟨j + 1, _, by omega, by omega, by go_num, rfl⟩
        case measure => omega
      · have hge : ¬ ((j + 1 : Nat) : Int) < L.length := by omega
        have HE7 := Lib.hid (HE.out (w7.drewN q) (HF7.out.below (below_drewN (Below.refl _ _) q)))
        have hb7q := below_drewN hb67 q
        go_wp2_with fail
        refine HE7.out.mono ?_
        rintro e w8 ⟨rfl, hF8, ht8⟩
        have hb8 := below_turn hb7q ht8 HB3.out
        have HL8 := Lib.hid (HLi.out w8 fp mb _ _ hF8)
        clear hF8 ht8
        go_wp2_with fail
        refine HL8.out.mono ?_
        rintro e w9 ⟨v, rfl, ho9, hb9⟩
        obtain ⟨A9, c9, hv, _⟩ := own_slice ho9
        subst hv
        have hb89 := below_two hb8 hb9
        clear ho9
        go_wp2
        go_ret
        exact ⟨rfl, hb89⟩
  · rw [if_neg hw] at HG
    have HE : Hid (∀ W, FlowsR W fp mb T (10 + wait) L → Calls Tryd.prog 11 #[.pointer (some ⟨fp, 0, none⟩), .int .i64 (10 + (wait : Int))] W fun e w' => e = .returned (.tuple #[.int .i64 (L.length : Int), .nilIface]) ∧ FlowsR w' fp mb T (10 + wait) [] ∧ Turn [fp, mb] W w') := Lib.hid fun W h => by
      have h6 := HE.out W h
      unfold ExpPost at h6
      rw [hS.out.gone (by omega)] at h6
      exact h6
    have t6 : decide (wait < T) = false := by simpa using hw
    dsimp only [gotV] at HG
    go_wp2_with fail
    refine HD1.out.mono ?_
    rintro e w5 ⟨rfl, hF5, ht5⟩
    have hb5 := below_turn hb ht5 (by simp; exact hmb2)
    have HG5 := Lib.hid (HG.out w5 hF5)
    clear hF5 ht5
    go_wp2_with fail
    refine HG5.out.mono ?_
    rintro e w6 ⟨rfl, hF6, ht6⟩
    have hb6 := below_turn hb5 ht6 (by simp; exact hfp2)
    have HL6 := Lib.hid (HLi.out w6 fp mb _ L hF6)
    have HF6 := Lib.hid hF6
    clear hF6 ht6
    go_wp2_with fail
    refine HL6.out.mono ?_
    rintro e w7 ⟨v, rfl, ho7, hb7⟩
    obtain ⟨g, cap, hv, _, _⟩ := ho7.form hL0
    subst hv
    have hb67 := below_two hb6 hb7
    have HO := Lib.hid (fun k (hk : k < L.length) => cells3_of ho7 hk)
    have HF7 := Lib.hid (HF6.out.below hb7)
    have HRi := Lib.hid (fun j (hj : j + 1 < L.length) => (List.pairwise_iff_getElem.1 HF7.out.map.rise j (j + 1) (by omega) hj (by omega)))
    clear ho7
    go_wp2_with fail
    go_loopg [16] L.length (fun g iv W => ∃ j q : Nat, g + j = L.length ∧ j < L.length ∧ iv = .int .i64 ((j + 1 : Nat) : Int) ∧ W = w7.drewN q)
    case atStart => exact ⟨0, 0, by omega, hL0, rfl, rfl⟩
    case round =>
      obtain ⟨j, q, hgj, hjl, rfl, rfl⟩ := hrel
      by_cases hlt : j + 1 < L.length
      · have hlt2 : ((j + 1 : Nat) : Int) < L.length := by omega
        have hj2 : (j : Int) < L.length := by omega
        obtain ⟨a0, _, _⟩ := HO.out (j + 1) hlt
        obtain ⟨b0, _, _⟩ := HO.out j (by omega)
        have hk := HRi.out j hlt
        have hd : decide (L[j + 1].key ≤ L[j].key) = false := by simp; omega
        have hsb : IntKind.i64.wrap (((j + 1 : Nat) : Int) - 1) = (j : Int) := by rw [IntWalk.i64_in _ (by omega)]; omega
        clear hk
        generalize L[j + 1].key = kx at *
        generalize L[j].key = ky at *
        go_wp2_with fail
        go_quiet (fail)
        go_wp2_with fail
        go_roundg (L.length - (j + 1))
        case rel => exact ⟨j + 1, _, by omega, by omega, by go_num, rfl⟩
        case measure => omega
      · have hge : ¬ ((j + 1 : Nat) : Int) < L.length := by omega
        have HE7 := Lib.hid (HE.out (w7.drewN q) (HF7.out.below (below_drewN (Below.refl _ _) q)))
        have hb7q := below_drewN hb67 q
        go_wp2_with fail
        refine HE7.out.mono ?_
        rintro e w8 ⟨rfl, hF8, ht8⟩
        have hb8 := below_turn hb7q ht8 HB3.out
        have HL8 := Lib.hid (HLi.out w8 fp mb _ _ hF8)
        clear hF8 ht8
        go_wp2_with fail
        refine HL8.out.mono ?_
        rintro e w9 ⟨v, rfl, ho9, hb9⟩
        obtain ⟨A9, c9, hv, _⟩ := own_slice ho9
        subst hv
        have hb89 := below_two hb8 hb9
        clear ho9
        go_wp2
        go_ret
        exact ⟨rfl, hb89⟩
theorem flowsStay_args (T key wait : Int) (A : Option Addr) (c k : Nat) (l : List Int) (w : World) (hk : key = (k : Int)) (hU : U64 k) (R2 : Reads w w.heap.size 1 A l.length (l.map (Value.int .u64))) (wf2 : ∀ n ∈ l, (Lit.int .u64 n).wf = true) :
    Calls Tryd.prog 3 #[.int .i64 T, .int .u64 key, .slice A l.length c, .int .i64 wait] w (True1 w) := by
  subst hk
  obtain ⟨ks, he, hr, hu⟩ := keys_arg R2 wf2
  rw [he]
  by_cases h : T < 1 ∨ 1000 < T ∨ 100 < ks.length ∨ wait < 0 ∨ 2000 < wait
  · exact stay_skip A c ks.length k T wait w h
  · obtain ⟨t, rfl⟩ := Int.eq_ofNat_of_zero_le (by omega : 0 ≤ T)
    obtain ⟨v, rfl⟩ := Int.eq_ofNat_of_zero_le (by omega : 0 ≤ wait)
    exact stay_walk A c k t v ks w hr hU hu (by omega) (by omega) (by omega) (by omega)
end Go.Proofs.YtlgnhifjakkodaaDoor
