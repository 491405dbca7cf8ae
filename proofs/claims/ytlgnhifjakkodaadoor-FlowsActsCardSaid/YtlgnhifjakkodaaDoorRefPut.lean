/-
  The walk of the reference's Put.
-/
import Derived.Test.YtlgnhifjakkodaaDoorRefFlowPlain
import Derived.Test.YtlgnhifjakkodaaDoorRefHosts
import Derived.BigQuiet
namespace Go.Proofs.YtlgnhifjakkodaaDoor
open Go.RowKit

def RefErr (c : Nat) (w : World) (e : Ending) (w' : World) : Prop := e = .returned (.int .i64 (c : Int)) ∧ w = w'
theorem ref_name (s : ByteArray) (b : Bool) (w : World) (hs : s.size ≤ maxLen) (hn : isName s = b) : Calls Tryd.prog 35 #[.string s] w fun e w' => e = .returned (.bool b) ∧ w = w' := by
  subst hn
  exact isName_any s w hs
set_option maxHeartbeats 2000000 in
theorem ref_put_tick {B mp time last : Nat} {L : List Fl} {sv : Value} (k : Nat) (s : ByteArray) (now : Int) (w : World) (h : RFs w B mp time last L sv) (ht : tickE last now ≠ 0) :
    Calls Tryd.prog 14 #[.pointer (some ⟨mp, 0, none⟩), .int .u64 (k : Int), .string s, .int .i64 now] w (RefErr (tickE last now) w) := by
  have HT := Lib.hid (ref_tick now w h)
  generalize tickE last now = te at *
  have q1 : 0 < te := by omega
  clear h ht
  go_enter Tryd.func14, Tryd.ntmps14
  go_wp2_with fail
  refine HT.out.mono ?_
  rintro e w1 ⟨rfl, rfl⟩
  go_wp2
  go_ret
  exact ⟨rfl, rfl⟩
set_option maxHeartbeats 2000000 in
theorem ref_put_name {B mp time last : Nat} {L : List Fl} {sv : Value} (k : Nat) (s : ByteArray) (now : Int) (w : World) (h : RFs w B mp time last L sv) (ht : tickE last now = 0) (hs : s.size ≤ maxLen) (hn : isName s = false) :
    Calls Tryd.prog 14 #[.pointer (some ⟨mp, 0, none⟩), .int .u64 (k : Int), .string s, .int .i64 now] w (RefErr 4 w) := by
  have HT := Lib.hid (ref_tick now w h)
  have HN := Lib.hid (ref_name s _ w hs hn)
  rw [ht] at HT
  clear h ht hs hn
  go_enter Tryd.func14, Tryd.ntmps14
  go_wp2_with fail
  refine HT.out.mono ?_
  rintro e w1 ⟨rfl, rfl⟩
  go_wp2_with fail
  refine HN.out.mono ?_
  rintro e w2 ⟨rfl, rfl⟩
  go_wp2
  go_ret
  exact ⟨rfl, rfl⟩
theorem least_step {L : List Fl} {l i : Nat} (h1 : 1 ≤ i) (hi : i < L.length) (hl : l < L.length) (h : L[l] = minL (L.take i)) : (L[i].til < L[l].til → L[i] = minL (L.take (i + 1))) ∧ (¬ L[i].til < L[l].til → L[l] = minL (L.take (i + 1))) := by
  rw [minL_succ h1 hi, ← h]
  exact ⟨fun h => by rw [if_pos h], fun h => by rw [if_neg h]⟩
def RefPutOk (B mp time now : Nat) (L' : List Fl) (w : World) (e : Ending) (w' : World) : Prop := e = .returned (.int .i64 0) ∧ ∃ sv', RFs w' B mp time now L' sv' ∧ Turn [mp] w w'
set_option maxRecDepth 100000 in
set_option maxHeartbeats 4000000 in
theorem ref_put_ok {B mp time last : Nat} {L : List Fl} {sv : Value} (k : Nat) (s : ByteArray) (now : Nat) (w : World) (h : RFs w B mp time last L sv) (hr : Rise L) (hB : B ≤ w.heap.size) (hs : s.size ≤ maxLen) (hn : isName s = true) (h1 : last ≤ now) (h2 : now ≤ 1099511627776) (htm : time ≤ 1099511627776) :
    Calls Tryd.prog 14 #[.pointer (some ⟨mp, 0, none⟩), .int .u64 (k : Int), .string s, .int .i64 (now : Int)] w (RefPutOk B mp time now (putF L ⟨k, s, (now : Int) + time⟩) w) := by
  have HT := Lib.hid (ref_tick (now : Int) w h)
  have ht0 : tickE last (now : Int) = 0 := by unfold tickE; rw [if_neg (by omega), if_neg (by omega)]
  rw [ht0] at HT
  have HN := Lib.hid (ref_name s _ w hs hn)
  have c1 : w.cell? ⟨mp, 1, none⟩ = some (.int .i64 (last : Int)) := h.blk.cell 1
  have f1 := h.blk.frozen 1
  obtain ⟨hF2, hT2⟩ := h.tick now
  have HF2 := Lib.hid hF2
  have HT2 := Lib.hid hT2
  have HFD := Lib.hid (ref_find k _ hF2)
  have HSZ : Hid (∀ W, Turn [mp] w W → B ≤ W.heap.size) := Lib.hid fun W hW => Nat.le_trans hB hW.size
  have HC0 : Hid (∀ W L' sv', RFs W B mp time now L' sv' → W.cell? ⟨mp, 0, none⟩ = some (.int .i64 (time : Int))) := Lib.hid fun W L' sv' h => h.blk.cell 0
  have hin : IntKind.i64.wrap ((now : Int) + (time : Int)) = (now : Int) + time := IntWalk.i64_in _ (by omega)
  have HL : Hid (∀ W sv' L2, RFs W B mp time now L2 sv' → Turn [mp] w W → L2 = delF k (roomF L k) → L2.length < 200 → Calls Tryd.prog 38 #[.pointer (some ⟨mp, 0, none⟩), .agg #[.int .u64 (k : Int), .string s, .int .i64 ((now : Int) + time)]] W fun e w' => e = .returned (.tuple #[]) ∧ ∃ sv2, RFs w' B mp time now (putF L ⟨k, s, (now : Int) + time⟩) sv2 ∧ Turn [mp] w w') := Lib.hid fun W sv' L2 hR hT e hl =>
    (ref_lay ⟨k, s, (now : Int) + time⟩ W hR (HSZ.out W hT) hl (fun y hy => by rw [e] at hy; exact delF_key hy)).mono fun e' w' ⟨he, sv2, h3, h4⟩ => ⟨he, sv2, by rw [e] at h3; exact h3, hT.then h4⟩
  have HD : Hid (∀ W sv' j, RFs W B mp time now L sv' → Turn [mp] w W → j < L.length → Calls Tryd.prog 37 #[.pointer (some ⟨mp, 0, none⟩), .int .i64 (j : Int)] W fun e w' => e = .returned (.tuple #[]) ∧ ∃ sv2, RFs w' B mp time now (L.eraseIdx j) sv2 ∧ Turn [mp] w w') := Lib.hid fun W sv' j hR hT hj =>
    (ref_drop W hR (HSZ.out W hT) hj).mono fun e' w' ⟨he, sv2, h3, h4⟩ => ⟨he, sv2, h3, hT.then h4⟩
  have hlen := h.len
  obtain ⟨A, cap, hsv, _, hcap⟩ := h.form
  have hcase := posF_cases (L := L) k
  have HM1 : Hid (0 < L.length → minL (L.take 1) = (L[0]?).getD flZ) := Lib.hid fun h0 => by rw [minL_one h0, List.getElem?_eq_getElem h0]; rfl
  have HR := Lib.hid hr
  generalize posF L k = pk at *
  clear h hF2 hT2 hB hs hn h1 ht0 hr
  go_enter Tryd.func14, Tryd.ntmps14
  go_wp2_with fail
  refine HT.out.mono ?_
  rintro e w1 ⟨rfl, rfl⟩
  go_wp2_with fail
  refine HN.out.mono ?_
  rintro e w2 ⟨rfl, rfl⟩
  go_wp2_with fail
  generalize w.setCell ⟨mp, 1, none⟩ (.int .i64 (now : Int)) = W0 at *
  refine HFD.out.mono ?_
  rintro e w3 ⟨rfl, rfl⟩
  clear c1 f1 HFD HN HT
  rcases hcase with ⟨i, hi, rfl, hik⟩ | ⟨rfl, hf⟩
  · have q1 : decide ((i : Int) ≥ 0) = true := by simp
    obtain ⟨e1, e2⟩ := room_hit HR.out hi hik
    have HE := Lib.hid e1
    have HE2 : Hid ((L.eraseIdx i).length < 200) := Lib.hid (by rw [e2]; omega)
    have HD2 := Lib.hid (HD.out W0 _ i HF2.out HT2.out hi)
    clear e1 e2 hik
    go_wp2_with fail
    refine HD2.out.mono ?_
    rintro e w4 ⟨rfl, sv2, hF4, hT4⟩
    have c0 := HC0.out _ _ _ hF4
    have HL2 := Lib.hid (HL.out _ _ _ hF4 hT4 HE.out HE2.out)
    clear hF4 hT4
    go_wp2_with fail
    refine HL2.out.mono ?_
    rintro e w5 ⟨rfl, sv3, hF5, hT5⟩
    go_wp2
    go_ret
    exact ⟨rfl, sv3, hF5, hT5⟩
  · have c2 : W0.cell? ⟨mp, 2, none⟩ = some sv := HF2.out.blk.cell 2
    subst hsv
    by_cases hfull : 200 ≤ L.length
    · obtain ⟨g, cap', hv, _, _⟩ := HF2.out.row.form (by omega)
      injection hv with hA
      subst hA
      have HCL := Lib.hid (fun j (hj : j < L.length) => cells3_of HF2.out.row hj)
      have HFU := Lib.hid (fun l (hl : l < L.length) hm => room_full HR.out hf (by omega) hl hm)
      have H1 : Hid (L[0]'(by omega) = minL (L.take 1)) := Lib.hid (minL_one (by omega)).symm
      have HLS := Lib.hid (fun l i h1 hi hl h => least_step (L := L) (l := l) (i := i) h1 hi hl h)
      clear hf HM1
      go_wp2_with fail
      go_loopw [12, 13] (fun lv iv wi => ∃ l i m : Nat, 1 ≤ i ∧ i ≤ L.length ∧ l < L.length ∧ lv = .int .i64 (l : Int) ∧ iv = .int .i64 (i : Int) ∧ wi = W0.drewN m ∧ Hid (∃ hl : l < L.length, L[l] = minL (L.take i))) (fun _ iv _ => L.length - (intOf iv).toNat)
      case atStart => exact ⟨0, 1, 0, Nat.le_refl _, by omega, by omega, rfl, rfl, rfl, Lib.hid ⟨by omega, H1.out⟩⟩
      case round =>
        obtain ⟨l, i, m, hi1, hi, hl, rfl, rfl, rfl, hmin⟩ := hrel
        by_cases hil : i < L.length
        · have hil2 : (i : Int) < L.length := by omega
          have hl2 : (l : Int) < L.length := by omega
          obtain ⟨_, _, y2⟩ := HCL.out i hil
          obtain ⟨_, _, z2⟩ := HCL.out l hl
          by_cases hlt : L[i].til < L[l].til
          · have d1 : decide (L[i].til < L[l].til) = true := by simpa using hlt
            have HA : Hid (∃ hl : i < L.length, L[i] = minL (L.take (i + 1))) := Lib.hid ⟨hil, (HLS.out l i hi1 hil hl hmin.out.2).1 hlt⟩
            clear hmin hlt
            generalize L[i].til = y at *
            generalize L[l].til = z at *
            go_wp2_with fail
            go_quiet (fail)
            go_wp2_with fail
            go_roundw
            case rel => exact ⟨i, i + 1, _, by omega, by omega, hil, rfl, by go_num, rfl, HA⟩
            case measure => simp [intOf]; omega
          · have d1 : decide (L[i].til < L[l].til) = false := by simpa using hlt
            have HA : Hid (∃ hl : l < L.length, L[l] = minL (L.take (i + 1))) := Lib.hid ⟨hl, (HLS.out l i hi1 hil hl hmin.out.2).2 (by omega)⟩
            clear hmin hlt
            generalize L[i].til = y at *
            generalize L[l].til = z at *
            go_wp2_with fail
            go_quiet (fail)
            go_wp2_with fail
            go_roundw
            case rel => exact ⟨l, i + 1, _, by omega, by omega, hl, rfl, by go_num, rfl, HA⟩
            case measure => simp [intOf]; omega
        · obtain rfl : i = L.length := by omega
          have hge : ¬ (L.length : Int) < L.length := by omega
          obtain ⟨_, hm⟩ := hmin.out
          rw [List.take_length] at hm
          obtain ⟨e1, e2⟩ := HFU.out l hl hm
          have HE := Lib.hid e1
          have HE2 : Hid ((L.eraseIdx l).length < 200) := Lib.hid (by rw [e2]; omega)
          have HD2 := Lib.hid (HD.out (W0.drewN m) _ l (HF2.out.turn ((Turn.refl [] _).drewN m) (by simp) (by simp)) (HT2.out.drewN m) hl)
          clear e1 e2 hm hmin
          go_wp2_with fail
          refine HD2.out.mono ?_
          rintro e w4 ⟨rfl, sv2, hF4, hT4⟩
          have c0 := HC0.out _ _ _ hF4
          have HL2 := Lib.hid (HL.out _ _ _ hF4 hT4 HE.out HE2.out)
          clear hF4 hT4
          go_wp2_with fail
          refine HL2.out.mono ?_
          rintro e w5 ⟨rfl, sv3, hF5, hT5⟩
          go_wp2
          go_ret
          exact ⟨rfl, sv3, hF5, hT5⟩
    · have c0 := HC0.out _ _ _ HF2.out
      have HL2 := Lib.hid (HL.out _ _ _ HF2.out HT2.out (room_free hf (by omega)) (by omega))
      clear hf
      go_wp2_with fail
      refine HL2.out.mono ?_
      rintro e w5 ⟨rfl, sv3, hF5, hT5⟩
      go_wp2
      go_ret
      exact ⟨rfl, sv3, hF5, hT5⟩
end Go.Proofs.YtlgnhifjakkodaaDoor
