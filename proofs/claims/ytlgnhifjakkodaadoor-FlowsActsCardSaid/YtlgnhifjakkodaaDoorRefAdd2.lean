/-
  The walk of the reference's Add where every host has a name.
-/
import Derived.Test.YtlgnhifjakkodaaDoorRefAdd
namespace Go.Proofs.YtlgnhifjakkodaaDoor
open Go.RowKit

def RefAdded (B mp time now : Nat) (L xs : List Fl) (w : World) (e : Ending) (w' : World) : Prop := e = .returned (.tuple #[.int .i64 (((addF now L xs).length - L.length : Nat) : Int), .agg #[.int .i64 0, .int .i64 (-1)]]) ∧ ∃ sv', RFs w' B mp time now (addF now L xs) sv' ∧ Turn [mp] w w'
theorem add_way {now : Nat} {L1 : List Fl} {x : Fl} :
    ((∃ j : Nat, posF L1 x.key = (j : Int)) ∧ add1 now L1 x = L1) ∨
    (posF L1 x.key = -1 ∧ decide (x.til ≤ (now : Int)) = true ∧ add1 now L1 x = L1) ∨
    (posF L1 x.key = -1 ∧ decide (x.til ≤ (now : Int)) = false ∧ decide (x.til - (now : Int) > 1000) = true ∧ add1 now L1 x = L1) ∨
    (posF L1 x.key = -1 ∧ decide (x.til ≤ (now : Int)) = false ∧ decide (x.til - (now : Int) > 1000) = false ∧ 200 ≤ L1.length ∧ add1 now L1 x = L1) ∨
    (posF L1 x.key = -1 ∧ decide (x.til ≤ (now : Int)) = false ∧ decide (x.til - (now : Int) > 1000) = false ∧ ¬ 200 ≤ L1.length ∧ findF L1 x.key = none ∧ add1 now L1 x = insF x L1) := by
  have hno : ¬ addOk now L1 x = true → add1 now L1 x = L1 := fun h => by unfold add1; rw [if_neg h]
  rcases posF_cases (L := L1) x.key with ⟨i, hi, h1, h2⟩ | ⟨h1, h2⟩
  · refine .inl ⟨⟨i, h1⟩, hno fun h => ?_⟩
    exact findF_none (addOk_parts.1 h).1 _ (List.getElem_mem hi) h2
  · simp only [decide_eq_true_eq, decide_eq_false_iff_not]
    by_cases h3 : x.til ≤ (now : Int)
    · exact .inr (.inl ⟨h1, h3, hno fun h => by have := (addOk_parts.1 h).2.1; omega⟩)
    · by_cases h4 : x.til - (now : Int) > 1000
      · exact .inr (.inr (.inl ⟨h1, h3, h4, hno fun h => by have := (addOk_parts.1 h).2.2.1; omega⟩))
      · by_cases h5 : 200 ≤ L1.length
        · exact .inr (.inr (.inr (.inl ⟨h1, h3, h4, h5, hno fun h => by have := (addOk_parts.1 h).2.2.2; omega⟩)))
        · refine .inr (.inr (.inr (.inr ⟨h1, h3, h4, h5, h2, ?_⟩)))
          unfold add1
          rw [if_pos (addOk_parts.2 ⟨h2, by omega, by omega, by omega⟩)]
set_option maxRecDepth 100000 in
set_option maxHeartbeats 8000000 in
theorem ref_add_ok {B Bx mp time last : Nat} {L xs : List Fl} {sv : Value} {A : Option Addr} {cap : Nat} (now : Nat) (w : World) (h : RFs w B mp time last L sv) (hB : B ≤ w.heap.size) (hx : Reads w Bx 3 A xs.length (flsC xs)) (hBx : Bx ≤ mp) (hxl : xs.length ≤ 1000) (hs : ∀ x ∈ xs, x.host.size ≤ maxLen) (htl : ∀ x ∈ xs, -9223372036854775808 ≤ x.til ∧ x.til ≤ 9223372036854775807) (h1 : last ≤ now) (h2 : now ≤ 1099511627776) (hbad : ∀ x ∈ xs, isName x.host = true) :
    Calls Tryd.prog 20 #[.pointer (some ⟨mp, 0, none⟩), .slice A xs.length cap, .int .i64 (now : Int)] w (RefAdded B mp time now L xs w) := by
  have hb0 : Below w.heap.size w (w.alloc (.cells #[.int .i64 0, .int .i64 0] 57)) := (Below.refl _ _).alloc (Nat.le_refl _) _
  have hF0 := h.below hb0
  have HT := Lib.hid (ref_tick (now : Int) _ hF0)
  have ht0 : tickE last (now : Int) = 0 := by unfold tickE; rw [if_neg (by omega), if_neg (by omega)]
  rw [ht0] at HT
  have hB0 := Blk.new w 57 #[.int .i64 0, .int .i64 0]
  have hmp := h.blk.lt
  have HBR := Lib.hid (fun W (hW : Turn [mp] (w.alloc (.cells #[.int .i64 0, .int .i64 0] 57)) W) => hW.blk hB0 (by simp; omega))
  have HTW := Lib.hid (fun W (hW : Turn [mp] (w.alloc (.cells #[.int .i64 0, .int .i64 0] 57)) W) => ((Turn.of_below hb0).then hW : Turn [mp] w W))
  have c1 : (w.alloc (.cells #[.int .i64 0, .int .i64 0] 57)).cell? ⟨mp, 1, none⟩ = some (.int .i64 (last : Int)) := hF0.blk.cell 1
  have f1 := hF0.blk.frozen 1
  have HTK := Lib.hid (hF0.tick now)
  have HXR := Lib.hid (fun W (hW : Turn [mp] w W) => hW.reads hx (by omega) (by simpa using hBx))
  have HX := Lib.hid (hx.below (hb0.mono (by omega : Bx ≤ w.heap.size)))
  have HS := Lib.hid hs
  have HTL := Lib.hid htl
  have HNM := Lib.hid hbad
  have HSZ : Hid (∀ W, Turn [mp] w W → B ≤ W.heap.size) := Lib.hid fun W hW => Nat.le_trans hB hW.size
  have hL := h.len
  clear h ht0 hb0 hB0 hx hs htl hbad hF0 hB
  go_enter Tryd.func20, Tryd.ntmps20
  go_wp2_with fail
  generalize hW0 : w.alloc (.cells #[.int .i64 0, .int .i64 0] 57) = W0 at *
  refine HT.out.mono ?_
  rintro e w1 ⟨rfl, rfl⟩
  clear hW0 HT
  go_wp2_with fail
  go_loop [9, 10] (fun iv bv => ∃ i : Nat, i ≤ xs.length ∧ iv = .int .i64 (i : Int)) (fun iv _ => xs.length + 1 - (intOf iv).toNat)
  case atStart => exact ⟨0, Nat.zero_le _, rfl⟩
  case round =>
    obtain ⟨i, hi, rfl⟩ := hrel
    by_cases hil : i < xs.length
    · have hil2 : (i : Int) < xs.length := by omega
      obtain ⟨ad, rfl, a0, a1, a2⟩ := cellsA HX.out hil
      clear a0 a2
      have HN := Lib.hid (ref_name xs[i].host _ W0 (HS.out xs[i] (List.getElem_mem _)) (HNM.out xs[i] (List.getElem_mem _)))
      generalize xs[i].host = hh at *
      go_wp2_with fail
      refine HN.out.mono ?_
      rintro e w2 ⟨rfl, rfl⟩
      go_wp2
      go_round
      case rel => exact ⟨i + 1, by omega, by go_num⟩
      case measure => simp [intOf]; omega
    · obtain rfl : i = xs.length := by omega
      have hge : ¬ (xs.length : Int) < xs.length := by omega
      clear HX HNM HS
      go_wp2_with fail
      obtain ⟨hF2, hT2⟩ := HTK.out
      have HF2 := Lib.hid hF2
      have HT2 := Lib.hid hT2
      clear hF2 hT2 HTK c1 f1
      generalize W0.setCell ⟨mp, 1, none⟩ (.int .i64 (now : Int)) = W1 at *
      go_loopw [11, 12] (fun nv iv wi => ∃ (i n : Nat) (sv' : Value), i ≤ xs.length ∧ nv = .int .i64 (n : Int) ∧ iv = .int .i64 (i : Int) ∧ Hid (n + L.length = (addF now L (xs.take i)).length) ∧ Hid (RFs wi B mp time now (addF now L (xs.take i)) sv') ∧ Hid (Turn [mp] W0 wi)) (fun _ iv _ => xs.length + 1 - (intOf iv).toNat)
      case atStart => exact ⟨0, 0, sv, Nat.zero_le _, rfl, rfl, Lib.hid (by simp [addF]), Lib.hid HF2.out, HT2⟩
      case round =>
        obtain ⟨i, n, sv', hi, rfl, rfl, hn, hF, hT⟩ := hrel
        have hnl : n ≤ 200 := by have := hn.out; have := hF.out.len; omega
        by_cases hil : i < xs.length
        · have hil2 : (i : Int) < xs.length := by omega
          have HTi := Lib.hid (HTW.out _ hT.out)
          obtain ⟨ad, rfl, a0, a1, a2⟩ := cellsA (HXR.out _ HTi.out) hil
          have HFD := Lib.hid (ref_find xs[i].key _ hF.out)
          obtain ⟨hb1, hb2⟩ := HTL.out _ (List.getElem_mem hil)
          have HSTEP := Lib.hid (addF_take (now := (now : Int)) (L := L) i hil)
          have hway := add_way (now := now) (L1 := addF now L (xs.take i)) (x := xs[i])
          obtain ⟨A1, cap1, hsv, _, _⟩ := hF.out.form
          subst hsv
          have c2 : wr.cell? ⟨mp, 2, none⟩ = some (.slice A1 (addF now L (xs.take i)).length cap1) := hF.out.blk.cell 2
          have HLAY : Hid (¬ 200 ≤ (addF now L (xs.take i)).length → findF (addF now L (xs.take i)) xs[i].key = none → Calls Tryd.prog 38 #[.pointer (some ⟨mp, 0, none⟩), flV xs[i]] wr (RefDrop B mp time now (insF xs[i] (addF now L (xs.take i))) wr)) := Lib.hid fun h3 h4 => ref_lay xs[i] _ hF.out (HSZ.out _ HTi.out) (by omega) (findF_none h4)
          have HKEEP : Hid (add1 now (addF now L (xs.take i)) xs[i] = addF now L (xs.take i) → Hid (n + L.length = (addF now L (xs.take (i + 1))).length) ∧ Hid (RFs wr B mp time now (addF now L (xs.take (i + 1))) (.slice A1 (addF now L (xs.take i)).length cap1))) := Lib.hid fun h3 => by
            rw [HSTEP.out, h3]
            exact ⟨hn, hF⟩
          unfold flV at HLAY
          have HPUT : Hid (add1 now (addF now L (xs.take i)) xs[i] = insF xs[i] (addF now L (xs.take i)) → ∀ W sv2, RFs W B mp time now (insF xs[i] (addF now L (xs.take i))) sv2 → Turn [mp] wr W → Hid (n + 1 + L.length = (addF now L (xs.take (i + 1))).length) ∧ Hid (RFs W B mp time now (addF now L (xs.take (i + 1))) sv2) ∧ Hid (Turn [mp] W0 W)) := Lib.hid fun h3 W sv2 h4 h5 => by
            rw [HSTEP.out, h3]
            exact ⟨Lib.hid (by rw [insF_length]; have := hn.out; omega), Lib.hid h4, Lib.hid (hT.out.then h5)⟩
          clear HSTEP hF hn HF2 HT2
          generalize addF now L (xs.take i) = L1 at *
          generalize xs[i] = x at *
          generalize posF L1 x.key = pk at *
          rcases hway with ⟨⟨j, rfl⟩, hk⟩ | ⟨rfl, d1, hk⟩ | ⟨rfl, d1, d2, hk⟩ | ⟨rfl, d1, d2, d3, hk⟩ | ⟨rfl, d1, d2, d3, d4, hk⟩
          · obtain ⟨k1, k2⟩ := HKEEP.out hk
            clear HKEEP HPUT HLAY hk HTL
            have q1 : decide ((j : Int) ≥ 0) = true := by simp
            go_wp2_with fail
            refine HFD.out.mono ?_
            rintro e w3 ⟨rfl, rfl⟩
            go_wp2
            go_roundw
            case rel => exact ⟨i + 1, n, _, by omega, rfl, by go_num, k1, k2, hT⟩
            case measure => simp [intOf]; omega
          · obtain ⟨k1, k2⟩ := HKEEP.out hk
            clear HKEEP HPUT HLAY hk HTL
            go_wp2_with fail
            refine HFD.out.mono ?_
            rintro e w3 ⟨rfl, rfl⟩
            go_wp2
            go_roundw
            case rel => exact ⟨i + 1, n, _, by omega, rfl, by go_num, k1, k2, hT⟩
            case measure => simp [intOf]; omega
          · obtain ⟨k1, k2⟩ := HKEEP.out hk
            have hwr : IntKind.i64.wrap (x.til - (now : Int)) = x.til - now := IntWalk.i64_in _ (by simp at d1; omega)
            clear HKEEP HPUT HLAY hk HTL
            go_wp2_with fail
            refine HFD.out.mono ?_
            rintro e w3 ⟨rfl, rfl⟩
            go_wp2
            go_roundw
            case rel => exact ⟨i + 1, n, _, by omega, rfl, by go_num, k1, k2, hT⟩
            case measure => simp [intOf]; omega
          · obtain ⟨k1, k2⟩ := HKEEP.out hk
            have hwr : IntKind.i64.wrap (x.til - (now : Int)) = x.til - now := IntWalk.i64_in _ (by simp at d1; omega)
            clear HKEEP HPUT HLAY hk HTL
            go_wp2_with fail
            refine HFD.out.mono ?_
            rintro e w3 ⟨rfl, rfl⟩
            go_wp2
            go_roundw
            case rel => exact ⟨i + 1, n, _, by omega, rfl, by go_num, k1, k2, hT⟩
            case measure => simp [intOf]; omega
          · have hwr : IntKind.i64.wrap (x.til - (now : Int)) = x.til - now := IntWalk.i64_in _ (by simp at d1; omega)
            have HL2 := Lib.hid (HLAY.out d3 d4)
            have HP2 := Lib.hid (HPUT.out hk)
            clear HKEEP HPUT HLAY hk HTL d4
            go_wp2_with fail
            refine HFD.out.mono ?_
            rintro e w3 ⟨rfl, rfl⟩
            go_wp2_with fail
            refine HL2.out.mono ?_
            rintro e w4 ⟨rfl, sv2, hF4, hT4⟩
            obtain ⟨k1, k2, k3⟩ := HP2.out w4 sv2 hF4 hT4
            clear hF4 hT4
            go_wp2
            go_roundw
            case rel => exact ⟨i + 1, n + 1, _, by omega, by go_num, by go_num, k1, k2, k3⟩
            case measure => simp [intOf]; omega
        · obtain rfl : i = xs.length := by omega
          have hge2 : ¬ (xs.length : Int) < xs.length := by omega
          rw [List.take_length] at hn hF
          have HEND : Hid (∀ W2, Below wr.heap.size wr W2 → Blk W2 w.heap.size 57 #[.int .i64 0, .int .i64 0] ∧ RefAdded B mp time now L xs w (.returned (.tuple #[.int .i64 (n : Int), .agg #[.int .i64 0, .int .i64 (-1)]])) ((W2.setCell ⟨w.heap.size, 0, none⟩ (.int .i64 0)).setCell ⟨w.heap.size, 1, none⟩ (.int .i64 (-1)))) := Lib.hid fun W2 hb => by
            have hT2 := hT.out.thenB hb
            have hF2 := hF.out.below hb
            have hB2 := HBR.out _ hT2
            have e : n = (addF now L xs).length - L.length := by have := hn.out; omega
            have hTs : Turn [w.heap.size] W2 ((W2.setCell ⟨w.heap.size, 0, none⟩ (.int .i64 0)).setCell ⟨w.heap.size, 1, none⟩ (.int .i64 (-1))) := ((Turn.refl [w.heap.size] W2).setCell (p := ⟨w.heap.size, 0, none⟩) (.inl (by simp)) _).setCell (p := ⟨w.heap.size, 1, none⟩) (.inl (by simp)) _
            refine ⟨hB2, by rw [e], sv', hF2.turn hTs (by simp; omega) (fun g hg => by rw [List.mem_singleton] at hg; subst hg; exact notRow_blk hB2 (by decide)), ?_⟩
            exact (HTW.out _ hT2).trans hTs fun c hc => .inr (by rw [List.mem_singleton] at hc; omega)
          clear hn hF HF2 HT2
          go_wp2_with fail
          refine (fine_any wr).mono ?_
          rintro e w3 ⟨rfl, hb3⟩
          obtain ⟨hB3, hP3⟩ := HEND.out _ hb3
          have HP3 := Lib.hid hP3
          have r0 : w3.cell? ⟨w.heap.size, 0, none⟩ = some (.int .i64 0) := hB3.cell 0
          have r1 : w3.cell? ⟨w.heap.size, 1, none⟩ = some (.int .i64 0) := hB3.cell 1
          have f0 := hB3.frozen 0
          have f1 := hB3.frozen 1
          have HBf := Lib.hid ((hB3.set_ 0 (.int .i64 0)).set_ 1 (.int .i64 (-1)))
          clear hB3 hP3 hb3
          go_wp2
          refine bodyPost_ret (results_tmp_cell (P := Tryd.prog) rfl _ _ w.heap.size _ _ (0, 0) _ rfl HBf.out Tryd.underlying57 rfl (by kernel_rfl)) rfl ?_
          exact HP3.out
end Go.Proofs.YtlgnhifjakkodaaDoor
