/-
  The law ScriptReads: its walk.
-/
import Derived.Test.YthkfhfldoniolaaGreatDoorScrLine
namespace Go.Proofs.YthkfhfldoniolaaGreatDoor
open Go.RowKit

theorem ba_appF (a b : List UInt8) : bt a ++ bt b = bt (a ++ b) := by
  rw [bt_app]
  simp [bt]
theorem byte_on (s : ByteArray) (i : Nat) (h : i < s.size) : bt (s.data.toList.take i) ++ s.extract i (i + 1) = bt (s.data.toList.take (i + 1)) := by
  have hl : s.data.toList.length = s.size := by simp
  have e : s.extract i (i + 1) = bt [s[i]] := by
    apply ByteArray.ext
    rw [ByteArray.data_extract]
    apply Array.ext'
    rw [Array.toList_extract, List.extract_eq_take_drop, show i + 1 - i = 1 by omega, List.drop_eq_getElem_cons (by omega)]
    rfl
  rw [e, ba_appF, List.take_succ_eq_append_getElem (by omega)]
  rfl
/-- The first word, so far. -/
theorem word_end {s : ByteArray} {k : Nat} (hk : k ≤ s.size) (h : ∀ j (hj : j < s.size), j < k → s[j] ≠ 32) (he : k = s.size ∨ ∃ hk : k < s.size, s[k] = 32) : bt (s.data.toList.take k) = bt (s.data.toList.takeWhile fun x => !decide (x = 32)) := by
  have hl : s.data.toList.length = s.size := by simp
  congr 1
  have h1 : ∀ x ∈ s.data.toList.take k, (!decide (x = 32)) = true := fun x hx => by
    obtain ⟨j, hj, rfl⟩ := List.mem_iff_getElem.1 hx
    rw [List.length_take] at hj
    rw [List.getElem_take]
    have := h j (by omega) (by omega)
    show (!decide (s[j] = 32)) = true
    rw [decide_eq_false this]
    rfl
  conv => rhs; rw [← List.take_append_drop k s.data.toList]
  rw [List.takeWhile_append_of_pos h1]
  rcases he with rfl | ⟨hk2, he⟩
  · rw [List.drop_of_length_le (by omega)]
    simp
  · rw [List.drop_eq_getElem_cons (by omega)]
    have : s.data.toList[k] = 32 := he
    rw [this]
    simp
theorem run_long {ea : Nat → Addr} {A : Option Addr} {cap n : Nat} (w : World) (hE : ErrsS ea w) (hn : 100 < n) (hm : n ≤ 1000) :
    Calls Tryz.prog 10 #[.slice A n cap] w fun e w' => e = .returned (.tuple #[.slice none 0 0, errZ ea 2]) ∧ Below w.heap.size w w' := by
  have d1 : decide ((n : Int) > 100) = true := by simp; omega
  have c2 : w.cell? ⟨0, 0, none⟩ = some (.iface 355 (.pointer (some (ea (gv 2))))) := hE.k.c2
  clear hE hn
  go_enter Tryz.func10, Tryz.ntmps10
  go_wp2_with fail
  go_region
  go_wp2
  go_ret2
  exact ⟨rfl, bl_drew (Below.refl _ _)⟩
theorem coded_any {ea : Nat → Addr} (w : World) (hE : ErrsW ea w) (hG : HandleAt w) : Calls Tryz.prog 12 #[errZ ea 2, .int .i64 2] w (True1 w) := by
  have HC := Lib.hid (code_plain ea (ea (gv 2)) ⟨2, none⟩ w hE hG rfl (by decide) (by decide) ⟨rfl, rfl⟩)
  unfold CodePost at HC
  unfold errZ errB
  rw [if_neg (by omega)]
  clear hE hG
  go_enter Tryz.func12, Tryz.ntmps12
  go_wp2_with fail
  refine HC.out.mono ?_
  rintro e w1 ⟨rfl, hb⟩
  have HB := Lib.hid hb
  clear hb HC
  go_wp2
  go_ret
  exact ⟨rfl, HB.out⟩
theorem reads_skip {ea : Nat → Addr} {A : Option Addr} {cap n : Nat} (w : World) (hE : ErrsS ea w) (hW : CarW w) (hG : HandleAt w) (hn : 110 < n) (hm : n ≤ maxLen) :
    Calls Tryz.prog 4 #[.slice A n cap] w (True1 w) := by
  unfold maxLen at hm
  have HW := Lib.hid (hello_any w hE hW hG)
  have d1 : decide ((n : Int) > 110) = true := by simp; omega
  clear hE hW hG hn
  go_enter Tryz.func4, Tryz.ntmps4
  go_wp2_with fail
  refine HW.out.mono ?_
  rintro e w1 ⟨rfl, hb1⟩
  have HB := Lib.hid hb1
  clear hb1 HW
  go_wp2
  go_ret
  exact ⟨rfl, HB.out⟩
theorem text_at {w : World} {B n k : Nat} {A : Option Addr} {xs : List ByteArray} {a : ByteArray} (h : Reads w B 1 A n (strV xs)) (hk : k < n) (ha : xs[k]? = some a) : ∃ ad, A = some ad ∧ w.cell? (ad.add k) = some (.string a) := by
  obtain ⟨ad, u, hA, _, hu, hc⟩ := h.at_ hk
  refine ⟨ad, hA, ?_⟩
  rw [hc, ← hu]
  simp [strV, ha]
theorem some_lit {a : ByteArray} (h : 0 < a.size) : (a.toList == []) = false := by
  rw [Lib.toList_data]
  refine beq_eq_false_iff_ne.2 fun e => ?_
  have : a.data.toList.length = a.size := by simp
  rw [e] at this
  simp at this
  omega
theorem form_none {c : ByteArray} (h : formT c = none) : c ≠ cmHosts ∧ c ≠ cmJump ∧ cmdOf c = none := by
  refine ⟨fun e => ?_, fun e => ?_, ?_⟩
  · subst e; revert h; decide
  · subst e; revert h; decide
  · unfold cmdOf
    rw [if_neg (fun e => by subst e; revert h; decide), if_neg (fun e => by subst e; revert h; decide), if_neg (fun e => by subst e; revert h; decide), if_neg (fun e => by subst e; revert h; decide), if_neg (fun e => by subst e; revert h; decide), if_neg (fun e => by subst e; revert h; decide), if_neg (fun e => by subst e; revert h; decide), if_neg (fun e => by subst e; revert h; decide), if_neg (fun e => by subst e; revert h; decide), if_neg (fun e => by subst e; revert h; decide), if_neg (fun e => by subst e; revert h; decide)]
/-- What the answers are. -/
theorem reads_answers (l : List ByteArray) (hl : l.length ≤ 100) {i : Nat} (h : i < l.length) :
    ∃ a, (scrS l).1[i]? = some a ∧ (a.toList == []) = false ∧ (formT (bt (l[i].data.toList.takeWhile fun x => !decide (x = 32))) = none → a = errT 1) := by
  refine ⟨_, scrS_at l h, some_lit (playS_some (scrS_ok l i (by omega) (by omega)) _), fun hf => ?_⟩
  obtain ⟨n1, n2, n3⟩ := form_none hf
  exact playS_text _ rfl n1 n2 n3
set_option maxRecDepth 100000 in
set_option maxHeartbeats 4000000 in
theorem reads_walk {ea : Nat → Addr} {A : Option Addr} {cap : Nat} {l : List ByteArray} (w : World) (hE : ErrsS ea w) (hE9 : ErrsW ea w) (hW : CarW w) (hG : HandleAt w) (hT : TxIn w A cap l) (hl : l.length ≤ 110) :
    Calls Tryz.prog 4 #[.slice A l.length cap] w (True1 w) := by
  obtain ⟨i0, hi, hz0, hz1, hz2⟩ := info_parts info_strF
  have HW := Lib.hid (hello_any w hE hW hG)
  have d1 : decide ((l.length : Int) > 110) = false := by simp; omega
  have HT : Hid (∀ W, Below w.heap.size w W → TxIn W A cap l) := Lib.hid fun W hb => hT.below hb
  have HRun : Hid (∀ W b O oc, Below w.heap.size w W → W.ownsRow b 9 1 (.slice O l.length oc) l.length (strV l) → (∀ y ∈ l, y.size ≤ 100) → l.length ≤ 100 → Calls Tryz.prog 10 #[.slice O l.length oc] W fun e w' => ∃ A' c', e = .returned (.tuple #[.slice A' l.length c', .nilIface]) ∧ Reads w' w'.heap.size 1 A' l.length (strV (scrS l).1) ∧ Below W.heap.size W w') := Lib.hid fun W b O oc hb ho hz h100 => by
    obtain ⟨A2, c2, e, hr, hc, hm⟩ := own_slice ho
    cases e
    exact (run_any W (hE.below hb) (hW.below hb) (hG.below hb) ⟨hr, hc, hm, hT.s⟩ h100 (fun y hy => by have := hz y hy; omega)).mono fun e w' ⟨A', c', a, b, d⟩ => ⟨A', c', a, Reads.of_own b, d⟩
  have HLong : Hid (∀ W O oc, Below w.heap.size w W → 100 < l.length → Calls Tryz.prog 10 #[.slice O l.length oc] W fun e w' => e = .returned (.tuple #[.slice none 0 0, errZ ea 2]) ∧ Below W.heap.size W w') := Lib.hid fun W O oc hb h100 => run_long W (hE.below hb) h100 (by omega)
  have HCod : Hid (∀ W, Below w.heap.size w W → Calls Tryz.prog 12 #[errZ ea 2, .int .i64 2] W (True1 W)) := Lib.hid fun W hb => coded_any W (hE9.below hb) (hG.below hb)
  have HAns := Lib.hid (reads_answers l)
  clear hE hE9 hW hG hT
  generalize errZ ea 2 = e2 at *
  go_enter Tryz.func4, Tryz.ntmps4
  go_wp2_with fail
  refine HW.out.mono ?_
  rintro e w1 ⟨rfl, hb1⟩
  have HB1 := Lib.hid hb1
  clear hb1 HW
  go_wp2_with fail
  go_loopw [4, 5] (fun ov iv wr => ∃ (k : Nat) (O : Option Addr) (oc : Nat), ov = .slice O k oc ∧ iv = .int .i64 (k : Int) ∧ k ≤ l.length ∧ Hid (wr.ownsRow w1.heap.size 9 1 (.slice O k oc) k (strV (l.take k)) ∧ Below w1.heap.size w1 wr ∧ ∀ y ∈ l.take k, y.size ≤ 100)) (fun _ iv _ => l.length - (intOf iv).toNat)
  case atStart => exact ⟨0, none, 0, rfl, rfl, Nat.zero_le _, Lib.hid ⟨World.ownsRow_nil _ _ _ _, Below.refl _ _, fun y hy => by simp at hy⟩⟩
  case round =>
    obtain ⟨k, O, oc, rfl, rfl, hk, hR⟩ := hrel
    have hbr := below_two HB1.out hR.out.2.1
    by_cases hlt : k < l.length
    · obtain ⟨ad, rfl, hc⟩ := str_at (HT.out _ hbr).r hlt
      have hlt2 : (k : Int) < l.length := by omega
      have HBR := Lib.hid hbr
      have HTk := Lib.hid (List.take_succ_eq_append_getElem hlt)
      have hs : l[k].size ≤ maxLen := (HT.out _ hbr).s _ (List.getElem_mem hlt)
      unfold maxLen at hs
      clear hbr
      generalize l[k] = x at *
      by_cases hx : 100 < x.size
      · have d2 : decide ((x.size : Int) > 100) = true := by simp; omega
        go_wp2
        go_ret
        exact ⟨rfl, HBR.out⟩
      · have d2 : decide ((x.size : Int) > 100) = false := by simp; omega
        obtain ⟨ho, hb, hz⟩ := hR.out
        have hO := ho.alloc (.cells #[.string x] 9)
        have HB := Lib.hid hb
        have HZ := Lib.hid hz
        have HO := Lib.hid ho
        have hs' : w1.heap.size ≤ (wr.alloc (.cells #[.string x] 9)).heap.size := size_alloc1 hb
        clear ho hb hz hR
        go_wp2_with (at_builtin
                     go_must (refine wpList_append_own _ rfl _ _ 24 rfl w1.heap.size 9 i0 _ 1 16 Tryz.underlying24 hi hz0 hz1 hz2 rfl (by decide) _ k _ rfl hO ⟨wr.heap.size, 0, none⟩ 1 1 [.string x] rfl rfl (cell_one_new _ _ _) (by simp [Value.oneCell']) (by simp only [maxLen]; omega) (by omega) hs' ?_)
                     intro v' W' h1 h2 _
                     obtain ⟨O', oc', hv, _⟩ := own_slice h1
                     subst hv
                     have hb2 := below_app1 HB.out HO.out h2
                     clear h2 hO hs')
        go_roundw
        case rel => exact ⟨k + 1, O', oc', rfl, by go_num, by omega, Lib.hid ⟨by rw [HTk.out]; simpa [strV] using h1, hb2, fun y hy => by
          rw [HTk.out] at hy
          rcases List.mem_append.1 hy with hy | hy
          · exact HZ.out y hy
          · rw [List.mem_singleton] at hy
            subst hy
            omega⟩⟩
        case measure => simp [intOf]; omega
    · obtain rfl : k = l.length := by omega
      obtain ⟨ho, hb, hz⟩ := hR.out
      rw [List.take_length] at ho hz
      by_cases h100 : 100 < l.length
      · have HL := Lib.hid (HLong.out wr O oc hbr h100)
        have d3 : decide ((l.length : Int) > 100) = true := by simp; omega
        have HB := Lib.hid hbr
        have HC := Lib.hid (fun w2 (h : Below wr.heap.size wr w2) => HCod.out w2 (below_two hbr h))
        clear ho hb hz hR HRun HLong HCod HAns hbr
        go_wp2_with fail
        refine HL.out.mono ?_
        rintro e w2 ⟨rfl, hb2⟩
        have HC2 := Lib.hid (HC.out w2 hb2)
        have HB2 := Lib.hid (below_two HB.out hb2)
        clear hb2 HL HC HB
        go_wp2_with fail
        refine HC2.out.mono ?_
        rintro e w3 ⟨rfl, hb3⟩
        have HB3 := Lib.hid (below_two HB2.out hb3)
        clear hb3 HC2 HB2
        go_wp2
        go_ret
        exact ⟨rfl, HB3.out⟩
      · have HL := Lib.hid (HRun.out wr _ O oc hbr ho hz (by omega))
        have d3 : decide ((l.length : Int) > 100) = false := by simp; omega
        have HB := Lib.hid hbr
        clear ho hb hz hR HRun HLong HCod hbr
        go_wp2_with fail
        refine HL.out.mono ?_
        rintro e w2 ⟨A', c', rfl, hr2, hb2⟩
        have HB2 := Lib.hid (below_two HB.out hb2)
        have HR2 := Lib.hid (fun W (hb : Below w2.heap.size w2 W) => show Reads W W.heap.size 1 A' l.length (strV (scrS l).1) from (hr2.below hb).more hb.size)
        have HT2 := Lib.hid (fun W (hb : Below w2.heap.size w2 W) => HT.out W (below_two HB2.out hb))
        clear hb2 hr2 HL HB HT
        go_wp2_with fail
        go_loopw [8] (fun iv wq => ∃ (i : Nat), iv = .int .i64 (i : Int) ∧ i ≤ l.length ∧ Hid (Below w2.heap.size w2 wq)) (fun iv _ => l.length - (intOf iv).toNat)
        case atStart => exact ⟨0, rfl, Nat.zero_le _, Lib.hid (Below.refl _ _)⟩
        case round =>
          obtain ⟨i, rfl, hi2, hq⟩ := hrel
          have HQ := hq
          clear hq
          by_cases hlt : i < l.length
          · obtain ⟨ad, rfl, hc⟩ := str_at (HT2.out wr HQ.out).r hlt
            have hlt2 : (i : Int) < l.length := by omega
            obtain ⟨a, ha, hane, hat⟩ := HAns.out (by omega) hlt
            obtain ⟨ad2, rfl, hc2⟩ := text_at (HR2.out wr HQ.out) hlt ha
            have HT3 := Lib.hid (fun W (hb : Below wr.heap.size wr W) => (show W.cell? (ad2.add i) = some (.string a) from (hb.cell (World.block_lt_of_cell? _ _ hc2)).trans hc2))
            have hxs : l[i].size ≤ maxLen := (HT2.out wr HQ.out).s _ (List.getElem_mem hlt)
            unfold maxLen at hxs
            have HAt := Lib.hid hat
            clear ha hat HAns HR2 HT2
            generalize l[i] = x at *
            go_wp2_with fail
            go_loop [9, 10] (fun wv kv => ∃ (m : Nat) (q : ByteArray), wv = .string q ∧ kv = .int .i64 (m : Int) ∧ m ≤ x.size ∧ Hid (q = bt (x.data.toList.take m) ∧ ∀ j (hj : j < x.size), j < m → x[j] ≠ 32)) (fun _ kv => x.size - (intOf kv).toNat)
            case atStart => exact ⟨0, _, rfl, rfl, Nat.zero_le _, Lib.hid ⟨rfl, fun j _ h => absurd h (by omega)⟩⟩
            case round =>
              obtain ⟨m, q, rfl, rfl, hm, hq⟩ := hrel
              have hqs : q.size ≤ m := by rw [hq.out.1, size_btL, List.length_take]; omega
              have hway : (∃ h : m < x.size, x[m] ≠ 32) ∨ (∃ h : m < x.size, x[m] = 32) ∨ m = x.size := by
                by_cases h1 : m < x.size
                · by_cases h2 : x[m] = 32
                  · exact .inr (.inl ⟨h1, h2⟩)
                  · exact .inl ⟨h1, h2⟩
                · exact .inr (.inr (by omega))
              rcases hway with ⟨hmx, h32⟩ | ⟨hmx, h32⟩ | hmx
              · have hmx2 : (m : Int) < x.size := by omega
                have hnlt := x[m].toNat_lt
                have h32n : ¬ x[m].toNat = 32 := fun e => h32 (UInt8.toNat_inj.1 (by rw [e]; rfl))
                have HNx : Hid (q ++ x.extract m (m + 1) = bt (x.data.toList.take (m + 1)) ∧ ∀ j (hj : j < x.size), j < m + 1 → x[j] ≠ 32) := Lib.hid ⟨by rw [hq.out.1]; exact byte_on x m hmx, fun j hj hjm => by
                  rcases Nat.lt_or_ge j m with h | h
                  · exact hq.out.2 j hj h
                  · obtain rfl : j = m := by omega
                    exact h32⟩
                clear h32 hq
                go_wp2
                go_round
                case rel => exact ⟨m + 1, _, rfl, by go_num, by omega, HNx⟩
                case measure => simp [intOf]; omega
              all_goals
                have HWd : Hid (q = bt (x.data.toList.takeWhile fun x => !decide (x = 32))) := Lib.hid (by
                  rw [hq.out.1]
                  exact word_end hm hq.out.2 (by first | exact .inr ⟨hmx, h32⟩ | exact .inl hmx))
                have hfacts : (∃ h : m < x.size, x[m].toNat = 32 ∧ (m : Int) < x.size) ∨ m = x.size := by first | exact .inl ⟨hmx, by rw [h32]; rfl, by omega⟩ | exact .inr hmx
                try clear h32
                clear hq hm hmx
                have HF0 := Lib.hid (formOf_any q wr)
                rcases hfacts with ⟨hmx, hnum, hmx2⟩ | rfl
                all_goals
                  first
                    | (exfalso; omega)
                    | skip
                  cases ho : formT q with
                  | some f =>
                    rw [ho] at HF0
                    unfold formV at HF0
                    simp only [Option.isSome_some] at HF0
                    obtain ⟨f1, f2⟩ := f
                    clear HAt HWd ho
                    go_wp2_with fail
                    refine HF0.out.mono ?_
                    rintro e w6 ⟨rfl, rfl⟩
                    clear HF0
                    go_wp2_with fail
                    go_region
                    go_wp2_with fail
                    go_roundw
                    case rel => exact ⟨i + 1, by go_num, by omega, Lib.hid (bl_drew HQ.out)⟩
                    case measure => simp [intOf]; omega
                  | none =>
                    have hae := HAt.out (by rw [← HWd.out]; exact ho)
                    have HEt := Lib.hid (fun W => errorText_any 0 (by omega) W)
                    rw [ho] at HF0
                    unfold formV at HF0
                    simp only [Option.isSome_none] at HF0
                    rw [← hae] at HEt
                    clear HAt HWd ho hae
                    go_wp2_with fail
                    refine HF0.out.mono ?_
                    rintro e w6 ⟨rfl, rfl⟩
                    clear HF0
                    go_wp2_with fail
                    have hRef := Below.refl wr.heap.size wr
                    go_region_held3 (fun w' => w'.cell? (ad2.add i) = some (.string a)) (first | exact HT3.out _ hb7 | exact HT3.out _ (bl_drew hRef) | go_keep) (first
                      | (go_at_call 14
                         refine (HEt.out _).mono ?_
                         rintro e w7 ⟨rfl, hb7'⟩
                         have hb7 := bl_undrew hb7'))
                    all_goals
                      have HQ7 := Lib.hid (below_two HQ.out hb7)
                      clear hb7 hb7' hRef
                      go_wp2_with fail
                      go_roundw
                      case rel => exact ⟨i + 1, by go_num, by omega, HQ7⟩
                      case measure => simp [intOf]; omega
          · obtain rfl : i = l.length := by omega
            have HF := Lib.hid (below_two HB2.out HQ.out)
            clear HAns HR2 HT2
            go_wp2
            go_ret
            exact ⟨rfl, HF.out⟩
theorem reads_any {ea : Nat → Addr} {A : Option Addr} {cap : Nat} {l : List ByteArray} (w : World) (hE : ErrsS ea w) (hE9 : ErrsW ea w) (hW : CarW w) (hG : HandleAt w) (hT : TxIn w A cap l) :
    Calls Tryz.prog 4 #[.slice A l.length cap] w (True1 w) := by
  by_cases h : 110 < l.length
  · exact reads_skip w hE hW hG h hT.lm
  · exact reads_walk w hE hE9 hW hG hT (by omega)
end Go.Proofs.YthkfhfldoniolaaGreatDoor
