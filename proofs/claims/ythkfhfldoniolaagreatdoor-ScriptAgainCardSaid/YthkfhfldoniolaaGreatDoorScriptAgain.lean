/-
  The law ScriptAgain: its walk.
-/
import Derived.Test.YthkfhfldoniolaaGreatDoorScrLineW
import Derived.Test.YthkfhfldoniolaaGreatDoorScrLine
namespace Go.Proofs.YthkfhfldoniolaaGreatDoor
open Go.RowKit

/-- The lines of the input that are lines. -/
def linesT (l : List SLine) : List ByteArray := l.filterMap fun x => lineT x.word x.h x.n
theorem linesT_len (l : List SLine) : (linesT l).length ≤ l.length := List.length_filterMap_le _ _
theorem linesT_some {l : List SLine} {i : Nat} {s : ByteArray} (h : i < l.length) (hs : lineT l[i].word l[i].h l[i].n = some s) : linesT (l.take (i + 1)) = linesT (l.take i) ++ [s] := by
  rw [List.take_succ_eq_append_getElem h]
  unfold linesT
  rw [List.filterMap_append]
  simp [hs]
theorem linesT_none {l : List SLine} {i : Nat} (h : i < l.length) (hs : lineT l[i].word l[i].h l[i].n = none) : linesT (l.take (i + 1)) = linesT (l.take i) := by
  rw [List.take_succ_eq_append_getElem h]
  unfold linesT
  rw [List.filterMap_append]
  simp [hs]
/-- Is a line too long for the statement? -/
def longS (x : SLine) : Bool := decide (5 < x.n.length) || decide (60 < x.word.size) || longH x.h
theorem longH_len {l : List ByteArray} (h : longH l = false) : l.length ≤ 30 := (long_no h).1
theorem linesT_small {l : List SLine} (h : ∀ x ∈ l, longS x = false) : ∀ s ∈ linesT l, s.size ≤ 100000 := by
  intro s hs
  obtain ⟨x, hx, he⟩ := List.mem_filterMap.1 hs
  have h1 := h x hx
  unfold longS at h1
  simp only [Bool.or_eq_false_iff, decide_eq_false_iff_not] at h1
  exact lineT_small he (by omega) (longH_len h1.2) (by omega)
theorem linesT_take (l : List SLine) (q : Nat) : (linesT l).take (linesT (l.take q)).length = linesT (l.take q) := by
  conv => lhs; rw [← List.take_append_drop q l]
  unfold linesT
  rw [List.filterMap_append, List.take_append_drop q l, List.take_left]
theorem scrS_begin (L : List ByteArray) {m : Nat} (h : m ≤ L.length) : (scrS L).1.take m = (scrS (L.take m)).1 := by
  obtain ⟨r, h1, _⟩ := scrStep_grow (scrS (L.take m)) (L.drop m)
  have h2 := scrS_len L m h
  have h3 : (scrS L).1 = (scrS (L.take m)).1 ++ r := by rw [← h1, ← scrS_append, List.take_append_drop]
  rw [h3, List.take_left' h2]
theorem again_ways2 {n : Nat} {cut : Int} (h : 40 < n ∨ cut < 0 ∨ (n : Int) < cut) : decide ((n : Int) > 40) = true ∨ (decide ((n : Int) > 40) = false ∧ decide (cut < 0) = true) ∨ (decide ((n : Int) > 40) = false ∧ decide (cut < 0) = false ∧ decide (cut > (n : Int)) = true) := by
  simp only [decide_eq_true_eq, decide_eq_false_iff_not]
  omega
theorem sagain_skip {ea : Nat → Addr} {A : Option Addr} {cap n : Nat} {cut : Int} (w : World) (hE : ErrsS ea w) (hW : CarW w) (hG : HandleAt w) (_hm : n ≤ maxLen) (h : 40 < n ∨ cut < 0 ∨ (n : Int) < cut) :
    Calls Tryz.prog 5 #[.slice A n cap, .int .i64 cut] w (True1 w) := by
  unfold maxLen at _hm
  have HW := Lib.hid (hello_any w hE hW hG)
  have hw := again_ways2 h
  clear hE hW hG h
  rcases hw with d1 | ⟨d1, d2⟩ | ⟨d1, d2, d3⟩
  all_goals
    go_enter Tryz.func5, Tryz.ntmps5
    go_wp2_with fail
    refine HW.out.mono ?_
    rintro e w1 ⟨rfl, hb1⟩
    have HB := Lib.hid hb1
    clear hb1 HW
    go_wp2
    go_ret
    exact ⟨rfl, HB.out⟩
theorem long_ways (x : SLine) :
    (longS x = true ∧ (decide ((x.n.length : Int) > 5) = true ∨ (decide ((x.n.length : Int) > 5) = false ∧ decide ((x.word.size : Int) > 60) = true) ∨ (decide ((x.n.length : Int) > 5) = false ∧ decide ((x.word.size : Int) > 60) = false ∧ longH x.h = true))) ∨
    (longS x = false ∧ decide ((x.n.length : Int) > 5) = false ∧ decide ((x.word.size : Int) > 60) = false ∧ longH x.h = false) := by
  unfold longS
  by_cases h1 : 5 < x.n.length
  · exact .inl ⟨by simp [h1], .inl (by simp; omega)⟩
  by_cases h2 : 60 < x.word.size
  · exact .inl ⟨by simp [h2], .inr (.inl ⟨by simp; omega, by simp; omega⟩)⟩
  cases h3 : longH x.h with
  | true => exact .inl ⟨by simp, .inr (.inr ⟨by simp; omega, by simp; omega, rfl⟩)⟩
  | false => exact .inr ⟨by simp; omega, by simp; omega, by simp; omega, rfl⟩
/-- What Run gives at a row of lines. -/
def RunGives (L : List ByteArray) (W : World) (e : Ending) (w' : World) : Prop :=
  ∃ A' c', e = .returned (.tuple #[.slice A' L.length c', .nilIface]) ∧ Reads w' w'.heap.size 1 A' L.length (strV (scrS L).1) ∧ (A' = none ∧ L.length = 0 ∧ c' = 0 ∨ ∃ g, A' = some ⟨g, 0, none⟩) ∧ L.length ≤ c' ∧ Below W.heap.size W w'
theorem run_gives {ea : Nat → Addr} {A : Option Addr} {cap : Nat} {L : List ByteArray} (w : World) (hE : ErrsS ea w) (hW : CarW w) (hG : HandleAt w) (hT : TxIn w A cap L) (hl : L.length ≤ 100) (hz : ∀ y ∈ L, y.size ≤ 100000) :
    Calls Tryz.prog 10 #[.slice A L.length cap] w (RunGives L w) :=
  (run_any w hE hW hG hT hl hz).mono fun e w' ⟨A', c', a, b, d⟩ => by
    have hcap := row_cap b
    refine ⟨A', c', a, Reads.of_own b, ?_, hcap, d⟩
    rcases own_two b with ⟨h1, h2, h3⟩ | h1
    · exact .inl ⟨h1, h2, h3⟩
    · exact .inr h1
set_option maxRecDepth 100000 in
set_option maxHeartbeats 4000000 in
theorem sagain_walk {ea : Nat → Addr} {A : Option Addr} {cap q : Nat} {l : List SLine} (w : World) (hE : ErrsS ea w) (hW : CarW w) (hG : HandleAt w) (hr : Reads w w.heap.size 3 A l.length (slsC l)) (hok : ∀ x ∈ l, SLineOk w x) (hl : l.length ≤ 40) (hq : q ≤ l.length) :
    Calls Tryz.prog 5 #[.slice A l.length cap, .int .i64 (q : Int)] w (True1 w) := by
  obtain ⟨i0, hi, hz0, hz1, hz2⟩ := info_parts info_strF
  have HW := Lib.hid (hello_any w hE hW hG)
  have d1 : decide ((l.length : Int) > 40) = false := by simp; omega
  have d2 : decide ((q : Int) < 0) = false := by simp
  have d3 : ¬ l.length < q := by omega
  have HAt : Hid (∀ W i (h : i < l.length), Below w.heap.size w W → ∃ ad, A = some ad ∧ SLineAt W ad i l[i]) := Lib.hid fun W i h hb => sLineAt_of hr hb h
  have HOk : Hid (∀ W i (h : i < l.length), Below w.heap.size w W → SLineOk W l[i]) := Lib.hid fun W i h hb => (hok _ (List.getElem_mem h)).below hb
  have HRun : Hid (∀ W O oc L, Below w.heap.size w W → TxIn W O oc L → L.length ≤ 40 → (∀ y ∈ L, y.size ≤ 100000) → Calls Tryz.prog 10 #[.slice O L.length oc] W (RunGives L W)) := Lib.hid fun W O oc L hb hT h40 hz => run_gives W (hE.below hb) (hW.below hb) (hG.below hb) hT (by omega) hz
  clear hE hW hG hr hok
  go_enter Tryz.func5, Tryz.ntmps5
  go_wp2_with fail
  refine HW.out.mono ?_
  rintro e w1 ⟨rfl, hb1⟩
  have HB1 := Lib.hid hb1
  clear hb1 HW
  go_wp2_with fail
  clear d1 d2
  go_loopw [6, 7, 8] (fun ov av iv wr => ∃ (i : Nat) (O : Option Addr) (oc : Nat) (L : List ByteArray) (m : Nat), ov = .slice O L.length oc ∧ av = .int .i64 (m : Int) ∧ iv = .int .i64 (i : Int) ∧ i ≤ l.length ∧ Hid (L = linesT (l.take i) ∧ m = (linesT (l.take (min i q))).length ∧ wr.ownsRow w1.heap.size 9 1 (.slice O L.length oc) L.length (strV L) ∧ Below w1.heap.size w1 wr ∧ ∀ x ∈ l.take i, longS x = false)) (fun _ _ iv _ => l.length - (intOf iv).toNat)
  case atStart => exact ⟨0, none, 0, [], 0, rfl, rfl, rfl, Nat.zero_le _, Lib.hid ⟨rfl, by simp [linesT], World.ownsRow_nil _ _ _ _, Below.refl _ _, fun x hx => by simp at hx⟩⟩
  case round =>
    obtain ⟨i, O, oc, L, m, rfl, rfl, rfl, hi2, hR⟩ := hrel
    have hbr := below_two HB1.out hR.out.2.2.2.1
    have hL40 : L.length ≤ 40 := by
      rw [hR.out.1]
      have := linesT_len (l.take i)
      rw [List.length_take] at this
      omega
    by_cases hlt : i < l.length
    · obtain ⟨ad, rfl, hc⟩ := HAt.out wr i hlt hbr
      have hok := HOk.out wr i hlt hbr
      have hlt2 : (i : Int) < (l.length : Int) := by omega
      have HLong := Lib.hid (longHosts_any l[i].A l[i].c wr.heap.size l[i].h wr hok.r (Nat.le_trans hok.hc hok.hm) hok.s)
      unfold LongIs at HLong
      have HBr := Lib.hid hbr
      have hways := long_ways l[i]
      have HSome := Lib.hid (fun s (h : lineT l[i].word l[i].h l[i].n = some s) => linesT_some hlt h)
      have HNone := Lib.hid (fun (h : lineT l[i].word l[i].h l[i].n = none) => linesT_none hlt h)
      have HTk := Lib.hid (List.take_succ_eq_append_getElem hlt)
      obtain ⟨c0, c1, c2⟩ := hc
      have HK := Lib.hid hok
      have hmw := hok.w
      have hmn := Nat.le_trans hok.hc2 hok.hm2
      unfold maxLen at hmw hmn
      clear hok hbr
      generalize l[i] = x at *
      obtain ⟨xw, xh, xn, xA, xc, xA2, xc2⟩ := x
      dsimp only at c0 c1 c2 HLong hways HSome HNone hmw hmn
      rcases hways with ⟨hlg, u1 | ⟨u1, u2⟩ | ⟨u1, u2, u3⟩⟩ | ⟨hsh, u1, u2, u3⟩
      · go_wp2
        go_ret
        exact ⟨rfl, HBr.out⟩
      · go_wp2
        go_ret
        exact ⟨rfl, HBr.out⟩
      · rw [u3] at HLong
        clear hlg
        go_wp2_with fail
        refine HLong.out.mono ?_
        rintro e w2 ⟨rfl, rfl⟩
        go_wp2
        go_ret
        exact ⟨rfl, HBr.out⟩
      · rw [u3] at HLong
        have HLn := Lib.hid (lineOf_any ⟨xw, xh, xn, xA, xc, xA2, xc2⟩ wr HK.out (by show xw.size ≤ 60; have := of_decide_eq_false u2; omega) (longH_len u3) (by show xn.length ≤ 5; have := of_decide_eq_false u1; omega))
        dsimp only at HLn
        have HShort : Hid (∀ y ∈ l.take (i + 1), longS y = false) := Lib.hid fun y hy => by
          rw [HTk.out] at hy
          rcases List.mem_append.1 hy with hy | hy
          · exact hR.out.2.2.2.2 y hy
          · rw [List.mem_singleton] at hy
            subst hy
            exact hsh
        have HRel : Hid (∀ (L' : List ByteArray) W' O' oc', L' = linesT (l.take (i + 1)) → W'.ownsRow w1.heap.size 9 1 (.slice O' L'.length oc') L'.length (strV L') → Below w1.heap.size w1 W' →
            (i < q → Hid (L' = linesT (l.take (i + 1)) ∧ L'.length = (linesT (l.take (min (i + 1) q))).length ∧ W'.ownsRow w1.heap.size 9 1 (.slice O' L'.length oc') L'.length (strV L') ∧ Below w1.heap.size w1 W' ∧ ∀ x ∈ l.take (i + 1), longS x = false)) ∧
            (¬ i < q → Hid (L' = linesT (l.take (i + 1)) ∧ m = (linesT (l.take (min (i + 1) q))).length ∧ W'.ownsRow w1.heap.size 9 1 (.slice O' L'.length oc') L'.length (strV L') ∧ Below w1.heap.size w1 W' ∧ ∀ x ∈ l.take (i + 1), longS x = false))) := Lib.hid fun L' W' O' oc' e1 e2 e3 =>
          ⟨fun h => Lib.hid ⟨e1, by rw [Nat.min_eq_left (by omega), e1], e2, e3, HShort.out⟩, fun h => Lib.hid ⟨e1, by rw [hR.out.2.1, Nat.min_eq_right (by omega), Nat.min_eq_right (by omega)], e2, e3, HShort.out⟩⟩
        have HLe := Lib.hid hR.out.1
        have HO := Lib.hid hR.out.2.2.1
        have HBw := Lib.hid hR.out.2.2.2.1
        clear hR hsh HTk HK u3 HShort
        have hiq : ((i : Int) < (q : Int) ∧ i < q) ∨ (¬ ((i : Int) < (q : Int)) ∧ ¬ i < q) := by omega
        cases ho : lineT xw xh xn with
        | none =>
          rw [ho] at HLn
          unfold lineV at HLn
          simp only [Option.getD_none, Option.isSome_none] at HLn
          have HLx : Hid (L = linesT (l.take (i + 1))) := Lib.hid (by rw [HNone.out ho]; exact HLe.out)
          clear HNone HSome HLe ho
          rcases hiq with ⟨hq1, hq2⟩ | ⟨hq1, hq2⟩
          · go_wp2_with fail
            refine HLong.out.mono ?_
            rintro e w2 ⟨rfl, rfl⟩
            go_wp2_with fail
            refine HLn.out.mono ?_
            rintro e w2 ⟨rfl, hb2⟩
            have HN := Lib.hid ((HRel.out L w2 O oc HLx.out (own_below HO.out hb2) (below_two HBw.out hb2)).1 hq2)
            clear hb2 HRel HLx HO HBw HLn HLong
            go_wp2_with fail
            go_roundw
            case rel => exact ⟨i + 1, O, oc, L, L.length, rfl, rfl, by go_num, by omega, HN.out⟩
            case measure => simp [intOf]; omega
          · go_wp2_with fail
            refine HLong.out.mono ?_
            rintro e w2 ⟨rfl, rfl⟩
            go_wp2_with fail
            refine HLn.out.mono ?_
            rintro e w2 ⟨rfl, hb2⟩
            have HN := Lib.hid ((HRel.out L w2 O oc HLx.out (own_below HO.out hb2) (below_two HBw.out hb2)).2 hq2)
            clear hb2 HRel HLx HO HBw HLn HLong
            go_wp2_with fail
            go_roundw
            case rel => exact ⟨i + 1, O, oc, L, m, rfl, rfl, by go_num, by omega, HN.out⟩
            case measure => simp [intOf]; omega
        | some s =>
          rw [ho] at HLn
          unfold lineV at HLn
          simp only [Option.getD_some, Option.isSome_some] at HLn
          have HLx : Hid (L ++ [s] = linesT (l.take (i + 1))) := Lib.hid (by rw [HSome.out s ho, ← HLe.out])
          clear HNone HSome HLe ho
          have HApp : Hid (∀ w2, Below wr.heap.size wr w2 → (w2.alloc (.cells #[.string s] 9)).ownsRow w1.heap.size 9 1 (.slice O L.length oc) L.length (strV L) ∧ w1.heap.size ≤ (w2.alloc (.cells #[.string s] 9)).heap.size ∧
              ∀ v' W', W'.ownsRow w1.heap.size 9 1 v' (L.length + 1) (strV L ++ [.string s]) → (w2.alloc (.cells #[.string s] 9)).grownBy W' (Value.slice O L.length oc).ownBlock → ∃ O' oc', v' = .slice O' (L.length + 1) oc' ∧
                (i < q → Hid (L ++ [s] = linesT (l.take (i + 1)) ∧ L.length + 1 = (linesT (l.take (min (i + 1) q))).length ∧ W'.ownsRow w1.heap.size 9 1 (.slice O' (L.length + 1) oc') (L.length + 1) (strV (L ++ [s])) ∧ Below w1.heap.size w1 W' ∧ ∀ x ∈ l.take (i + 1), longS x = false)) ∧
                (¬ i < q → Hid (L ++ [s] = linesT (l.take (i + 1)) ∧ m = (linesT (l.take (min (i + 1) q))).length ∧ W'.ownsRow w1.heap.size 9 1 (.slice O' (L.length + 1) oc') (L.length + 1) (strV (L ++ [s])) ∧ Below w1.heap.size w1 W' ∧ ∀ x ∈ l.take (i + 1), longS x = false))) := Lib.hid fun w2 hb2 => by
            have hb' : Below wr.heap.size wr (w2.alloc (.cells #[.string s] 9)) := hb2.alloc hb2.size _
            have hbw := below_two HBw.out hb'
            have ho := own_below HO.out hb'
            refine ⟨ho, hbw.size, fun v' W' h1 h2 => ?_⟩
            obtain ⟨O', oc', hv, _⟩ := own_slice h1
            subst hv
            have h3 := below_app hbw ho h2
            have hl : (L ++ [s]).length = L.length + 1 := by simp
            have := HRel.out (L ++ [s]) W' O' oc' HLx.out (by rw [hl]; simpa [strV] using h1) h3
            rw [hl] at this
            exact ⟨O', oc', rfl, this⟩
          have HLl : Hid ((L ++ [s]).length = L.length + 1) := Lib.hid (by simp)
          clear HRel HLx HO HBw
          rcases hiq with ⟨hq1, hq2⟩ | ⟨hq1, hq2⟩
          all_goals
            go_wp2_with fail
            refine HLong.out.mono ?_
            rintro e w2 ⟨rfl, rfl⟩
            go_wp2_with fail
            refine HLn.out.mono ?_
            rintro e w2 ⟨rfl, hb2⟩
            obtain ⟨hO, hs, hA⟩ := HApp.out w2 hb2
            have HA := Lib.hid hA
            clear hb2 hA HApp HLn HLong
            go_wp2_with (at_builtin
                         go_must (refine wpList_append_own _ rfl _ _ 24 rfl w1.heap.size 9 i0 _ 1 16 Tryz.underlying24 hi hz0 hz1 hz2 rfl (by decide) _ L.length _ rfl hO ⟨w2.heap.size, 0, none⟩ 1 1 [.string s] rfl rfl (cell_one_new _ _ _) (by simp [Value.oneCell']) (by simp only [maxLen]; omega) (by omega) hs ?_)
                         intro v' W' h1 h2 _
                         obtain ⟨O', oc', hv, hR'⟩ := HA.out v' W' h1 h2
                         subst hv
                         have HR' := Lib.hid hR'
                         clear h1 h2 hO hs HA hR')
          · go_roundw
            case rel => exact ⟨i + 1, O', oc', L ++ [s], L.length + 1, by rw [HLl.out], by go_num, by go_num, by omega, by rw [HLl.out]; exact HR'.out.1 hq2⟩
            case measure => simp [intOf]; omega
          · go_roundw
            case rel => exact ⟨i + 1, O', oc', L ++ [s], m, by rw [HLl.out], rfl, by go_num, by omega, by rw [HLl.out]; exact HR'.out.2 hq2⟩
            case measure => simp [intOf]; omega
    · obtain rfl : i = l.length := by omega
      obtain ⟨hL, hm, hO, hb, hsh⟩ := hR.out
      rw [List.take_length] at hL hsh
      rw [Nat.min_eq_right hq] at hm
      have hz : ∀ y ∈ L, y.size ≤ 100000 := by rw [hL]; exact linesT_small hsh
      have hmL : m ≤ L.length := by
        have h2 := congrArg List.length (linesT_take l q)
        rw [List.length_take, ← hL, ← hm] at h2
        omega
      have HLT := Lib.hid (scrS_begin L hmL)
      have HLm : Hid ((L.take m).length = m) := Lib.hid (by rw [List.length_take]; omega)
      have HZ2 : Hid (∀ y ∈ L.take m, y.size ≤ 100000) := Lib.hid fun y hy => hz y (List.mem_of_mem_take hy)
      have HRd := Lib.hid (Reads.of_own hO)
      have HCap := row_cap hO
      have hcl : oc ≤ maxLen := by
        rcases hO.2 with ⟨e, _⟩ | ⟨_, _, _, e, _, _, _, h2, _⟩
        · injection e with _ _ e3
          rw [e3]
          exact Nat.zero_le _
        · injection e with _ _ e3
          rw [e3]
          exact h2
      have HBr := Lib.hid hbr
      have hone : ∀ u ∈ strV L, u.oneCell' = true := strV_one L
      have HOne := Lib.hid hone
      have HO2 := Lib.hid (own_two hO)
      have HZ := Lib.hid hz
      clear hL hm hO hb hsh hR hz hone hbr
      go_wp2_with (at_builtin
                   go_must (refine wpList_append_any _ rfl (.tmp 85) (.tmp 86) _ rfl wr.heap.size 9 i0 _ 1 16 Tryz.underlying24 hi hz0 hz1 hz2 rfl (by omega) (.slice none 0 0) 0 [] rfl (World.ownsRow_nil _ _ _ _) _ O L.length oc (strV L) rfl HRd.out HOne.out (by simp only [maxLen]; omega) (by omega) (Nat.le_refl _) ?_)
                   intro v1 w5 hown1 hg1 _
                   rw [Nat.zero_add, List.nil_append] at hown1
                   obtain ⟨A1, c1, hv1, hr1, hc1, hm1⟩ := own_slice hown1
                   subst hv1
                   have hb5 : Below wr.heap.size wr w5 := ⟨hg1.os, hg1.tape, hg1.output, hg1.size, fun i hi => hg1.block i hi (by intro h; cases h)⟩
                   have HR5 := Lib.hid (HRun.out w5 A1 c1 L (below_two HBr.out hb5) ⟨hr1, hc1, hm1, fun s hs => by have := HZ.out s hs; unfold maxLen; omega⟩ hL40 HZ.out)
                   have HB5 := Lib.hid hb5
                   clear hown1 hg1 hb5 hr1 hc1 hm1 HOne)
      unfold RunGives at HR5
      refine HR5.out.mono ?_
      rintro e w6 ⟨A6, c6, rfl, hr6, hA6, hc6, hb6⟩
      have HB6 := Lib.hid (below_two HB5.out hb6)
      have HR6 := Lib.hid hr6
      have HRc := Lib.hid ((HRd.out.below HB6.out).more HB6.out.size)
      have HRun2 := Lib.hid (HRun.out w6 O oc (L.take m) (below_two HBr.out HB6.out) ⟨by rw [HLm.out, strV_take]; exact reads_take HRc.out hmL, by rw [HLm.out]; omega, by rw [HLm.out]; unfold maxLen; omega, fun s hs => by have := HZ2.out s hs; unfold maxLen; omega⟩ (by rw [HLm.out]; omega) HZ2.out)
      unfold RunGives at HRun2
      rw [HLm.out] at HRun2
      have hlen : (scrS (L.take m)).1.length = m := scrS_len L m hmL
      have HSame : Hid (∀ w7 A7 c7, Below w6.heap.size w6 w7 → Reads w7 w7.heap.size 1 A7 m (strV (scrS (L.take m)).1) → Calls Tryz.prog 11 #[.slice A6 m c6, .slice A7 m c7] w7 (YesQ w7)) := Lib.hid fun w7 A7 c7 hb7 hr7 => by
        have h1 : Reads w7 w7.heap.size 1 A6 m (strV (scrS (L.take m)).1) := by
          rw [← HLT.out, strV_take]
          exact reads_take ((HR6.out.below hb7).more hb7.size) hmL
        have := sameTexts_yes A6 A7 c6 c7 w7.heap.size (scrS (L.take m)).1 w7 (by rw [hlen]; exact h1) (by rw [hlen]; exact hr7) (by rw [hlen]; unfold maxLen; omega)
        rwa [hlen] at this
      have HBall := Lib.hid (below_two HBr.out HB6.out)
      clear hr6 hb6 HR5 HRun HZ HZ2 HRd HRc HB5 HLm HLT HB6 HBr hlen HR6
      go_wp2_with fail
      refine HRun2.out.mono ?_
      rintro e w7 ⟨A7, c7, rfl, hr7, hA7, hc7, hb7⟩
      have HS := Lib.hid (HSame.out w7 A7 c7 hb7 hr7)
      unfold YesQ at HS
      have HB7 := Lib.hid (below_two HBall.out hb7)
      clear hr7 hb7 HRun2 HSame HBall
      go_wp2_with fail
      refine HS.out.mono ?_
      rintro e w8 ⟨rfl, m8, rfl⟩
      have HB8 := Lib.hid (below_drewN HB7.out m8)
      clear HS HB7
      go_wp2
      go_ret
      exact ⟨rfl, HB8.out⟩
theorem sagain_any {ea : Nat → Addr} {A : Option Addr} {cap : Nat} {l : List SLine} {cut : Int} (w : World) (hE : ErrsS ea w) (hW : CarW w) (hG : HandleAt w) (hr : Reads w w.heap.size 3 A l.length (slsC l)) (hm : l.length ≤ maxLen) (hok : ∀ x ∈ l, SLineOk w x) :
    Calls Tryz.prog 5 #[.slice A l.length cap, .int .i64 cut] w (True1 w) := by
  by_cases h : 40 < l.length ∨ cut < 0 ∨ (l.length : Int) < cut
  · exact sagain_skip w hE hW hG hm h
  · obtain ⟨q, rfl⟩ : ∃ q : Nat, cut = (q : Int) := ⟨cut.toNat, by omega⟩
    exact sagain_walk w hE hW hG hr hok (by omega) (by omega)
end Go.Proofs.YthkfhfldoniolaaGreatDoor
