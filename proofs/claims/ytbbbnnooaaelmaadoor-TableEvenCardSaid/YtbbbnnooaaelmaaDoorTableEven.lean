/-
  The law TableEven: its walk.
-/
import Derived.Test.YtbbbnnooaaelmaaDoorEvenPlain
import Derived.Test.YtbbbnnooaaelmaaDoorRefHosts
import Derived.Test.YtbbbnnooaaelmaaDoorLists
import Derived.Test.YtbbbnnooaaelmaaDoorOwn
namespace Go.Proofs.YtbbbnnooaaelmaaDoor
open Go.RowKit

theorem errsT_of {ea : Nat → Addr} {w : World} {gs : List Nat} (h : ErrsAt w ea gs) (h2 : gv 2 ∈ gs) (h3 : gv 3 ∈ gs) (h4 : gv 4 ∈ gs) (h5 : gv 5 ∈ gs) (h6 : gv 6 ∈ gs) : ErrsT ea w :=
  ⟨⟨(h.at_ _ h2).1, (h.at_ _ h4).1, (h.at_ _ h6).1⟩, ⟨(h.at_ _ h2).1, (h.at_ _ h3).1⟩, (h.at_ _ h5).1⟩
theorem info_bool : (Tryd.prog.info? 4).map (fun i => (i.zero, i.size, i.bytes)) = some (some (.bool false), 1, 1) := by kernel_rfl
theorem bools_made (n : Nat) : madeCells (Value.bool false).cells (n * 1) = (List.replicate n (Value.bool false)).toArray := by
  apply Array.ext
  · simp [madeCells]
  · intro i h1 h2
    simp [madeCells, Value.cells, Nat.mod_one]
theorem make_bools (n : Nat) (hn : n ≤ 1000) (W : World) :
    (Instr.makeSlice 33 (.int .i64 (n : Int)) (.int .i64 (n : Int))).run Tryd.prog W = .ok (.slice (some ⟨W.heap.size, 0, none⟩) n n) (W.alloc (.cells (List.replicate n (Value.bool false)).toArray 4)) := by
  obtain ⟨i0, hi, hz0, hz1, hz2⟩ := info_parts info_bool
  have h := run_make_rowN (P := Tryd.prog) 33 4 i0 (.bool false) Tryd.underlying33 hi hz0 .i64 .i64 n n (Nat.le_refl _) (by rw [hz2]; omega) (by omega) W
  rw [hz1, bools_made] at h
  exact h
def CellOn (w : World) (p : Addr) (v : Value) : Prop := ∀ W, Below w.heap.size w W → W.cell? p = some v
theorem ints_on {w : World} {g n i : Nat} {xs : List Int} (hr : Reads w w.heap.size 1 (some ⟨g, 0, none⟩) n (xs.map intV)) {x : Int} (hi : i < n) (hx : xs[i]? = some x) : CellOn w ⟨g, i, none⟩ (.int .i64 x) := by
  intro W hW
  obtain ⟨ad, u, hA, hb, hu, hc⟩ := hr.at_ hi
  obtain rfl := Option.some.inj hA
  have e : ((⟨g, 0, none⟩ : Addr).add i) = ⟨g, i, none⟩ := by
    by_cases h0 : i = 0
    · subst h0; rfl
    · simp [Addr.add, h0]
  rw [e] at hc
  rw [hW.cell (by exact hb), hc]
  rw [List.getElem?_map, hx] at hu
  exact hu.symm
theorem even_at {w w2 : World} {l o : List ByteArray} {n i g g2 : Nat} (hi : i < n) (hr : Reads w w.heap.size 1 (some ⟨g, 0, none⟩) n ((slotsI l n).map intV)) (hr2 : Reads w2 w2.heap.size 1 (some ⟨g2, 0, none⟩) n ((slotsI o n).map intV))
    (h1 : ∃ j : Nat, (slotsI l n)[i]? = some (j : Int) ∧ j < l.length ∧ l[j]? = some (hostAt l n i)) (h2 : ∃ j : Nat, (slotsI o n)[i]? = some (j : Int) ∧ j < o.length ∧ o[j]? = some (hostAt l n i)) :
    ∃ (j j' : Nat) (s : ByteArray), j < l.length ∧ j' < o.length ∧ l[j]? = some s ∧ o[j']? = some s ∧ CellOn w ⟨g, i, none⟩ (.int .i64 (j : Int)) ∧ CellOn w2 ⟨g2, i, none⟩ (.int .i64 (j' : Int)) := by
  obtain ⟨j, a1, a2, a3⟩ := h1
  obtain ⟨j', b1, b2, b3⟩ := h2
  exact ⟨j, j', _, a2, b2, a3, b3, ints_on hr hi a1, ints_on hr2 hi b1⟩
theorem count_on {w : World} {g m i : Nat} {xs : List Nat} (hB : Blk w g 3 (numsV (countsL m xs)).toArray) (hi : i < m) (hl : xs.length ≤ 1000) : ∃ ct : Nat, ct = xs.count i ∧ ct ≤ 1000 ∧ CellOn w ⟨g, i, none⟩ (.int .i64 (ct : Int)) :=
  ⟨_, rfl, Nat.le_trans List.count_le_length hl, fun _ hW => ((hB.below hW hB.lt).cell i).trans (countsL_get xs hi)⟩
theorem row_on {w : World} {g n i : Nat} {s : ByteArray} (hn : 2 ≤ n) (hB : Blk w g 3 ((List.range n).map fun i => Value.int .i64 (rowAt s n i : Int)).toArray) (hi : i < n) : ∃ p : Nat, p < n ∧ Hid (p = rowAt s n i) ∧ CellOn w ⟨g, i, none⟩ (.int .i64 (p : Int)) :=
  ⟨_, rowAt_lt s i hn, Lib.hid rfl, fun _ hW => ((hB.below hW hB.lt).cell i).trans (by simp [hi])⟩
theorem even_ways (lg : Bool) (by_ : Int) (m : Nat) (h : lg = true ∨ by_ < 0 ∨ (m : Int) < by_) : (lg = true) ∨ (lg = false ∧ decide (by_ < 0) = true) ∨ (lg = false ∧ decide (by_ < 0) = false ∧ decide (by_ > (m : Int)) = true) := by
  cases lg <;> simp only [decide_eq_true_eq, decide_eq_false_iff_not] <;> simp <;> simp at h <;> omega
set_option maxRecDepth 100000 in
set_option maxHeartbeats 2000000 in
theorem even_skip (ea : Nat → Addr) (A : Option Addr) (c : Nat) (l : List ByteArray) (size by_ : Int) (w : World) (hE : ErrsT ea w) (hI : TxIn w A c l) (h : longH l = true ∨ by_ < 0 ∨ (l.length : Int) < by_) :
    Calls Tryd.prog 3 #[.slice A l.length c, .int .i64 size, .int .i64 by_] w (True1 w) := by
  have hm := hI.lm
  unfold maxLen at hm
  have HL : Hid (∀ W, Below w.heap.size w W → Calls Tryd.prog 13 #[.slice A l.length c] W (LongIs (longH l) W)) :=
    Lib.hid fun W hW => longHosts_any A c W.heap.size l W (hI.below hW).r hI.lm hI.s
  have HW := Lib.hid (tabled_any ea w hE)
  have hways := even_ways (longH l) by_ l.length h
  generalize longH l = lg at *
  clear hE hI h
  rcases hways with rfl | ⟨rfl, t1⟩ | ⟨rfl, t1, t2⟩
  all_goals
    go_enter Tryd.func3, Tryd.ntmps3
    go_wp2_with fail
    refine HW.out.mono ?_
    rintro e w1 ⟨rfl, hb1⟩
    go_wp2_with fail
    refine (HL.out _ hb1).mono ?_
    rintro e w2 ⟨rfl, rfl⟩
    go_wp2
    go_ret
    exact ⟨rfl, hb1⟩
set_option maxRecDepth 100000 in
set_option maxHeartbeats 2000000 in
theorem even_bad (ea : Nat → Addr) (A : Option Addr) (c : Nat) (l : List ByteArray) (size : Int) (k : Nat) (f : Flt) (w : World) (hE : ErrsT ea w) (hI : TxIn w A c l) (hL : longH l = false) (hk : k ≤ l.length) (hf : tableFault l size = some f) :
    Calls Tryd.prog 3 #[.slice A l.length c, .int .i64 size, .int .i64 (k : Int)] w (True1 w) := by
  obtain ⟨hl30, _⟩ := long_no hL
  have HL : Hid (∀ W, Below w.heap.size w W → Calls Tryd.prog 13 #[.slice A l.length c] W (LongIs false W)) :=
    Lib.hid fun W hW => by rw [← hL]; exact longHosts_any A c W.heap.size l W (hI.below hW).r hI.lm hI.s
  have HW := Lib.hid (tabled_any ea w hE)
  have t1 : decide ((k : Int) < 0) = false := by simp
  have t2 : decide ((k : Int) > l.length) = false := by simp; omega
  have HM : Hid (∀ W A' c', Below w.heap.size w W → TxIn W A' c' l → Calls Tryd.prog 14 #[.slice A' l.length c', .int .i64 size] W (SortedBad ea f W)) := Lib.hid fun W A' c' hW hT => make_bad ea A' c' l size f W (hE.below hW) hT hf
  have HI := Lib.hid hI
  clear hE hI hL hf
  go_enter Tryd.func3, Tryd.ntmps3
  go_wp2_with fail
  refine HW.out.mono ?_
  rintro e w1 ⟨rfl, hb1⟩
  go_wp2_with fail
  refine (HL.out _ hb1).mono ?_
  rintro e w2 ⟨rfl, rfl⟩
  go_wp2_with fail
  refine (ownTexts_any A l.length c w1.heap.size (strV l) w1 (HI.out.below hb1).r str_one (by omega)).mono ?_
  rintro e w2 ⟨A', c', rfl, ho2, hb2⟩
  have hb12 := below_two hb1 hb2
  have hT2 : TxIn w2 A' c' l := ⟨Reads.of_own ho2, own_ncap2 ho2, HI.out.lm, HI.out.s⟩
  clear ho2
  go_wp2_with fail
  refine (HM.out _ _ _ hb12 hT2).mono ?_
  rintro e w3 ⟨t, a, rfl, _, hb3⟩
  have hb13 := below_two hb12 hb3
  go_wp2
  go_ret
  exact ⟨rfl, hb13⟩
set_option maxRecDepth 100000 in
set_option maxHeartbeats 2000000 in
theorem even_good (ea : Nat → Addr) (A : Option Addr) (c : Nat) (l : List ByteArray) (n k : Nat) (w : World) (hE : ErrsT ea w) (hI : TxIn w A c l) (hcm : c ≤ maxLen) (hL : longH l = false) (hk : k ≤ l.length) (hf : tableFault l (n : Int) = none) :
    Calls Tryd.prog 3 #[.slice A l.length c, .int .i64 (n : Int), .int .i64 (k : Int)] w (True1 w) := by
  obtain ⟨hl30, _⟩ := long_no hL
  obtain ⟨i0, hi0, hz0, hz1, hz2⟩ := info_parts info_string
  have HL : Hid (∀ W, Below w.heap.size w W → Calls Tryd.prog 13 #[.slice A l.length c] W (LongIs false W)) :=
    Lib.hid fun W hW => by rw [← hL]; exact longHosts_any A c W.heap.size l W (hI.below hW).r hI.lm hI.s
  have HW := Lib.hid (tabled_any ea w hE)
  have t1 : decide ((k : Int) < 0) = false := by simp
  have t2 : decide ((k : Int) > l.length) = false := by simp; omega
  obtain ⟨h0, ho, nn, hnn, hn2, hn5, hd⟩ := tableFault_none hf
  obtain rfl : n = nn := by omega
  obtain ⟨h12, hnm, hnd⟩ := hostsFault_none.1 ho
  have HM : Hid (∀ W A' c', Below w.heap.size w W → TxIn W A' c' l → Calls Tryd.prog 14 #[.slice A' l.length c', .int .i64 (n : Int)] W fun e w' => ∃ g, e = .returned (.tuple #[.slice (some ⟨g, 0, none⟩) n n, .nilIface]) ∧ Reads w' w'.heap.size 1 (some ⟨g, 0, none⟩) n ((slotsI l n).map intV) ∧ Below W.heap.size W w') :=
    Lib.hid fun W A' c' hW hT => (make_good ea A' c' l n W (hE.below hW) hT hf).mono fun e w' ⟨g, he, hB, _, hb⟩ => ⟨g, he, by
      have := blk_reads hB
      rwa [tableOf_length, tableOf_ints] at this, hb⟩
  have hnone := slots_none h0 h12 hn2 hd
  have HC : Hid (∀ W g, Below w.heap.size w W → Reads W W.heap.size 1 (some ⟨g, 0, none⟩) n ((slotsI l n).map intV) → Calls Tryd.prog 16 #[.slice (some ⟨g, 0, none⟩) n n, .int .i64 (l.length : Int)] W (CountsGood (slotsI l n) l.length W)) := Lib.hid fun W g hW hr => by
    have hle := slotsI_length l n
    have := counts_any ea (some ⟨g, 0, none⟩) n (slotsI l n) (l.length : Int) W (hE.below hW) (by rw [hle]; exact hr) (by omega)
    rw [hle] at this
    refine this.mono fun e w' h => ?_
    unfold CountsPost at h
    rw [hnone] at h
    exact h
  have HEv := Lib.hid (fun j (hj : j < l.length) => slots_even (n := n) hnd hn2 hd hj)
  have HH := Lib.hid (fun i (hi : i < n) => slots_host h0 hn2 hd hi)
  obtain ⟨o, ho2⟩ : ∃ o : List ByteArray, o = l.drop k ++ l.take k := ⟨_, rfl⟩
  have hop : l.Perm o := by
    have h : (l.take k ++ l.drop k).Perm (l.drop k ++ l.take k) := List.perm_append_comm
    rw [List.take_append_drop] at h
    rw [ho2]; exact h
  have hool : o.length = l.length := hop.length_eq.symm
  have hfo : tableFault o (n : Int) = none := by
    unfold tableFault at hf ⊢
    rw [if_neg (by omega)] at hf ⊢
    rw [ho] at hf
    rw [hosts_perm2 hop ho]; exact hf
  have HMo : Hid (∀ W A' c', Below w.heap.size w W → Reads W W.heap.size 1 A' o.length (strV o) → o.length ≤ c' → Calls Tryd.prog 14 #[.slice A' o.length c', .int .i64 (n : Int)] W fun e w' => ∃ g, e = .returned (.tuple #[.slice (some ⟨g, 0, none⟩) n n, .nilIface]) ∧ Reads w' w'.heap.size 1 (some ⟨g, 0, none⟩) n ((slotsI o n).map intV) ∧ Below W.heap.size W w') :=
    Lib.hid fun W A' c' hW hr hc => (make_good ea A' c' o n W (hE.below hW) ⟨hr, hc, by rw [hool]; exact hI.lm, fun s hs => hI.s s (hop.mem_iff.2 hs)⟩ hfo).mono fun e w' ⟨g, he, hB, _, hb⟩ => ⟨g, he, by
      have := blk_reads hB
      rwa [tableOf_length, tableOf_ints] at this, hb⟩
  have HHo := Lib.hid (fun i (hi : i < n) => (show ∃ j : Nat, (slotsI o n)[i]? = some (j : Int) ∧ j < o.length ∧ o[j]? = some (hostAt l n i) from by
    rw [hostAt_perm hop n i]
    exact slots_host (by omega) hn2 hd hi))
  have hx0 : isName l[0] = true := hnm _ (List.getElem_mem h0)
  have hsz0 := hI.s _ (List.getElem_mem h0)
  have HRow : Hid (∀ W, Below w.heap.size w W → Calls Tryd.prog 17 #[.string l[0], .int .i64 (n : Int)] W (RowGood l[0] n W)) := Lib.hid fun W hW => row_ok ea l[0] n W hsz0 (hE.below hW) hx0 (by
    unfold sizeFault
    rw [if_neg (by omega), if_pos (by simpa using hd)]) hn2 hn5
  have HOE : Hid (strV o = (strV l).drop (k * 1) ++ (strV l).take (k * 1)) := Lib.hid (by rw [ho2]; simp [strV, List.map_take, List.map_drop])
  have HOL : Hid (o.length = (l.length - k) + k) := Lib.hid (by omega)
  have HOo := Lib.hid hool
  obtain ⟨ad, hA, hSt⟩ := strAt_of hI.r h0
  subst hA
  have HSt := Lib.hid hSt
  have HI := Lib.hid hI
  have HR1 : Hid (∀ W, Below w.heap.size w W → Reads W W.heap.size 1 (some ad) k ((strV l).take (k * 1))) := Lib.hid fun W hW => ((hI.below hW).r).take2 hk
  have HO1' := Lib.hid (fun u (hu : u ∈ (strV l).take (k * 1)) => str_one u (List.mem_of_mem_take hu))
  have HO2' := Lib.hid (fun u (hu : u ∈ (strV l).drop (k * 1)) => str_one u (List.mem_of_mem_drop hu))
  have HR2 : Hid (∀ W, Below w.heap.size w W → Reads W W.heap.size 1 (if c = k then some ad else some (ad.add k)) (l.length - k) ((strV l).drop (k * 1))) := Lib.hid fun W hW => by
    have := ((hI.below hW).r).cut (k := k) hk hI.lc
    simpa using this
  have hlc := hI.lc
  unfold maxLen at hcm
  have hkl2 : (k : Int) ≤ l.length := by omega
  have hkc : (k : Int) ≤ c := by omega
  have HSN := Lib.hid (fun (s : ByteArray) (i p : Nat) (hi : i < n) (hp : rowAt s n i = p) => seenV_get hn2 hd hi hp)
  have HSLen := Lib.hid (slotsI_length l n)
  have hmkb := make_bools n (by omega)
  obtain ⟨x0, hx0⟩ : ∃ x0 : ByteArray, x0 = l[0] := ⟨_, rfl⟩
  rw [← hx0] at HRow HSt
  have hl0 : (0 : Int) < l.length := by omega
  have hne0 : ¬ l.length = 0 := by omega
  clear hE hI hL hf ho hnm hnd hd hnone ho2 hop hool hfo hsz0 hSt hx0
  go_enter Tryd.func3, Tryd.ntmps3
  go_wp2_with fail
  refine HW.out.mono ?_
  rintro e w1 ⟨rfl, hb1⟩
  go_wp2_with fail
  refine (HL.out _ hb1).mono ?_
  rintro e w2 ⟨rfl, rfl⟩
  go_wp2_with fail
  refine (ownTexts_any (some ad) l.length c w1.heap.size (strV l) w1 (HI.out.below hb1).r str_one (by omega)).mono ?_
  rintro e w2 ⟨A', c', rfl, ho2, hb2⟩
  have hb12 := below_two hb1 hb2
  have hT2 : TxIn w2 A' c' l := ⟨Reads.of_own ho2, own_ncap2 ho2, HI.out.lm, HI.out.s⟩
  clear ho2
  go_wp2_with fail
  refine (HM.out _ _ _ hb12 hT2).mono ?_
  rintro e w3 ⟨g3, rfl, hR3, hb3⟩
  have hb13 := below_two hb12 hb3
  have HR3 := Lib.hid hR3
  clear hR3 hT2
  go_wp2_with fail
  refine (HC.out _ _ hb13 HR3.out).mono ?_
  rintro e w4 ⟨g4, rfl, hB4, _, hb4⟩
  have hb14 := below_two hb13 hb4
  have HCt := Lib.hid (fun i (hi : i < l.length) => count_on hB4 hi (by simp; have := HSLen.out; omega))
  clear hB4
  go_wp2_with fail
  go_loopg [11] l.length (fun g iv wr => ∃ i : Nat, g + i = l.length ∧ iv = .int .i64 (i : Int) ∧ Below w4.heap.size w4 wr)
  case atStart => exact ⟨0, by omega, rfl, Below.refl _ _⟩
  case round =>
    obtain ⟨i, hgi, rfl, hb⟩ := hrel
    by_cases hlt : i < l.length
    · have hlt2 : (i : Int) < l.length := by omega
      obtain ⟨ct, hce, hct, hcell⟩ := HCt.out i hlt
      have c0 := hcell wr hb
      obtain ⟨v1, v2⟩ := HEv.out i hlt
      rw [← hce] at v1 v2
      obtain ⟨qa, hqa⟩ : ∃ qa : Nat, qa = n / l.length := ⟨_, rfl⟩
      obtain ⟨qc, hqc⟩ : ∃ qc : Nat, qc = n + l.length - 1 := ⟨_, rfl⟩
      obtain ⟨qb, hqb⟩ : ∃ qb : Nat, qb = qc / l.length := ⟨_, rfl⟩
      have hqa2 : qa ≤ n := by rw [hqa]; exact Nat.div_le_self _ _
      have hqb2 : qb ≤ qc := by rw [hqb]; exact Nat.div_le_self _ _
      rw [← hqc, ← hqb] at v2
      rw [← hqa] at v1
      have e1 : IntKind.i64.wrap ((n : Int).tdiv (l.length : Int)) = (qa : Int) := by
        rw [Int.tdiv_eq_ediv_of_nonneg (by omega), show (n : Int) / (l.length : Int) = ((n / l.length : Nat) : Int) from rfl, ← hqa]
        exact IntWalk.i64_in _ (by omega)
      have e2 : IntKind.i64.wrap ((n : Int) + (l.length : Int)) = (n : Int) + (l.length : Int) := IntWalk.i64_in _ (by omega)
      have e3 : IntKind.i64.wrap ((n : Int) + (l.length : Int) - 1) = (qc : Int) := by rw [IntWalk.i64_in _ (by omega)]; omega
      have e4 : IntKind.i64.wrap ((qc : Int).tdiv (l.length : Int)) = (qb : Int) := by
        rw [Int.tdiv_eq_ediv_of_nonneg (by omega), show (qc : Int) / (l.length : Int) = ((qc / l.length : Nat) : Int) from rfl, ← hqb]
        exact IntWalk.i64_in _ (by omega)
      have e1c : (n : Int) / (l.length : Int) = (qa : Int) := by rw [show (n : Int) / (l.length : Int) = ((n / l.length : Nat) : Int) from rfl, ← hqa]
      have e4c : (qc : Int) / (l.length : Int) = (qb : Int) := by rw [show (qc : Int) / (l.length : Int) = ((qc / l.length : Nat) : Int) from rfl, ← hqb]
      have e5 : IntKind.i64.wrap (qa : Int) = (qa : Int) := IntWalk.i64_in _ (by omega)
      have e6 : IntKind.i64.wrap (qb : Int) = (qb : Int) := IntWalk.i64_in _ (by omega)
      have e7 : (n : Int) + (l.length : Int) - 1 = (qc : Int) := by omega
      have u1b : decide (ct < qa) = false := by simp only [decide_eq_false_iff_not]; omega
      have u2b : decide (qb < ct) = false := by simp only [decide_eq_false_iff_not]; omega
      have u1 : decide ((ct : Int) < (qa : Int)) = false := by simp only [decide_eq_false_iff_not]; omega
      have u2 : decide ((ct : Int) > (qb : Int)) = false := by simp only [decide_eq_false_iff_not]; omega
      have hli : ¬ (l.length : Int) = 0 := by omega
      clear hce hcell v1 v2 hqa hqb hqc
      go_wp2_with fail
      go_quiet (fail)
      go_wp2_with fail
      go_roundg (l.length - (i + 1))
      case rel => exact ⟨i + 1, by omega, by go_num, below_drewN hb _⟩
      case measure => omega
    · obtain rfl : i = l.length := by omega
      have hge : ¬ (l.length : Int) < l.length := by omega
      have hb1r := below_two hb14 hb
      have hb3r := below_two hb4 hb
      have HB1r := Lib.hid hb1r
      have HB3r := Lib.hid hb3r
      clear hb1 hb2 hb12 hb3 hb13 hb4 hb14 hb hb1r hb3r
      obtain ⟨wo, rfl⟩ : ∃ wo : World, wo = wr := ⟨_, rfl⟩
      go_wp2_with (first
        | (at_builtin
           refine wpList_append_any _ rfl (.tmp 99) (.tmp 102) _ rfl wo.heap.size 9 i0 _ 1 16 Tryd.underlying22 hi0 hz0 hz1 hz2 rfl (by omega) (.slice none 0 0) 0 [] rfl (own_none _ _ _) wo.heap.size _ (l.length - k) (c - k) _ rfl (HR2.out _ HB1r.out) HO2'.out (by simp only [maxLen]; omega) (by omega) (Nat.le_refl _) ?_
           intro v1 w7 hown1 hg1 _
           simp only [Nat.zero_add, List.nil_append] at hown1
           have hz7 := hg1.size
           have hb67 := (Below.refl wo.heap.size wo).grown hg1 (Nat.le_refl _) (by simp [Value.ownBlock])
           have hb7 := below_two HB1r.out hb67
           have HO7 := Lib.hid hown1
           clear hown1 hg1)
        | (at_builtin
           go_must (refine wpList_append_any _ rfl (.tmp 104) (.tmp 107) _ rfl wo.heap.size 9 i0 _ 1 16 Tryd.underlying22 hi0 hz0 hz1 hz2 rfl (by omega) _ (l.length - k) _ rfl HO7.out w7.heap.size (some ad) k c _ rfl (HR1.out _ hb7) HO1'.out (by simp only [maxLen]; omega) (by omega) hz7 ?_)
           intro v2 w8 hown2 hg2 _
           rw [← HOL.out, ← HOE.out] at hown2
           have hb68 := below_app hb67 HO7.out hg2
           have hb8 := below_two HB1r.out hb68
           obtain ⟨A8, c8, hv8, hr8, hc8, _⟩ := own_slice hown2
           subst hv8
           have HR8 := Lib.hid hr8
           clear hown2 hg2 hr8)
        | fail)
      all_goals
        refine (HMo.out _ _ _ hb8 HR8.out hc8).mono ?_
        rintro e w9 ⟨g9, rfl, hR9, hb9⟩
        have hb19 := below_two hb8 hb9
        have hb39 := below_two (below_two HB3r.out hb68) hb9
        have HR9 := Lib.hid hR9
        have HR8b := Lib.hid ((HR8.out.below hb9).more hb9.size)
        clear hR9 hb9 hb8 hb67 hb68 hb7 hz7 hc8
        go_wp2_with fail
        go_loopg [14] n (fun g iv wq => ∃ i : Nat, g + i = n ∧ iv = .int .i64 (i : Int) ∧ Below w9.heap.size w9 wq)
        case atStart => exact ⟨0, by omega, rfl, Below.refl _ _⟩
        case round =>
          obtain ⟨i, hgi, rfl, hb⟩ := hrel
          have hb1z := below_two hb19 hb
          by_cases hlt : i < n
          · have hlt2 : (i : Int) < n := by omega
            obtain ⟨j, j', s, hj, hj', hls, hos, cx, cy⟩ := even_at hlt HR3.out HR9.out (HH.out i hlt) (HHo.out i hlt)
            have c0 := cx wr (below_two hb39 hb)
            have c1 := cy wr hb
            obtain ⟨ad2, hA2, hS⟩ := strAt_of (HI.out.below hb1z).r hj
            obtain rfl := Option.some.inj hA2
            obtain ⟨ad8, rfl, hS8⟩ := strAt_of ((HR8b.out.below hb).more hb.size) hj'
            rw [(List.getElem?_eq_some_iff.1 hls).2] at hS
            rw [(List.getElem?_eq_some_iff.1 hos).2] at hS8
            have c2 := hS wr (Below.refl _ _)
            have c3 := hS8 wr (Below.refl _ _)
            have q1 : (s.toList == s.toList) = true := by simp
            have hjl : (j : Int) < l.length := by omega
            have hjo : (j' : Int) < o.length := by omega
            clear cx cy hls hos hS hS8 hA2
            go_wp2_with fail
            go_quiet (fail)
            go_wp2_with fail
            go_roundg (n - (i + 1))
            case rel => exact ⟨i + 1, by omega, by go_num, below_drewN hb _⟩
            case measure => omega
          · obtain rfl : i = n := by omega
            have hge2 : ¬ (i : Int) < i := by omega
            have hz : ad.add 0 = ad := by simp [Addr.add]
            have c0 := HSt.out wr hb1z
            rw [hz] at c0
            have HRw := Lib.hid (HRow.out wr hb1z)
            have HB1z := Lib.hid hb1z
            clear hz hb1z
            go_wp2_with fail
            refine HRw.out.mono ?_
            rintro e w10 ⟨g10, rfl, hB10, _, hb10⟩
            have HRo := Lib.hid (fun q (hq : q < i) => row_on hn2 hB10 hq)
            have HB1t := Lib.hid (below_two HB1z.out hb10)
            have hBs : Blk (w10.alloc (.cells (List.replicate i (Value.bool false)).toArray 4)) w10.heap.size 4 (seenV x0 i 0).toArray := by rw [seenV_start]; exact Blk.new _ _ _
            have hbs : Below w10.heap.size w10 (w10.alloc (.cells (List.replicate i (Value.bool false)).toArray 4)) := (Below.refl _ _).alloc (Nat.le_refl _) _
            have HBs := Lib.hid hBs
            have HBb := Lib.hid hbs
            clear hB10 hBs hbs hb10 hb hb19 hb39
            go_wp2_with fail
            go_loopg [17] i (fun g iv wq => ∃ q : Nat, g + q = i ∧ iv = .int .i64 (q : Int) ∧ Hid (Blk wq w10.heap.size 4 (seenV x0 i q).toArray) ∧ Below w10.heap.size w10 wq)
            case atStart => exact ⟨0, by omega, rfl, HBs, HBb.out⟩
            case round =>
              obtain ⟨q, hgq, rfl, hB, hb⟩ := hrel
              by_cases hlt3 : q < i
              · have hlt4 : (q : Int) < i := by omega
                obtain ⟨p, hp, hpe, hcell⟩ := HRo.out q hlt3
                have c5 := hcell wr hb
                have c6 := (hB.out.cell p).trans (HSN.out x0 q p hlt3 hpe.out.symm)
                have c7 := hB.out.frozen p
                have u1 : decide ((p : Int) < 0) = false := by simp
                have u2 : decide ((p : Int) ≥ (i : Int)) = false := by simp; omega
                have hpi : (p : Int) < i := by omega
                have hB2 := hB.out.set_ p (.bool true)
                rw [seenV_set hpe.out.symm] at hB2
                have HB2 := Lib.hid hB2
                have hb2 := hb.setCell (p := ⟨w10.heap.size, p, none⟩) (Nat.le_refl _) (.bool true)
                clear hB2 hcell hpe
                go_wp2_with fail
                go_roundg (i - (q + 1))
                case rel => exact ⟨q + 1, by omega, by go_num, HB2, hb2⟩
                case measure => omega
              · obtain rfl : q = i := by omega
                have hge3 : ¬ (q : Int) < q := by omega
                have HFin := Lib.hid (below_two HB1t.out hb)
                clear hB
                go_wp2
                go_ret
                exact ⟨rfl, HFin.out⟩
theorem tableEven_args (ea : Nat → Addr) (A : Option Addr) (c : Nat) (l : List ByteArray) (size by_ : Int) (w : World) (hE : ErrsT ea w) (R0 : Reads w w.heap.size 1 A l.length (l.map Value.string)) (lc0 : l.length ≤ c) (cm0 : c ≤ maxLen) (wf0 : ∀ s ∈ l, s.size ≤ maxLen) :
    Calls Tryd.prog 3 #[.slice A l.length c, .int .i64 size, .int .i64 by_] w (True1 w) := by
  have hI : TxIn w A c l := ⟨R0, lc0, Nat.le_trans lc0 cm0, wf0⟩
  by_cases hs : longH l = true ∨ by_ < 0 ∨ (l.length : Int) < by_
  · exact even_skip ea A c l size by_ w hE hI hs
  simp only [not_or, Bool.not_eq_true] at hs
  obtain ⟨k, rfl⟩ := Int.eq_ofNat_of_zero_le (by omega : 0 ≤ by_)
  cases hf : tableFault l size with
  | some f => exact even_bad ea A c l size k f w hE hI hs.1 (by omega) hf
  | none =>
    obtain ⟨_, _, n, rfl, _, _, _⟩ := tableFault_none hf
    exact even_good ea A c l n k w hE hI cm0 hs.1 (by omega) hf
end Go.Proofs.YtbbbnnooaaelmaaDoor
