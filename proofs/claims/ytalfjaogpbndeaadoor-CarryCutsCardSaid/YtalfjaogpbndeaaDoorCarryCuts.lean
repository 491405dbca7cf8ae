/-
  The law CarryCuts: its walk.
-/
import Derived.Test.YtalfjaogpbndeaaDoorCarried
import Derived.Test.YtalfjaogpbndeaaDoorOwnFlows
import Derived.Test.YtalfjaogpbndeaaDoorArgFlows
import Derived.Lib.ConvBytes
import Derived.Laws.IdiomStrings
namespace Go.Proofs.YtalfjaogpbndeaaDoor
open Go.RowKit

theorem cut_read {ep : Int} {L : List Fl} (hc : checkOf ep L = none) {n : Nat} (h : n < (textOf ep L).length) : ∃ f, readOf ((textOf ep L).take n) = .bad f := by
  cases hr : readOf ((textOf ep L).take n) with
  | bad f => exact ⟨f, rfl⟩
  | good e2 L2 =>
    obtain ⟨h1, h2, _⟩ := read_good hr
    have h3 := cut_none (checkOf_none hc) (checkOf_none h2) (z := (textOf ep L).drop n) (by rw [← h1, List.take_append_drop])
    have := congrArg List.length h3
    simp at this
    omega
theorem turn_read {ep : Int} {L : List Fl} {i : Nat} {y : UInt8} (h : i < (textOf ep L).length) (hy : (textOf ep L)[i] ≠ y) : ∃ f, readOf ((textOf ep L).set i y) = .bad f := by
  cases hr : readOf ((textOf ep L).set i y) with
  | bad f => exact ⟨f, rfl⟩
  | good e2 L2 =>
    obtain ⟨h1, _, _⟩ := read_good hr
    refine absurd (turn_none (e := ep) (L := L) (p := (textOf ep L).take i) (r := (textOf ep L).drop (i + 1)) (x := (textOf ep L)[i]) (y := y) ?_ (h1.symm.trans ?_)) hy
    · rw [← List.drop_eq_getElem_cons h, List.take_append_drop]
    · rw [List.set_eq_take_append_cons_drop, if_pos h]
theorem xor_ne {a b : UInt8} (h : b ≠ 0) : a ≠ a ^^^ b := by
  intro e
  have h1 : a ^^^ (a ^^^ b) = b := by rw [← UInt8.xor_assoc, UInt8.xor_self, UInt8.zero_xor]
  rw [← e, UInt8.xor_self] at h1
  exact h h1.symm
theorem xor_bits (a b : UInt8) : bits .xor .u8 (a.toNat : Int) (b.toNat : Int) = ((a ^^^ b).toNat : Int) := by
  have h : a.toNat ^^^ b.toNat < 256 := by
    have := (a ^^^ b).toNat_lt
    rwa [UInt8.toNat_xor] at this
  have h2 : IntKind.u8.wrap ((a.toNat ^^^ b.toNat : Nat) : Int) = ((a.toNat ^^^ b.toNat : Nat) : Int) := by
    generalize a.toNat ^^^ b.toNat = n at *
    simp [IntKind.wrap, IntKind.bits, IntKind.signed]
    omega
  have ha := a.toNat_lt
  have hb := b.toNat_lt
  rw [UInt8.toNat_xor]
  have e1 : BitVec.ofInt 8 (a.toNat : Int) = BitVec.ofNat 8 a.toNat := by simp
  have e2 : BitVec.ofInt 8 (b.toNat : Int) = BitVec.ofNat 8 b.toNat := by simp
  have e3 : (BitVec.ofNat 8 a.toNat ^^^ BitVec.ofNat 8 b.toNat : BitVec 8).toNat = a.toNat ^^^ b.toNat := by
    rw [BitVec.toNat_xor, BitVec.toNat_ofNat, BitVec.toNat_ofNat, Nat.mod_eq_of_lt (by omega), Nat.mod_eq_of_lt (by omega)]
  simp only [bits, IntKind.bits, e1, e2]
  show IntKind.u8.wrap (((BitVec.ofNat 8 a.toNat ^^^ BitVec.ofNat 8 b.toNat : BitVec 8).toNat : Nat) : Int) = _
  rw [e3]
  exact h2
def OwnB (L : List Fl) (w : World) (e : Ending) (w' : World) : Prop := ∃ A cap, e = .returned (.slice A L.length cap) ∧ Reads w' w'.heap.size 3 A L.length (flsC L) ∧ Below w.heap.size w w'
theorem ownB_any (A : Option Addr) (cap B : Nat) (L : List Fl) (w : World) (hr : Reads w B 3 A L.length (flsC L)) (hB : B ≤ w.heap.size) (hl : L.length ≤ 1000) :
    Calls Tryd.prog 18 #[.slice A L.length cap] w (OwnB L w) := by
  refine (ownFlows_any A cap B L w hr hB hl).mono fun e w' ⟨v, x, y, z⟩ => ?_
  obtain ⟨A2, c2, rfl, h2, _⟩ := own_slice y
  exact ⟨A2, c2, x, h2, z.os, z.tape, z.output, z.size, fun i hi => z.block i hi (by simp)⟩
theorem skip_ways {lf : Bool} {cut at_ : Int} {b : UInt8} (h : lf = true ∨ cut < 0 ∨ at_ < 0 ∨ b = 0) : lf = true ∨ (lf = false ∧ decide (cut < 0) = true) ∨ (lf = false ∧ decide (cut < 0) = false ∧ decide (at_ < 0) = true) ∨ (lf = false ∧ decide (cut < 0) = false ∧ decide (at_ < 0) = false ∧ (b.toNat : Int) = 0) := by
  simp only [decide_eq_true_eq, decide_eq_false_iff_not]
  cases lf with
  | true => exact .inl rfl
  | false =>
    rcases h with h | h | h | h
    · cases h
    · exact .inr (.inl ⟨rfl, h⟩)
    · by_cases h1 : cut < 0
      · exact .inr (.inl ⟨rfl, h1⟩)
      · exact .inr (.inr (.inl ⟨rfl, h1, h⟩))
    · by_cases h1 : cut < 0
      · exact .inr (.inl ⟨rfl, h1⟩)
      · by_cases h2 : at_ < 0
        · exact .inr (.inr (.inl ⟨rfl, h1, h2⟩))
        · exact .inr (.inr (.inr ⟨rfl, h1, h2, by rw [h]; rfl⟩))
set_option maxRecDepth 100000 in
set_option maxHeartbeats 1000000 in
theorem cuts_skip (ea : Nat → Addr) (ep : Int) (A : Option Addr) (c : Nat) (xs : List Fl) (cut at_ : Int) (b : UInt8) (w : World) (hW : CarW w) (hE : ErrsK ea w) (hI : FlowsIn w A xs) (h : longF xs = true ∨ cut < 0 ∨ at_ < 0 ∨ b = 0) :
    Calls Tryd.prog 4 #[.int .i64 ep, .slice A xs.length c, .int .i64 cut, .int .i64 at_, .int .u8 (b.toNat : Int)] w (True1 w) := by
  have HC := Lib.hid (carried_any ea w hW hE)
  have HL := Lib.hid (fun W (hw : Below w.heap.size w W) => longFlows_any A c _ xs W (hI.below hw).r hI.m hI.s)
  unfold LongIs at HL
  have hway := skip_ways h
  clear hW hE hI h
  generalize longF xs = lf at *
  rcases hway with rfl | ⟨rfl, d1⟩ | ⟨rfl, d1, d2⟩ | ⟨rfl, d1, d2, d3⟩
  all_goals
    simp only [if_true, if_false, Bool.false_eq_true] at HL
    go_enter Tryd.func4, Tryd.ntmps4
    go_wp2_with fail
    refine HC.out.mono ?_
    rintro e w1 ⟨rfl, hb1⟩
    go_wp2_with fail
    refine (HL.out _ hb1).mono ?_
    rintro e w2 ⟨rfl, rfl⟩
    go_wp2
    go_ret
    exact ⟨rfl, hb1⟩
theorem cuts_in (cut at_ : Int) (b : UInt8) {lf : Bool} (h : ¬ (lf = true ∨ cut < 0 ∨ at_ < 0 ∨ b = 0)) : lf = false ∧ decide (cut < 0) = false ∧ decide (at_ < 0) = false ∧ ¬ (b.toNat : Int) = 0 ∧ b ≠ 0 := by
  simp only [not_or] at h
  obtain ⟨h1, h2, h3, h4⟩ := h
  refine ⟨by simpa using h1, by simpa using h2, by simpa using h3, fun e => h4 ?_, h4⟩
  apply UInt8.toNat_inj.1
  have e0 : (0 : UInt8).toNat = 0 := rfl
  omega
set_option maxRecDepth 100000 in
set_option maxHeartbeats 1000000 in
theorem cuts_err (ea : Nat → Addr) (ep : Int) (A : Option Addr) (c : Nat) (xs : List Fl) (cut at_ : Int) (b : UInt8) (w : World) (hW : CarW w) (hE : ErrsK ea w) (hI : FlowsIn w A xs) (h : ¬ (longF xs = true ∨ cut < 0 ∨ at_ < 0 ∨ b = 0)) {f : Flt} (hf : checkOf ep xs = some f) :
    Calls Tryd.prog 4 #[.int .i64 ep, .slice A xs.length c, .int .i64 cut, .int .i64 at_, .int .u8 (b.toNat : Int)] w (True1 w) := by
  obtain ⟨hlf, d1, d2, d3, _⟩ := cuts_in cut at_ b h
  obtain ⟨hn, _⟩ := longF_no hlf
  have HC := Lib.hid (carried_any ea w hW hE)
  have HL := Lib.hid (fun W (hw : Below w.heap.size w W) => longFlows_any A c _ xs W (hI.below hw).r hI.m hI.s)
  unfold LongIs at HL
  rw [hlf] at HL
  simp only [if_false, Bool.false_eq_true] at HL
  have HO := Lib.hid (fun W (hw : Below w.heap.size w W) => ownB_any A c W.heap.size xs W (hI.below hw).r (Nat.le_refl _) (by omega))
  have HT := Lib.hid (fun W (hw : Below w.heap.size w W) A' c' (hr : Reads W W.heap.size 3 A' xs.length (flsC xs)) => text_any ea ep A' c' W.heap.size xs W (hW.below hw) (hE.below hw) hr (Nat.le_refl _) hI.s hI.u)
  unfold TxPost at HT
  rw [hf] at HT
  clear hW hE hI h hlf hn hf
  go_enter Tryd.func4, Tryd.ntmps4
  go_wp2_with fail
  refine HC.out.mono ?_
  rintro e w1 ⟨rfl, hb1⟩
  go_wp2_with fail
  refine (HL.out _ hb1).mono ?_
  rintro e w2 ⟨rfl, rfl⟩
  go_wp2_with fail
  refine (HO.out _ hb1).mono ?_
  rintro e w2 ⟨A2, c2, rfl, hr2, hb2⟩
  have hb12 := below_two hb1 hb2
  go_wp2_with fail
  refine (HT.out _ hb12 A2 c2 hr2).mono ?_
  rintro e w3 ⟨t, a, rfl, h3, hb3⟩
  have hb13 := below_two hb12 hb3
  clear h3 hr2
  go_wp2
  go_ret
  exact ⟨rfl, hb13⟩
def Bad3 (w : World) (e : Ending) (w' : World) : Prop := ∃ ty ad, e = .returned (.tuple #[.int .i64 0, .slice none 0 0, .iface ty (.pointer (some ad))]) ∧ Below w.heap.size w w'
theorem read_bad3 (ea : Nat → Addr) (s : ByteArray) (l : List UInt8) (w : World) (hW : CarW w) (hE : ErrsK ea w) (hl : s.data.toList = l) (h : ∃ f, readOf l = .bad f) :
    Calls Tryd.prog 25 #[.string s] w (Bad3 w) := by
  obtain ⟨f, hf⟩ := h
  have := read_any ea s w hW hE
  rw [hl, hf] at this
  refine this.mono ?_
  rintro e w' ⟨t, a, h1, _, h3⟩
  exact ⟨t, a, h1, h3⟩
/-- A byte that is turned, as bytes in memory. -/
theorem turned_text (w : World) (t : List UInt8) (j : Nat) (y : UInt8) (hj : j < t.length) (cap : Nat) :
    (convert 63 9 (.slice (some ⟨w.heap.size, 0, none⟩) t.length cap)).run Tryd.prog ((Lib.bytesWorld w 5 ⟨t.toArray⟩).setCell ⟨w.heap.size, j, none⟩ (.int .u8 (y.toNat : Int))) = .ok (.string ⟨(t.set j y).toArray⟩) ((Lib.bytesWorld w 5 ⟨t.toArray⟩).setCell ⟨w.heap.size, j, none⟩ (.int .u8 (y.toNat : Int))) := by
  have hsz : (⟨t.toArray⟩ : ByteArray).size = t.length := by simp [ByteArray.size]
  have hc := fun i (hi : i < t.length) => Lib.bytesWorld_cell w 5 ⟨t.toArray⟩ i (by rw [hsz]; exact hi)
  have h := run_convert_bytes_back (P := Tryd.prog) ((Lib.bytesWorld w 5 ⟨t.toArray⟩).setCell ⟨w.heap.size, j, none⟩ (.int .u8 (y.toNat : Int))) 63 9 5 ⟨w.heap.size, 0, none⟩ cap (t.set j y) Tryd.underlying63 Tryd.underlying5 Tryd.underlying9 (fun i hi => by
    rw [List.length_set] at hi
    rw [add_zero_]
    by_cases hij : j = i
    · subst hij
      rw [World.cell?_setCell_same _ _ _ (hc j hj), List.getElem_set_self]
    · rw [World.cell?_setCell_other _ _ _ _ (show (⟨w.heap.size, j, none⟩ : Addr) ≠ ⟨w.heap.size, i, none⟩ from fun e => hij (by injection e)), hc i hi, List.getElem_set_ne hij]
      simp [List.getD, hi])
  rw [List.length_set] at h
  exact h
theorem bytes_open (w : World) (t : List UInt8) (j : Nat) (hj : j < t.length) : (Lib.bytesWorld w 5 ⟨t.toArray⟩).frozen? ⟨w.heap.size, j, none⟩ = false := by
  have h := Lib.bytesWorld_at_new w 5 ⟨t.toArray⟩
  have hsz : t.length ≤ (Lib.bytesCells w 5 ⟨t.toArray⟩).size := by simp [Lib.bytesCells]
  simp only [World.frozen?, h]
  simp
  omega
theorem bytes_cell (w : World) (t : List UInt8) (j : Nat) (hj : j < t.length) : (Lib.bytesWorld w 5 ⟨t.toArray⟩).cell? ⟨w.heap.size, j, none⟩ = some (.int .u8 (t[j].toNat : Int)) := by
  rw [Lib.bytesWorld_cell w 5 ⟨t.toArray⟩ j (by simpa [ByteArray.size] using hj)]
  simp [List.getD, hj]
set_option maxRecDepth 100000 in
set_option maxHeartbeats 1000000 in
theorem cuts_go (ea : Nat → Addr) (ep : Int) (A : Option Addr) (c : Nat) (xs : List Fl) (cut at_ : Int) (b : UInt8) (w : World) (hW : CarW w) (hE : ErrsK ea w) (hI : FlowsIn w A xs) (h : ¬ (longF xs = true ∨ cut < 0 ∨ at_ < 0 ∨ b = 0)) (hf : checkOf ep xs = none) :
    Calls Tryd.prog 4 #[.int .i64 ep, .slice A xs.length c, .int .i64 cut, .int .i64 at_, .int .u8 (b.toNat : Int)] w (True1 w) := by
  obtain ⟨hlf, d1, d2, d3, hb0⟩ := cuts_in cut at_ b h
  obtain ⟨hn, _⟩ := longF_no hlf
  obtain ⟨k, rfl⟩ := Int.eq_ofNat_of_zero_le (show 0 ≤ cut by simpa using d1)
  obtain ⟨j, rfl⟩ := Int.eq_ofNat_of_zero_le (show 0 ≤ at_ by simpa using d2)
  have HC := Lib.hid (carried_any ea w hW hE)
  have HL := Lib.hid (fun W (hw : Below w.heap.size w W) => longFlows_any A c _ xs W (hI.below hw).r hI.m hI.s)
  unfold LongIs at HL
  rw [hlf] at HL
  simp only [if_false, Bool.false_eq_true] at HL
  have HO := Lib.hid (fun W (hw : Below w.heap.size w W) => ownB_any A c W.heap.size xs W (hI.below hw).r (Nat.le_refl _) (by omega))
  have HT := Lib.hid (fun W (hw : Below w.heap.size w W) A' c' (hr : Reads W W.heap.size 3 A' xs.length (flsC xs)) => text_any ea ep A' c' W.heap.size xs W (hW.below hw) (hE.below hw) hr (Nat.le_refl _) hI.s hI.u)
  unfold TxPost at HT
  rw [hf] at HT
  have hCut := fun n (hn : n < (textOf ep xs).length) => cut_read hf hn
  have hTurn := fun i (hi : i < (textOf ep xs).length) y (hy : (textOf ep xs)[i] ≠ y) => turn_read hi hy
  have htl : (textOf ep xs).length ≤ 20000 := by
    have h1 := body_len (checkOf_none hf) hI.u
    have h2 := sumLine_len (Crc.sum_lt (bodyOf ep xs))
    unfold textOf
    rw [List.length_append, List.length_append, h2]
    simp only [List.length_singleton]
    omega
  generalize textOf ep xs = t at *
  have HR1 : Hid (k < t.length → ∀ W, Below w.heap.size w W → Calls Tryd.prog 25 #[.string ((⟨t.toArray⟩ : ByteArray).extract 0 k)] W (Bad3 W)) := Lib.hid fun hk W hw => read_bad3 ea _ (t.take k) W (hW.below hw) (hE.below hw) (by rw [ByteArray.data_extract, Array.toList_extract, List.extract_eq_take_drop]; simp) (hCut k hk)
  have HR2 : Hid (∀ (hj : j < t.length) y, t[j] ≠ y → ∀ W, Below w.heap.size w W → Calls Tryd.prog 25 #[.string ⟨(t.set j y).toArray⟩] W (Bad3 W)) := Lib.hid fun hj y hy W hw => read_bad3 ea _ (t.set j y) W (hW.below hw) (hE.below hw) rfl (hTurn j hj y hy)
  unfold Bad3 at HR1 HR2
  clear hW hE hI h hlf hn hf hCut hTurn
  have hways : (k < t.length ∨ ¬ k < t.length) ∧ (j < t.length ∨ ¬ j < t.length) := ⟨Nat.lt_or_ge k t.length |>.imp id (fun h => by omega), Nat.lt_or_ge j t.length |>.imp id (fun h => by omega)⟩
  have d3' : ((b.toNat : Int) == 0) = false := beq_false_of_ne d3
  obtain ⟨hk | hk, hj | hj⟩ := hways
  · have d4 : decide ((k : Int) < (t.length : Int)) = true := by simp; omega
    have HR := Lib.hid (HR1.out hk)
    have d5 : ¬ t.length ≤ j := by omega
    obtain ⟨y, hy⟩ : ∃ y, y = t[j] ^^^ b := ⟨_, rfl⟩
    have kx := xor_bits t[j] b
    rw [← hy] at kx
    have HRt := Lib.hid (HR2.out hj y (by rw [hy]; exact xor_ne hb0))
    have kc := fun W : World => Lib.run_convert_string_bytes (P := Tryd.prog) W 9 63 5 ⟨t.toArray⟩ Tryd.underlying9 Tryd.underlying63 Tryd.underlying5
    have hjl : (j : Int) < (t.length : Int) := by omega
    clear HR1 HR2 hy
    go_enter Tryd.func4, Tryd.ntmps4
    go_wp2_with fail
    refine HC.out.mono ?_
    rintro e w1 ⟨rfl, hb1⟩
    go_wp2_with fail
    refine (HL.out _ hb1).mono ?_
    rintro e w2 ⟨rfl, rfl⟩
    go_wp2_with fail
    refine (HO.out _ hb1).mono ?_
    rintro e w2 ⟨A2, c2, rfl, hr2, hb2⟩
    have hb12 := below_two hb1 hb2
    go_wp2_with fail
    refine (HT.out _ hb12 A2 c2 hr2).mono ?_
    rintro e w3 ⟨rfl, hb3⟩
    have hb13 := below_two hb12 hb3
    clear hr2 hb12 hb1 hb2 hb3
    go_wp2_with fail
    refine (HR.out _ hb13).mono ?_
    rintro e w4 ⟨ty, ad, rfl, hb4⟩
    have hb14 := below_two hb13 hb4
    clear hb4 hb13
    have kb := fun cap => turned_text w4 t j y hj cap
    have b0 := bytes_open w4 t j hj
    have b1 := bytes_cell w4 t j hj
    have HB4 := Lib.hid (below_two hb14 ((below_bytes w4 5 ⟨t.toArray⟩).setCell (p := ⟨w4.heap.size, j, none⟩) (Nat.le_refl _) (.int .u8 (y.toNat : Int))))
    go_wp2_with fail
    refine (HRt.out _ HB4.out).mono ?_
    rintro e w5 ⟨ty5, ad5, rfl, hb5⟩
    have HB5 := Lib.hid (below_two HB4.out hb5)
    clear hb5 HB4 kb kc b0 b1
    go_wp2
    go_ret
    exact ⟨rfl, HB5.out⟩
  · have d4 : decide ((k : Int) < (t.length : Int)) = true := by simp; omega
    have HR := Lib.hid (HR1.out hk)
    have d5 : t.length ≤ j := by omega
    clear HR1 HR2 hj
    go_enter Tryd.func4, Tryd.ntmps4
    go_wp2_with fail
    refine HC.out.mono ?_
    rintro e w1 ⟨rfl, hb1⟩
    go_wp2_with fail
    refine (HL.out _ hb1).mono ?_
    rintro e w2 ⟨rfl, rfl⟩
    go_wp2_with fail
    refine (HO.out _ hb1).mono ?_
    rintro e w2 ⟨A2, c2, rfl, hr2, hb2⟩
    have hb12 := below_two hb1 hb2
    go_wp2_with fail
    refine (HT.out _ hb12 A2 c2 hr2).mono ?_
    rintro e w3 ⟨rfl, hb3⟩
    have hb13 := below_two hb12 hb3
    clear hr2 hb12 hb1 hb2 hb3
    go_wp2_with fail
    refine (HR.out _ hb13).mono ?_
    rintro e w4 ⟨ty, ad, rfl, hb4⟩
    have hb14 := below_two hb13 hb4
    clear hb4 hb13
    go_wp2
    go_ret
    exact ⟨rfl, hb14⟩
  · have d4 : decide ((k : Int) < (t.length : Int)) = false := by simp; omega
    have d5 : ¬ t.length ≤ j := by omega
    obtain ⟨y, hy⟩ : ∃ y, y = t[j] ^^^ b := ⟨_, rfl⟩
    have kx := xor_bits t[j] b
    rw [← hy] at kx
    have HRt := Lib.hid (HR2.out hj y (by rw [hy]; exact xor_ne hb0))
    have kc := fun W : World => Lib.run_convert_string_bytes (P := Tryd.prog) W 9 63 5 ⟨t.toArray⟩ Tryd.underlying9 Tryd.underlying63 Tryd.underlying5
    have hjl : (j : Int) < (t.length : Int) := by omega
    clear HR1 HR2 hy
    go_enter Tryd.func4, Tryd.ntmps4
    go_wp2_with fail
    refine HC.out.mono ?_
    rintro e w1 ⟨rfl, hb1⟩
    go_wp2_with fail
    refine (HL.out _ hb1).mono ?_
    rintro e w2 ⟨rfl, rfl⟩
    go_wp2_with fail
    refine (HO.out _ hb1).mono ?_
    rintro e w2 ⟨A2, c2, rfl, hr2, hb2⟩
    have hb12 := below_two hb1 hb2
    go_wp2_with fail
    refine (HT.out _ hb12 A2 c2 hr2).mono ?_
    rintro e w3 ⟨rfl, hb3⟩
    have hb13 := below_two hb12 hb3
    clear hr2 hb12 hb1 hb2 hb3
    have kb := fun cap => turned_text w3 t j y hj cap
    have b0 := bytes_open w3 t j hj
    have b1 := bytes_cell w3 t j hj
    have HB4 := Lib.hid (below_two hb13 ((below_bytes w3 5 ⟨t.toArray⟩).setCell (p := ⟨w3.heap.size, j, none⟩) (Nat.le_refl _) (.int .u8 (y.toNat : Int))))
    go_wp2_with fail
    refine (HRt.out _ HB4.out).mono ?_
    rintro e w5 ⟨ty5, ad5, rfl, hb5⟩
    have HB5 := Lib.hid (below_two HB4.out hb5)
    clear hb5 HB4 kb kc b0 b1
    go_wp2
    go_ret
    exact ⟨rfl, HB5.out⟩
  · have d4 : decide ((k : Int) < (t.length : Int)) = false := by simp; omega
    have d5 : t.length ≤ j := by omega
    clear HR1 HR2 hj
    go_enter Tryd.func4, Tryd.ntmps4
    go_wp2_with fail
    refine HC.out.mono ?_
    rintro e w1 ⟨rfl, hb1⟩
    go_wp2_with fail
    refine (HL.out _ hb1).mono ?_
    rintro e w2 ⟨rfl, rfl⟩
    go_wp2_with fail
    refine (HO.out _ hb1).mono ?_
    rintro e w2 ⟨A2, c2, rfl, hr2, hb2⟩
    have hb12 := below_two hb1 hb2
    go_wp2_with fail
    refine (HT.out _ hb12 A2 c2 hr2).mono ?_
    rintro e w3 ⟨rfl, hb3⟩
    have hb13 := below_two hb12 hb3
    clear hr2 hb12 hb1 hb2 hb3
    go_wp2
    go_ret
    exact ⟨rfl, hb13⟩
theorem carryCuts_any (ea : Nat → Addr) (ep : Int) (A : Option Addr) (c : Nat) (xs : List Fl) (cut at_ : Int) (b : UInt8) (w : World) (hW : CarW w) (hE : ErrsK ea w) (hI : FlowsIn w A xs) :
    Calls Tryd.prog 4 #[.int .i64 ep, .slice A xs.length c, .int .i64 cut, .int .i64 at_, .int .u8 (b.toNat : Int)] w (True1 w) := by
  by_cases h : longF xs = true ∨ cut < 0 ∨ at_ < 0 ∨ b = 0
  · exact cuts_skip ea ep A c xs cut at_ b w hW hE hI h
  · cases hf : checkOf ep xs with
    | some f => exact cuts_err ea ep A c xs cut at_ b w hW hE hI h hf
    | none => exact cuts_go ea ep A c xs cut at_ b w hW hE hI h hf
end Go.Proofs.YtalfjaogpbndeaaDoor
