/-
  The walk of carry's head; what carry reads of the library's variables.
  The walk of carry's flow: one line.
-/
import Derived.Test.YtalfjaogpbndeaaGreatDoorHexKey
import Derived.Test.YtalfjaogpbndeaaGreatDoorNumLaws
import Derived.Test.YtalfjaogpbndeaaGreatDoorCutting
import Derived.Laws.ResultCell
namespace Go.Proofs.YtalfjaogpbndeaaGreatDoor
open Go.RowKit

/-- The library's tables and variables that carry reads. -/
structure CarW (w : World) : Prop where
  num : NumW w
  tab : w.cell? ⟨17, 15, none⟩ = some (.int .u8 4)
  mx : ∃ m, w.cell? ⟨11, 0, none⟩ = some (.int .i64 m)
  lo : 18 ≤ w.heap.size
theorem CarW.below {w w' : World} (h : CarW w) (hb : Below w.heap.size w w') : CarW w' := by
  obtain ⟨m, hm⟩ := h.mx
  have hl := h.lo
  exact ⟨h.num.below hb hl, (hb.cell (show 17 < w.heap.size by omega)).trans h.tab, ⟨m, (hb.cell (show 11 < w.heap.size by omega)).trans hm⟩, Nat.le_trans hl hb.size⟩
theorem CarW.hex {w : World} (h : CarW w) : HexW w := by
  obtain ⟨t1, p1, h1⟩ := h.num.syn
  obtain ⟨t2, p2, h2⟩ := h.num.ran
  have g1 : Tryz.prog.globalNamed "strconv.ErrSyntax" = some 12 := by kernel_rfl
  have g2 : Tryz.prog.globalNamed "strconv.ErrRange" = some 13 := by kernel_rfl
  exact ⟨h.tab, ⟨t1, p1, by simpa using World.var?_cell g1 h1 0⟩, ⟨t2, p2, by simpa using World.var?_cell g2 h2 0⟩⟩
def wFlows : List UInt8 := [102, 108, 111, 119, 115]
/-- What a first line says: the epoch, and how many. -/
def headOf (l : List UInt8) : Option (Nat × Nat) :=
  match cuts 32 l with
  | [a, b, c] => if a = wFlows then (match numOf b, numOf c with | some x, some y => some (x, y) | _, _ => none) else none
  | _ => none
theorem piece_size {c : UInt8} : ∀ {l p : List UInt8}, p ∈ cuts c l → p.length ≤ l.length
  | [], p, h => by simp [cuts] at h; subst h; simp
  | x :: r, p, h => by
    unfold cuts at h
    split at h
    · rcases List.mem_cons.1 h with rfl | h
      · simp
      · have := piece_size h; simp; omega
    · rcases List.mem_cons.1 h with rfl | h
      · have hne := cuts_ne c r
        cases hc : cuts c r with
        | nil => exact absurd hc hne
        | cons a t =>
          have := piece_size (l := r) (p := a) (by rw [hc]; exact List.mem_cons_self)
          simp
          omega
      · have := piece_size (l := r) (p := p) (List.mem_of_mem_tail h)
        simp
        omega
set_option maxHeartbeats 1000000 in
theorem head_any (s : ByteArray) (hs : s.size < 4294967281) (w : World) (hw : CarW w) :
    Calls Tryz.prog 27 #[.string s] w fun e w' => ∃ x y : Int, e = .returned (.tuple #[.int .i64 x, .int .i64 y, .bool (headOf s.data.toList).isSome]) ∧ Below w.heap.size w w' ∧ ∀ p, headOf s.data.toList = some p → x = p.1 ∧ y = p.2 := by
  obtain ⟨m, hm⟩ := hw.mx
  have HS := split_any s 32 m w hs hm
  obtain ⟨cs, hcs⟩ : ∃ cs, cs = cuts 32 s.data.toList := ⟨_, rfl⟩
  have hps : ∀ p ∈ cs, (⟨p.toArray⟩ : ByteArray).size ≤ 281474976710656 := by
    intro p hp
    rw [hcs] at hp
    have := piece_size hp
    have e : (⟨p.toArray⟩ : ByteArray).size = p.length := by simp [ByteArray.size]
    have e2 : s.data.toList.length = s.size := by simp
    omega
  rw [← hcs] at HS
  go_enter Tryz.func27, Tryz.ntmps27
  by_cases h3 : cs.length = 3
  · obtain ⟨a, b, c, rfl⟩ : ∃ a b c, cs = [a, b, c] := by
      match cs, h3 with
      | [a, b, c], _ => exact ⟨a, b, c, rfl⟩
    obtain ⟨W1, hW1⟩ : ∃ W1, W1 = w.alloc (.cells (([a, b, c].map fun l => Value.string ⟨l.toArray⟩).toArray) 9) := ⟨_, rfl⟩
    rw [← hW1] at HS
    have c0 : W1.cell? ⟨w.heap.size, 0, none⟩ = some (.string ⟨a.toArray⟩) := by rw [hW1, World.cell?_alloc_new]; rfl
    have c1 : W1.cell? ⟨w.heap.size, 1, none⟩ = some (.string ⟨b.toArray⟩) := by rw [hW1, World.cell?_alloc_new]; rfl
    have c2 : W1.cell? ⟨w.heap.size, 2, none⟩ = some (.string ⟨c.toArray⟩) := by rw [hW1, World.cell?_alloc_new]; rfl
    have hb1 := Lib.hid (show Below w.heap.size w W1 by rw [hW1]; exact (Below.refl _ _).alloc (Nat.le_refl _) _)
    have hw1 := Lib.hid (hw.below hb1.out)
    clear hW1
    have hh : headOf s.data.toList = if a = wFlows then (match numOf b, numOf c with | some x, some y => some (x, y) | _, _ => none) else none := by
      rw [headOf, ← hcs]
    have HH := Lib.hid hh
    clear hh
    have HC := Lib.hid hcs
    clear hcs h3
    by_cases ha : a = wFlows
    · subst ha
      have HE : Hid (headOf s.data.toList = (match numOf b, numOf c with | some x, some y => some (x, y) | _, _ => none)) := Lib.hid (HH.out.trans (if_pos rfl))
      clear HH
      have HN := number_any ⟨b.toArray⟩ (hps b (by simp)) W1 hw1.out.num hw1.out.lo
      have hB1 : w.heap.size < W1.heap.size := World.block_lt_of_cell? _ _ c0
      go_wp2_with (first | (refine HS.mono ?_; rintro e w' ⟨rfl, rfl⟩) | (refine HN.mono ?_))
      rintro e w2 ⟨x, rfl, hb2, hx⟩
      have HX := Lib.hid hx
      clear hx
      have HB2 := Lib.hid (hb1.out.trans (hb2.mono hb1.out.size))
      have d2 : w2.cell? ⟨w.heap.size, 2, none⟩ = some (.string ⟨c.toArray⟩) := (hb2.cell hB1).trans c2
      have hw2 := Lib.hid (hw1.out.below hb2)
      clear c0 c1 c2 hb2
      have HN2 := number_any ⟨c.toArray⟩ (hps c (by simp)) w2 hw2.out.num hw2.out.lo
      go_wp2_with (refine HN2.mono ?_; rintro e w3 ⟨y, rfl, hb3, hy⟩)
      all_goals go_ret3
      all_goals refine ⟨x, y, ?_, HB2.out.trans (hb3.mono HB2.out.size), fun p h => ?_⟩
      · rw [HE.out]
        rename_i hi
        cases hB : numOf b with
        | none => rw [hB] at hi; cases hi
        | some u => cases hC : numOf c <;> rfl
      · rw [HE.out] at h
        cases hB : numOf b with
        | none => rw [hB] at h; cases h
        | some u =>
          cases hC : numOf c with
          | none => rw [hB, hC] at h; cases h
          | some v =>
            rw [hB, hC] at h
            cases h
            exact ⟨HX.out _ hB, hy _ hC⟩
      · rw [HE.out]
        rename_i hi
        cases hB : numOf b with
        | none => rfl
        | some u => rw [hB] at hi; exact absurd rfl hi
      · rw [HE.out] at h
        rename_i hi
        cases hB : numOf b with
        | none => rw [hB] at h; cases h
        | some u => rw [hB] at hi; exact absurd rfl hi
    · have ha' : (a == [102, 108, 111, 119, 115]) = false := beq_false_of_ne ha
      have HN0 : Hid (headOf s.data.toList = none) := Lib.hid (by rw [HH.out, if_neg ha])
      go_wp2_with (refine HS.mono ?_; rintro e w' ⟨rfl, rfl⟩)
      go_ret3
      exact ⟨0, 0, by rw [HN0.out]; rfl, hb1.out, fun p h => by rw [HN0.out] at h; cases h⟩
  · have HN0 : Hid (headOf s.data.toList = none) := Lib.hid (by
      rw [headOf, ← hcs]
      split
      · exact absurd rfl h3
      · rfl)
    have HB : Hid (∀ o, Below w.heap.size w (w.alloc o)) := Lib.hid (fun o => (Below.refl _ _).alloc (Nat.le_refl _) o)
    have h3' : ¬ (cs.length : Int) = 3 := by omega
    clear hcs
    go_wp2_with (refine HS.mono ?_; rintro e w' ⟨rfl, rfl⟩)
    go_ret3
    exact ⟨0, 0, by rw [HN0.out]; rfl, HB.out _, fun p h => by rw [HN0.out] at h; cases h⟩
end Go.Proofs.YtalfjaogpbndeaaGreatDoor

namespace Go.Proofs.YtalfjaogpbndeaaGreatDoor
open Go.RowKit

theorem results_cell_tmp_ {P : Program} {fn : Func} {q p : Tmp} {ty : TypeId} (h : fn.results = #[.cell p ty, .tmp q]) (tmps : Array Value) (w : World) (g : Nat) (t : TypeId) (cs : Array Value) (fr : Nat × Nat) (d : TypeDesc)
    (hp : tmps.getD p undef = .pointer (some ⟨g, 0, none⟩)) (hg : w.heap[g]? = some (.cells cs t fr))
    (hu : P.underlying ty = some d) (hd : (match d with | .struct _ | .array _ _ => true | _ => false) = true) (hi : (P.info? ty).map (·.size) = some cs.size) :
    (results fn tmps).run P w = .ok (.tuple #[.agg cs, tmps.getD q undef]) w := by
  have hp' : tmps[p]?.getD undef = .pointer (some ⟨g, 0, none⟩) := by simpa using hp
  simp [results, h, hp', asAddr, run_loadVar_row w g t ty cs fr d hg hu hd hi]
/-- What a line says: key, host, until. -/
def flowOf (l : List UInt8) : Option (Nat × List UInt8 × Nat) :=
  match cuts 32 l with
  | [a, b, c] => if b = [] then none else (match Hex.keyOf a 16, numOf c with | some k, some n => some (k, b, n) | _, _ => none)
  | _ => none
set_option maxHeartbeats 1000000 in
theorem flow_any (s : ByteArray) (hs : s.size < 4294967281) (w : World) (hw : CarW w) :
    Calls Tryz.prog 28 #[.string s] w fun e w' => ∃ (k : Nat) (h : ByteArray) (t : Int), e = .returned (.tuple #[.agg #[.int .u64 (k : Int), .string h, .int .i64 t], .bool (flowOf s.data.toList).isSome]) ∧ Below w.heap.size w w' ∧ ∀ p, flowOf s.data.toList = some p → k = p.1 ∧ h = ⟨p.2.1.toArray⟩ ∧ t = p.2.2 := by
  obtain ⟨W0, hW0⟩ : ∃ W0, W0 = w.alloc (.cells #[.int .u64 0, .string ⟨#[]⟩, .int .i64 0] 45) := ⟨_, rfl⟩
  have hb0 : Below w.heap.size w W0 := by rw [hW0]; exact (Below.refl _ _).alloc (Nat.le_refl _) _
  have hB0 : Blk W0 w.heap.size 45 #[.int .u64 0, .string ⟨#[]⟩, .int .i64 0] := by rw [hW0]; exact Blk.new _ _ _
  have hz : W0.heap.size = w.heap.size + 1 := by rw [hW0]; simp
  have hw0 := hw.below hb0
  obtain ⟨m, hm⟩ := hw0.mx
  have HS := split_any s 32 m W0 hs hm
  obtain ⟨cs, hcs⟩ : ∃ cs, cs = cuts 32 s.data.toList := ⟨_, rfl⟩
  have hps : ∀ p ∈ cs, (⟨p.toArray⟩ : ByteArray).size ≤ 281474976710656 := by
    intro p hp
    rw [hcs] at hp
    have := piece_size hp
    have e : (⟨p.toArray⟩ : ByteArray).size = p.length := by simp [ByteArray.size]
    have e2 : s.data.toList.length = s.size := by simp
    omega
  rw [← hcs] at HS
  rw [hW0] at HS
  go_enter Tryz.func28, Tryz.ntmps28
  by_cases h3 : cs.length = 3
  · obtain ⟨a, b, c, rfl⟩ : ∃ a b c, cs = [a, b, c] := by
      match cs, h3 with
      | [a, b, c], _ => exact ⟨a, b, c, rfl⟩
    rw [← hW0] at HS
    obtain ⟨W1, hW1⟩ : ∃ W1, W1 = W0.alloc (.cells (([a, b, c].map fun l => Value.string ⟨l.toArray⟩).toArray) 9) := ⟨_, rfl⟩
    rw [← hW1] at HS
    rw [hz] at HS
    have c0 : W1.cell? ⟨w.heap.size + 1, 0, none⟩ = some (.string ⟨a.toArray⟩) := by rw [hW1, ← hz, World.cell?_alloc_new]; rfl
    have c1 : W1.cell? ⟨w.heap.size + 1, 1, none⟩ = some (.string ⟨b.toArray⟩) := by rw [hW1, ← hz, World.cell?_alloc_new]; rfl
    have c2 : W1.cell? ⟨w.heap.size + 1, 2, none⟩ = some (.string ⟨c.toArray⟩) := by rw [hW1, ← hz, World.cell?_alloc_new]; rfl
    have hb01 : Below W0.heap.size W0 W1 := by rw [hW1]; exact (Below.refl _ _).alloc (Nat.le_refl _) _
    have hb1 := Lib.hid (hb0.trans (hb01.mono hb0.size))
    have hw1 := Lib.hid (hw0.below hb01)
    have hB1 := Lib.hid (hB0.below hb01 hB0.lt)
    have hlt : w.heap.size + 1 < W1.heap.size := World.block_lt_of_cell? _ _ c0
    have HC := Lib.hid hcs
    rw [hW0] at HS
    have HH : Hid (flowOf s.data.toList = if b = [] then none else (match Hex.keyOf a 16, numOf c with | some k, some n => some (k, b, n) | _, _ => none)) := Lib.hid (by rw [flowOf, ← hcs])
    clear hcs h3 hW0 hW1 hb01 hB0 hz
    by_cases hbe : b = []
    · subst hbe
      have HN0 : Hid (flowOf s.data.toList = none) := Lib.hid (HH.out.trans (if_pos rfl))
      have HBf := Lib.hid (((hB1.out.set_ 0 (.int .u64 0)).set_ 1 (.string ⟨#[]⟩)).set_ 2 (.int .i64 0))
      have HB := Lib.hid (((hb1.out.setCell (p := ⟨w.heap.size, 0, none⟩) (Nat.le_refl _) (.int .u64 0)).setCell (p := ⟨w.heap.size, 1, none⟩) (Nat.le_refl _) (.string ⟨#[]⟩)).setCell (p := ⟨w.heap.size, 2, none⟩) (Nat.le_refl _) (.int .i64 0))
      have r0 : W1.cell? ⟨w.heap.size, 0, none⟩ = some (.int .u64 0) := hB1.out.cell 0
      have f0 := hB1.out.frozen 0
      have r1 : W1.cell? ⟨w.heap.size, 1, none⟩ = some (.string ⟨#[]⟩) := hB1.out.cell 1
      have f1 := hB1.out.frozen 1
      have r2 : W1.cell? ⟨w.heap.size, 2, none⟩ = some (.int .i64 0) := hB1.out.cell 2
      have f2 := hB1.out.frozen 2
      go_wp2_with (refine HS.mono ?_; rintro e w' ⟨rfl, rfl⟩)
      refine bodyPost_ret (results_cell_tmp_ (P := Tryz.prog) rfl _ _ w.heap.size _ _ (0, 0) _ rfl HBf.out Tryz.underlying45 rfl (by kernel_rfl)) rfl ?_
      exact ⟨0, ⟨#[]⟩, 0, by rw [HN0.out]; rfl, HB.out, fun p h => by rw [HN0.out] at h; cases h⟩
    · have hbe' : (b == []) = false := beq_false_of_ne hbe
      have HE := Lib.hid (HH.out.trans (if_neg hbe))
      have HK := key_any ⟨a.toArray⟩ 16 (by omega) (hps a (by simp)) W1 hw1.out.hex hw1.out.lo
      go_wp2_with (first | (refine HS.mono ?_; rintro e w' ⟨rfl, rfl⟩) | (refine HK.mono ?_))
      rintro e w2 ⟨k, rfl, hb2, hk⟩
      have HX := Lib.hid hk
      clear hk
      have d1 : w2.cell? ⟨w.heap.size + 1, 1, none⟩ = some (.string ⟨b.toArray⟩) := (hb2.cell hlt).trans c1
      have d2 : w2.cell? ⟨w.heap.size + 1, 2, none⟩ = some (.string ⟨c.toArray⟩) := (hb2.cell hlt).trans c2
      have hlt2 : w.heap.size + 1 < w2.heap.size := Nat.lt_of_lt_of_le hlt hb2.size
      have hw2 := Lib.hid (hw1.out.below hb2)
      have hB2 := Lib.hid (hB1.out.below hb2 hB1.out.lt)
      have HB2 := Lib.hid (hb1.out.trans (hb2.mono hb1.out.size))
      clear c0 c1 c2 hb2 HS HK
      have HN2 := number_any ⟨c.toArray⟩ (hps c (by simp)) w2 hw2.out.num hw2.out.lo
      go_wp2_with (refine HN2.mono ?_)
      rintro e w3 ⟨t, rfl, hb3, hy⟩
      have HY := Lib.hid hy
      have e1 : w3.cell? ⟨w.heap.size + 1, 1, none⟩ = some (.string ⟨b.toArray⟩) := (hb3.cell hlt2).trans d1
      have hB3 := Lib.hid (hB2.out.below hb3 hB2.out.lt)
      have HBf := Lib.hid (((hB3.out.set_ 0 (.int .u64 (k : Int))).set_ 1 (.string ⟨b.toArray⟩)).set_ 2 (.int .i64 t))
      have HB3 := Lib.hid (HB2.out.trans (hb3.mono HB2.out.size))
      have HB := Lib.hid (((HB3.out.setCell (p := ⟨w.heap.size, 0, none⟩) (Nat.le_refl _) (.int .u64 (k : Int))).setCell (p := ⟨w.heap.size, 1, none⟩) (Nat.le_refl _) (.string ⟨b.toArray⟩)).setCell (p := ⟨w.heap.size, 2, none⟩) (Nat.le_refl _) (.int .i64 t))
      clear hy hb3 d1 d2
      have r0 : w3.cell? ⟨w.heap.size, 0, none⟩ = some (.int .u64 0) := hB3.out.cell 0
      have f0 := hB3.out.frozen 0
      have r1 : w3.cell? ⟨w.heap.size, 1, none⟩ = some (.string ⟨#[]⟩) := hB3.out.cell 1
      have f1 := hB3.out.frozen 1
      have r2 : w3.cell? ⟨w.heap.size, 2, none⟩ = some (.int .i64 0) := hB3.out.cell 2
      have f2 := hB3.out.frozen 2
      go_wp2
      all_goals refine bodyPost_ret (results_cell_tmp_ (P := Tryz.prog) rfl _ _ w.heap.size _ _ (0, 0) _ rfl HBf.out Tryz.underlying45 rfl (by kernel_rfl)) rfl ?_
      all_goals refine ⟨k, ⟨b.toArray⟩, t, ?_, HB.out, fun p h => ?_⟩
      · rw [HE.out]
        rename_i hi
        cases hA : Hex.keyOf a 16 with
        | none => rw [hA] at hi; cases hi
        | some u => cases hC : numOf c <;> rfl
      · rw [HE.out] at h
        cases hA : Hex.keyOf a 16 with
        | none => rw [hA] at h; cases h
        | some u =>
          cases hC : numOf c with
          | none => rw [hA, hC] at h; cases h
          | some v =>
            rw [hA, hC] at h
            cases h
            have := hps a (by simp)
            exact ⟨HX.out _ hA, rfl, HY.out _ hC⟩
      · rw [HE.out]
        rename_i hi
        cases hA : Hex.keyOf a 16 with
        | none => rfl
        | some u => rw [hA] at hi; exact absurd rfl hi
      · rw [HE.out] at h
        rename_i hi
        cases hA : Hex.keyOf a 16 with
        | none => rw [hA] at h; cases h
        | some u => rw [hA] at hi; exact absurd rfl hi
  · have HN0 : Hid (flowOf s.data.toList = none) := Lib.hid (by
      rw [flowOf, ← hcs]
      split
      · exact absurd rfl h3
      · rfl)
    rw [← hW0] at HS
    obtain ⟨W1, hW1⟩ : ∃ W1, W1 = W0.alloc (.cells ((cs.map fun l => Value.string ⟨l.toArray⟩).toArray) 9) := ⟨_, rfl⟩
    rw [← hW1] at HS
    have hb01 : Below W0.heap.size W0 W1 := by rw [hW1]; exact (Below.refl _ _).alloc (Nat.le_refl _) _
    have hb1 := Lib.hid (hb0.trans (hb01.mono hb0.size))
    have hB1 := Lib.hid (hB0.below hb01 hB0.lt)
    have h3' : ¬ (cs.length : Int) = 3 := by omega
    rw [hW0] at HS
    clear hcs hW0 hW1 hb01 hB0 hz
    have HBf := Lib.hid (((hB1.out.set_ 0 (.int .u64 0)).set_ 1 (.string ⟨#[]⟩)).set_ 2 (.int .i64 0))
    have HB := Lib.hid (((hb1.out.setCell (p := ⟨w.heap.size, 0, none⟩) (Nat.le_refl _) (.int .u64 0)).setCell (p := ⟨w.heap.size, 1, none⟩) (Nat.le_refl _) (.string ⟨#[]⟩)).setCell (p := ⟨w.heap.size, 2, none⟩) (Nat.le_refl _) (.int .i64 0))
    have r0 : W1.cell? ⟨w.heap.size, 0, none⟩ = some (.int .u64 0) := hB1.out.cell 0
    have f0 := hB1.out.frozen 0
    have r1 : W1.cell? ⟨w.heap.size, 1, none⟩ = some (.string ⟨#[]⟩) := hB1.out.cell 1
    have f1 := hB1.out.frozen 1
    have r2 : W1.cell? ⟨w.heap.size, 2, none⟩ = some (.int .i64 0) := hB1.out.cell 2
    have f2 := hB1.out.frozen 2
    go_wp2_with (refine HS.mono ?_; rintro e w' ⟨rfl, rfl⟩)
    refine bodyPost_ret (results_cell_tmp_ (P := Tryz.prog) rfl _ _ w.heap.size _ _ (0, 0) _ rfl HBf.out Tryz.underlying45 rfl (by kernel_rfl)) rfl ?_
    exact ⟨0, ⟨#[]⟩, 0, by rw [HN0.out]; rfl, HB.out, fun p h => by rw [HN0.out] at h; cases h⟩
end Go.Proofs.YtalfjaogpbndeaaGreatDoor
