/-
  The walks of the Builder's methods at carry's page, whose block bears the page's own type.
  The walk of a page's line.
-/
import Derived.Test.YtalfjaogpbndeaaGreatDoorBase
import Derived.Test.YtalfjaogpbndeaaGreatDoorShelfC
import Derived.Shelf.Strings.BuilderK
import Derived.BigQuiet
import Derived.Deep.QuietTactic
import Derived.Test.YtalfjaogpbndeaaGreatDoorTurn
import Derived.Deep.RegionWith
namespace Go.Proofs.YtalfjaogpbndeaaGreatDoor
open Go.RowKit

abbrev PgAt (B b : Nat) (p : Value) (l : List UInt8) (w : World) : Prop := Lib.BuilderAtF 53 5 B b p (Lib.byteCells l) w
/-- Block b is a page that holds the bytes l. -/
def Pg (B b : Nat) (l : List UInt8) (w : World) : Prop := PgAt B b (.pointer none) l w ∨ PgAt B b (.pointer (some ⟨b, 0, none⟩)) l w
theorem Pg.lo {B b : Nat} {l : List UInt8} {w : World} (h : Pg B b l w) : B ≤ b := h.elim (·.1) (·.1)
theorem Pg.lt {B b : Nat} {l : List UInt8} {w : World} (h : Pg B b l w) : b < w.heap.size := h.elim Lib.BuilderAtF.lt Lib.BuilderAtF.lt
theorem pgAt_grown {B b : Nat} {p : Value} {l : List UInt8} {w w' : World} (h : PgAt B b p l w) (hb : Below w.heap.size w w') : PgAt B b p l w' := by
  have hlt := h.lt
  obtain ⟨hB, v, hbk, hown, hne⟩ := h
  refine ⟨hB, v, (hb.block b hlt).trans hbk, hown.kept (row := none) ⟨hb.os, hb.tape, hb.output, hb.size, fun k hk _ => hb.block k hk⟩ ?_, hne⟩
  cases hv : v.ownBlock <;> simp
theorem Pg.below {B b : Nat} {l : List UInt8} {w w' : World} (h : Pg B b l w) (hb : Below w.heap.size w w') : Pg B b l w' := h.elim (fun x => .inl (pgAt_grown x hb)) (fun x => .inr (pgAt_grown x hb))
theorem Pg.made (w : World) : Pg w.heap.size w.heap.size [] (w.alloc (.cells #[.pointer none, .slice none 0 0] 53)) :=
  .inl ⟨Nat.le_refl _, _, Blk.new _ _ _, World.ownsRowF_nil _ _ _ _, by simp [Value.ownBlock]⟩
theorem info_byteP : (Tryz.prog.info? 5).map (fun i => (i.zero, i.size, i.bytes)) = some (some (.int .u8 0), 1, 1) := by kernel_rfl
theorem info_builderP : (Tryz.prog.info? 51).map (·.size) = some 2 := by kernel_rfl
theorem lies_page : liesAt Tryz.prog Tryz.prog.depth 53 (2 / Tryz.prog.cellsOf 53) 0 51 1 = true := by kernel_rfl
set_option maxRecDepth 100000 in
theorem copy_used (b : Nat) (w : World) (h0 : w.cell? ⟨b, 0, none⟩ = some (.pointer (some ⟨b, 0, none⟩))) :
    Calls Tryz.prog 53 #[.pointer (some ⟨b, 0, none⟩)] w fun e w' => e = .returned (.tuple #[]) ∧ w' = w := by
  obtain ⟨j, hj, _⟩ := Option.map_eq_some_iff.1 info_builderP
  go_enter Tryz.func53, Tryz.ntmps53
  go_wp2
  rw [Lib.run_neq_ptr_same w _ Tryz.underlying48 hj]
  go_wp2
  go_end0
  exact ⟨rfl, rfl⟩
set_option maxRecDepth 100000 in
theorem copy_fresh (b : Nat) (w : World) (h0 : w.cell? ⟨b, 0, none⟩ = some (.pointer none)) (hsh : w.shape? b = some (53, 2)) (hfz : w.frozen? ⟨b, 0, none⟩ = false) :
    Calls Tryz.prog 53 #[.pointer (some ⟨b, 0, none⟩)] w fun e w' => e = .returned (.tuple #[]) ∧ w' = w.setCell ⟨b, 0, none⟩ (.pointer (some ⟨b, 0, none⟩)) := by
  obtain ⟨j, hj, hjs⟩ := Option.map_eq_some_iff.1 info_builderP
  go_enter Tryz.func53, Tryz.ntmps53
  go_wp2
  rw [Lib.run_to_unsafe w ⟨b, 0, none⟩ Tryz.underlying48 Tryz.underlying105 hj (by rw [hjs]; decide) hsh (Nat.zero_lt_succ 1)]
  simp only [Result.andThen]
  rw [Oper.upon_value]
  go_wp2
  rw [run_callFunc_extern Tryz.func75 (by kernel_rfl) (by kernel_rfl) (by kernel_rfl) (e := Extern.AbiNoEscape.same) (by kernel_rfl)]
  rw [Lib.run_noEscape]
  simp only [Result.andThen]
  rw [Oper.upon_value]
  go_wp2
  rw [Lib.run_from_unsafe w ⟨b, 0, none⟩ Tryz.underlying105 Tryz.underlying48 hj hsh lies_page]
  simp only [Result.andThen]
  rw [Oper.upon_value]
  go_wp2
  go_end0
  exact ⟨rfl, rfl⟩
theorem copy_any (B b : Nat) (l : List UInt8) (w : World) (h : Pg B b l w) :
    Calls Tryz.prog 53 #[.pointer (some ⟨b, 0, none⟩)] w fun e w' => e = .returned (.tuple #[]) ∧ PgAt B b (.pointer (some ⟨b, 0, none⟩)) l w' ∧ Below B w w' := by
  rcases h with h | h
  · refine (copy_fresh b w h.cell0 h.shape h.frozen0).mono ?_
    rintro e w' ⟨rfl, rfl⟩
    exact ⟨rfl, h.used _, (Below.refl B w).setCell (p := ⟨b, 0, none⟩) h.1 _⟩
  · refine (copy_used b w h.cell0).mono ?_
    rintro e w' ⟨rfl, rfl⟩
    exact ⟨rfl, h, Below.refl B _⟩
def Put (B b : Nat) (l : List UInt8) (v : Value) (w : World) (e : Ending) (w' : World) : Prop := e = .returned v ∧ PgAt B b (.pointer (some ⟨b, 0, none⟩)) l w' ∧ Below B w w'
set_option maxHeartbeats 2000000 in
set_option maxRecDepth 100000 in
theorem putByte_any (B b : Nat) (l : List UInt8) (c : UInt8) (w : World) (h : Pg B b l w) (hlen : l.length ≤ 100000) (hBw : B ≤ w.heap.size) :
    Calls Tryz.prog 40 #[.pointer (some ⟨b, 0, none⟩), .int .u8 (c.toNat : Int)] w (Put B b (l ++ [c]) .nilIface w) := by
  obtain ⟨i0, hi, hz0, hz1, hz2⟩ := info_parts info_byteP
  have HC := copy_any B b l w h
  clear h
  have hbl : (Lib.byteCells l).length = l.length := Lib.byteCells_length l
  have hbs : Lib.byteCells (l ++ [c]) = Lib.byteCells l ++ [.int .u8 (c.toNat : Int)] := by simp [Lib.byteCells]
  unfold Put
  go_enter Tryz.func40, Tryz.ntmps40
  go_wp2_with (go_at_call 53; refine HC.mono ?_)
  rintro e w1 ⟨rfl, h1, hb1⟩
  obtain ⟨hB, v, hbk, hown, hne⟩ := h1
  have c0 : w1.cell? ⟨b, 0, none⟩ = some (.pointer (some ⟨b, 0, none⟩)) := by rw [Lib.cell_of_heap hbk]; rfl
  have c1 : w1.cell? ⟨b, 1, none⟩ = some v := by rw [Lib.cell_of_heap hbk]; rfl
  rw [hbl] at hown
  go_wp2_with (at_builtin; refine wpList_append_ownF _ rfl _ _ 49 rfl B 5 i0 (.int .u8 0) 1 1 Tryz.underlying49 hi hz0 hz1 hz2 rfl (by decide) _ l.length _ rfl (hown.alloc _) ⟨w1.heap.size, 0, none⟩ 1 1 [.int .u8 (c.toNat : Int)] rfl rfl ?c1 ?c2 ?c3 ?c4 ?c5 ?_)
  case c1 =>
    intro j u hj
    match j, hj with
    | 0, hj => simp at hj; subst hj; simp [Addr.add]
  case c2 => intro u hu; simp at hu; subst hu; rfl
  case c3 => unfold maxLen; omega
  case c4 => omega
  case c5 => have := hb1.size; simp; omega
  intro v' w2 hown' hgrow _
  have hlt : b < w1.heap.size := by
    rcases Nat.lt_or_ge b w1.heap.size with h' | h'
    · exact h'
    · simp [Array.getElem?_eq_none h'] at hbk
  have hb2 : w2.heap[b]? = some (.cells #[.pointer (some ⟨b, 0, none⟩), v] 53 (0, 0)) := by
    rw [hgrow.block b (by simp; omega) (fun e => hne e.symm), Lib.alloc_old w1 _ b hlt]
    exact hbk
  have d0 : w2.cell? ⟨b, 0, none⟩ = some (.pointer (some ⟨b, 0, none⟩)) := by rw [Lib.cell_of_heap hb2]; rfl
  have d1 : w2.cell? ⟨b, 1, none⟩ = some v := by rw [Lib.cell_of_heap hb2]; rfl
  have f1 : w2.frozen? ⟨b, 1, none⟩ = false := Lib.frozen_of_heap hb2 1
  obtain ⟨g, cap, rfl⟩ : ∃ g cap, v' = .slice (some ⟨g, 0, none⟩) (l.length + 1) cap := by
    rcases hown'.2 with ⟨_, h0⟩ | ⟨g, cap, cur, fz, hv, _⟩
    · omega
    · exact ⟨g, cap, hv⟩
  go_wp2
  go_ret
  refine ⟨rfl, ?_, ?_⟩
  · exact Lib.BuilderAtF.put (T := 53) (e := 5) hB hb2 (bs' := Lib.byteCells (l ++ [c])) (by rw [hbs]; simpa [hbl] using hown') (by decide)
  · exact ((hb1.alloc (by have := hb1.size; omega) _).grown hgrow (by have := hb1.size; simp; omega) (fun k hk => (hown.lt k hk).1)).setCell (p := ⟨b, 1, none⟩) hB _
set_option maxHeartbeats 2000000 in
set_option maxRecDepth 100000 in
theorem putString_any (B b : Nat) (l : List UInt8) (s : ByteArray) (w : World) (h : Pg B b l w) (hlen : l.length ≤ 100000) (hs : s.size ≤ 100000) (hBw : B ≤ w.heap.size) :
    Calls Tryz.prog 38 #[.pointer (some ⟨b, 0, none⟩), .string s] w (Put B b (l ++ s.data.toList) (.tuple #[.int .i64 s.size, .nilIface]) w) := by
  obtain ⟨i0, hi, hz0, hz1, hz2⟩ := info_parts info_byteP
  have HC := copy_any B b l w h
  clear h
  have hbl : (Lib.byteCells l).length = l.length := Lib.byteCells_length l
  have hbs : Lib.byteCells (l ++ s.data.toList) = Lib.byteCells l ++ Lib.strCells s := by simp [Lib.byteCells, Lib.strCells]
  have hsl : s.data.toList.length = s.size := by simp
  unfold Put
  go_enter Tryz.func38, Tryz.ntmps38
  go_wp2_with (go_at_call 53; refine HC.mono ?_)
  rintro e w1 ⟨rfl, h1, hb1⟩
  obtain ⟨hB, v, hbk, hown, hne⟩ := h1
  have c0 : w1.cell? ⟨b, 0, none⟩ = some (.pointer (some ⟨b, 0, none⟩)) := by rw [Lib.cell_of_heap hbk]; rfl
  have c1 : w1.cell? ⟨b, 1, none⟩ = some v := by rw [Lib.cell_of_heap hbk]; rfl
  rw [hbl] at hown
  go_wp2_with (at_builtin; refine Lib.wpList_append_own_stringF _ rfl _ _ 49 9 rfl B 5 i0 Tryz.underlying49 Tryz.underlying9 hi hz0 hz1 hz2 _ l.length _ rfl hown s rfl ?c3 ?c4 ?c5 ?_)
  case c3 => unfold maxLen; omega
  case c4 => omega
  case c5 => have := hb1.size; omega
  intro v' w2 hown' hgrow _
  have hlt : b < w1.heap.size := by
    rcases Nat.lt_or_ge b w1.heap.size with h' | h'
    · exact h'
    · simp [Array.getElem?_eq_none h'] at hbk
  have hb2 : w2.heap[b]? = some (.cells #[.pointer (some ⟨b, 0, none⟩), v] 53 (0, 0)) := by
    rw [hgrow.block b hlt (fun e => hne e.symm)]
    exact hbk
  have d0 : w2.cell? ⟨b, 0, none⟩ = some (.pointer (some ⟨b, 0, none⟩)) := by rw [Lib.cell_of_heap hb2]; rfl
  have d1 : w2.cell? ⟨b, 1, none⟩ = some v := by rw [Lib.cell_of_heap hb2]; rfl
  have f1 : w2.frozen? ⟨b, 1, none⟩ = false := Lib.frozen_of_heap hb2 1
  obtain ⟨ao, n', cap, rfl⟩ : ∃ ao n' cap, v' = .slice ao n' cap := by
    rcases hown'.2 with ⟨hv, _⟩ | ⟨g, cap, cur, fz, hv, _⟩
    · exact ⟨_, _, _, hv⟩
    · exact ⟨_, _, _, hv⟩
  go_wp2
  go_ret2
  refine ⟨rfl, ?_, ?_⟩
  · exact Lib.BuilderAtF.put (T := 53) (e := 5) hB hb2 (bs' := Lib.byteCells (l ++ s.data.toList)) (by rw [hbs]; simpa [hbl, Lib.strCells_length] using hown') (by decide)
  · exact (hb1.grown hgrow (by have := hb1.size; omega) (fun k hk => (hown.lt k hk).1)).setCell (p := ⟨b, 1, none⟩) hB _
set_option maxHeartbeats 1000000 in
set_option maxRecDepth 100000 in
theorem getString_any (B b : Nat) (l : List UInt8) (w : World) (h : Pg B b l w) (h0 : l ≠ []) :
    Calls Tryz.prog 21 #[.pointer (some ⟨b, 0, none⟩)] w fun e w' => e = .returned (.string ⟨l.toArray⟩) ∧ Pg B b l w' ∧ Below B w w' := by
  obtain ⟨p, hp, hAt⟩ : ∃ p, (p = .pointer none ∨ p = .pointer (some ⟨b, 0, none⟩)) ∧ PgAt B b p l w := by
    rcases h with h | h
    · exact ⟨_, .inl rfl, h⟩
    · exact ⟨_, .inr rfl, h⟩
  obtain ⟨hB, v, hbk, hown, hne⟩ := hAt
  have hl0 : l.length ≠ 0 := by simpa using h0
  rw [Lib.byteCells_length] at hown
  obtain ⟨g, cap, cur, fz, rfl, hbg, hg, hfz, hnc, hcm, hcs, htake⟩ : ∃ g cap cur fz, v = .slice (some ⟨g, 0, none⟩) l.length cap ∧ B ≤ g ∧ w.heap[g]? = some (.cells cur 5 fz) ∧ fz.2 ≤ l.length * 1 ∧ l.length ≤ cap ∧ cap ≤ maxLen ∧ cur.size = cap * 1 ∧ cur.toList.take (l.length * 1) = Lib.byteCells l := by
    rcases hown.2 with ⟨_, hz⟩ | ⟨g, cap, cur, fz, hv, r⟩
    · exact absurd hz hl0
    · exact ⟨g, cap, cur, fz, hv, r⟩
  have c1 : w.drew.cell? ⟨b, 1, none⟩ = some (.slice (some ⟨g, 0, none⟩) l.length cap) := by
    have : w.drew.heap[b]? = some (.cells #[p, .slice (some ⟨g, 0, none⟩) l.length cap] 53 (0, 0)) := hbk
    rw [Lib.cell_of_heap this]; rfl
  have hSD : (Builtin.unsafeSliceData_ #[49] 87 #[.slice (some ⟨g, 0, none⟩) l.length cap]).run Tryz.prog w.drew = .ok (.pointer (some ⟨g, 0, none⟩)) w.drew :=
    Lib.run_unsafeSliceData_row _ _ _ _ _ _ (by omega)
  have hUS : (Builtin.unsafeString_ #[87, 3] 9 #[.pointer (some ⟨g, 0, none⟩), .int .i64 l.length]).run Tryz.prog w.drew = .ok (.string ⟨l.toArray⟩) (w.drew.freeze ⟨g, 0, none⟩ l.length) := by
    refine Lib.run_unsafeString_row w.drew 87 3 9 5 Tryz.underlying87 (by kernel_rfl) g cur.size (by have hg' : w.drew.heap[g]? = some (.cells cur 5 fz) := hg; simp [World.shape?, hg']) l h0 (by omega) (by unfold maxLen at hcm; omega) ?_
    intro j x hx
    exact hown.cells (g := g) rfl j (.int .u8 x.toNat) (by simp [Lib.byteCells, hx])
  have hkeep : Pg B b l (w.drew.freeze ⟨g, 0, none⟩ l.length) := by
    have hA : PgAt B b p l w.drew := ⟨hB, _, hbk, by rw [Lib.byteCells_length]; exact hown, hne⟩
    have hF := hA.froze (g := g) (cap := cap) (by rw [Lib.byteCells_length]; exact c1)
    rw [Lib.byteCells_length] at hF
    rcases hp with rfl | rfl
    · exact .inl hF
    · exact .inr hF
  go_enter Tryz.func21, Tryz.ntmps21
  go_wp2
  go_region
  all_goals (go_wp2; go_ret; exact ⟨rfl, hkeep, Lib.below_freeze (Below.drew (Below.refl B w)) (p := ⟨g, 0, none⟩) hbg _⟩)
end Go.Proofs.YtalfjaogpbndeaaGreatDoor

namespace Go.Proofs.YtalfjaogpbndeaaGreatDoor
open Go.RowKit

theorem Pg.drew {B b : Nat} {l : List UInt8} {w : World} (h : Pg B b l w) : Pg B b l w.drew := h.below (bl_drew (Below.refl _ _))
/-- Words with a space between. -/
def spaced (ws : List ByteArray) : List UInt8 := Lib.join (ws.map (·.data.toList)) [32]
def Lined (B b : Nat) (l : List UInt8) (w : World) (e : Ending) (w' : World) : Prop := e = .returned (.tuple #[]) ∧ Pg B b l w' ∧ Below B w w'
theorem lined_of {B b : Nat} {l : List UInt8} {w w1 w' : World} (h1 : Below B w w1) (h : PgAt B b (.pointer (some ⟨b, 0, none⟩)) l w' ∧ Below B w1 w') : Lined B b l w (.returned (.tuple #[])) w' := ⟨rfl, .inr h.1, h1.trans h.2⟩
set_option maxRecDepth 100000 in
set_option maxHeartbeats 1000000 in
theorem line_any (B b k : Nat) (l : List UInt8) (ws : List ByteArray) (w : World) (h : Pg B b l w) (hB : B ≤ w.heap.size) (hc : ∀ (j : Nat) x, ws[j]? = some x → w.cell? ⟨k, 0 + j, none⟩ = some (.string x)) (hk : k < w.heap.size) (hw : ws.length ≤ 10) (hl : l.length ≤ 50000) (hs : (spaced ws).length ≤ 40000) :
    Calls Tryz.prog 17 #[.pointer (some ⟨b, 0, none⟩), .slice (some ⟨k, 0, none⟩) ws.length ws.length] w (Lined B b (l ++ (spaced ws ++ [10])) w) := by
  have HJ : Hid (∀ W, Below w.heap.size w W → Calls Tryz.prog 39 #[.slice (some ⟨k, 0, none⟩) ws.length ws.length, .string ⟨#[32]⟩] W fun e w' => e = .returned (.string ⟨(spaced ws).toArray⟩) ∧ Below W.heap.size W w') := Lib.hid fun W hW =>
    Tryz.strings_Join k 0 ws.length ws ⟨#[32]⟩ W (fun j x hx => (hW.cell (p := ⟨k, 0 + j, none⟩) hk).trans (hc j x hx)) (Nat.lt_of_lt_of_le hk hW.size) (by omega) (Nat.le_refl _) (by have : (Lib.join (ws.map (·.data.toList)) (⟨#[32]⟩ : ByteArray).data.toList) = spaced ws := rfl; rw [this]; omega)
  have HP : Hid (∀ W, Below w.heap.size w W → Calls Tryz.prog 38 #[.pointer (some ⟨b, 0, none⟩), .string ⟨(spaced ws).toArray⟩] W fun e w' => e = .returned (.tuple #[.int .i64 (spaced ws).length, .nilIface]) ∧ PgAt B b (.pointer (some ⟨b, 0, none⟩)) (l ++ spaced ws) w' ∧ Below B w w') := Lib.hid fun W hW => by
    have e1 : (⟨(spaced ws).toArray⟩ : ByteArray).size = (spaced ws).length := by simp [ByteArray.size]
    refine (putString_any B b l ⟨(spaced ws).toArray⟩ W (h.below hW) (by omega) (by rw [e1]; omega) (Nat.le_trans hB hW.size)).mono ?_
    rintro e w' ⟨rfl, h1, h2⟩
    exact ⟨by rw [e1], h1, (hW.mono hB).trans h2⟩
  have HQ : Hid (∀ W, PgAt B b (.pointer (some ⟨b, 0, none⟩)) (l ++ spaced ws) W → Below B w W → Calls Tryz.prog 40 #[.pointer (some ⟨b, 0, none⟩), .int .u8 10] W fun e w' => e = .returned .nilIface ∧ Lined B b (l ++ (spaced ws ++ [10])) w (.returned (.tuple #[])) w') := Lib.hid fun W hP hW => by
    refine (putByte_any B b (l ++ spaced ws) 10 W (.inr hP) (by rw [List.length_append]; omega) (Nat.le_trans hB hW.size)).mono ?_
    rintro e w' ⟨rfl, h1⟩
    rw [List.append_assoc] at h1
    exact ⟨rfl, lined_of hW h1⟩
  generalize spaced ws = s at *
  clear h hc hs hl
  go_enter Tryz.func17, Tryz.ntmps17
  go_wp2_with fail
  go_region_with (first
    | (go_at_call 39; refine (HJ.out _ (bl_drew (Below.refl _ _))).mono ?_; rintro e w1 ⟨rfl, hb1⟩)
    | (go_at_call 38; refine (HP.out _ (below_two (bl_drew (Below.refl _ _)) hb1)).mono ?_; rintro e w2 ⟨rfl, hp2, hb2⟩))
  all_goals
    go_wp2_with (go_at_call 40; refine (HQ.out _ hp2 hb2).mono ?_; rintro e w3 ⟨rfl, h3⟩)
    go_end0
    exact h3
end Go.Proofs.YtalfjaogpbndeaaGreatDoor
