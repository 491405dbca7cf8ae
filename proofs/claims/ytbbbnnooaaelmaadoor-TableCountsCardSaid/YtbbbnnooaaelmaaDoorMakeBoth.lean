/-
  What table.Make and the reference's TableOf tell of the same hosts; likewise the rows.
-/
import Derived.Test.YtbbbnnooaaelmaaDoorRefTables
import Derived.Test.YtbbbnnooaaelmaaDoorTables
namespace Go.Proofs.YtbbbnnooaaelmaaDoor
open Go.RowKit

def IntsGood (xs : List Int) (w : World) (e : Ending) (w' : World) : Prop := ∃ A c, e = .returned (.tuple #[.slice A xs.length c, .nilIface]) ∧ Reads w' w'.heap.size 1 A xs.length (xs.map intV) ∧ Below w.heap.size w w'
def IntsPost (xs : List Int) (w : World) (e : Ending) (w' : World) : Prop := ∃ A c, e = .returned (.slice A xs.length c) ∧ Reads w' w'.heap.size 1 A xs.length (xs.map intV) ∧ Below w.heap.size w w'
/-- No fault. -/
def FineIs (w : World) (e : Ending) (w' : World) : Prop := e = .returned (.agg #[.int .i64 0, .int .i64 (-1)]) ∧ Below w.heap.size w w'
theorem fine_of {w w' : World} {e : Ending} (h : FaultPost none w e w') : FineIs w e w' := h
def MakeNo (ea : Nat → Addr) (l : List ByteArray) (size : Int) (f : Flt) : Prop :=
  (∀ W A c, ErrsT ea W → TxIn W A c l → Calls Tryd.prog 14 #[.slice A l.length c, .int .i64 size] W (SortedBad ea f W)) ∧
    ∀ W A c, TxIn W A c l → Calls Tryd.prog 48 #[.slice A l.length c, .int .i64 size] W (FaultPost (some f) W)
structure MakeYes (ea : Nat → Addr) (l : List ByteArray) (size : Int) (xs : List Int) : Prop where
  len : xs.length ≤ maxLen
  sz : size = (xs.length : Int)
  slot : ∀ i, i < xs.length → ∃ j : Nat, xs[i]? = some (j : Int) ∧ j < l.length
  make : ∀ W A c, ErrsT ea W → TxIn W A c l → Calls Tryd.prog 14 #[.slice A l.length c, .int .i64 size] W (IntsGood xs W)
  fault : ∀ W A c, TxIn W A c l → Calls Tryd.prog 48 #[.slice A l.length c, .int .i64 size] W (FineIs W)
  ref : ∀ W A c, TxIn W A c l → Calls Tryd.prog 49 #[.slice A l.length c, .int .i64 size] W (IntsPost xs W)
theorem fault_no (l : List ByteArray) (size : Int) (W : World) (A : Option Addr) (c : Nat) (hI : TxIn W A c l) : Calls Tryd.prog 48 #[.slice A l.length c, .int .i64 size] W (FaultPost (tableFault l size) W) :=
  tableFault_ref A c W.heap.size l size W hI.r (Nat.le_refl _) hI.lm hI.s
theorem make_yes (ea : Nat → Addr) (l : List ByteArray) (n : Nat) (hf : tableFault l (n : Int) = none) : MakeYes ea l (n : Int) (slotsI l n) := by
  obtain ⟨h0, ho, k, hk, h2, h5, hd⟩ := tableFault_none hf
  obtain rfl : n = k := by omega
  have hle := slotsI_length l n
  refine ⟨by rw [hle]; unfold maxLen; omega, by rw [hle], fun i hi => ?_, fun W A c hE hI => ?_, fun W A c hI => ?_, fun W A c hI => ?_⟩
  · obtain ⟨j, h1, h2, _⟩ := slots_host (l := l) h0 h2 hd (show i < n by omega)
    exact ⟨j, h1, h2⟩
  · refine (make_good ea A c l n W hE hI hf).mono fun e w' ⟨g, he, hB, _, hb⟩ => ⟨some ⟨g, 0, none⟩, n, by rw [hle]; exact he, ?_, hb⟩
    have := blk_reads hB
    rw [tableOf_length, tableOf_ints] at this
    rw [hle]; exact this
  · have := fault_no l (n : Int) W A c hI
    rw [hf] at this
    exact this.mono fun e w' h => fine_of h
  · refine (tableOf_ref A c l n W hI.r hI.lm hI.s h0 ho h2 h5 hd).mono fun e w' ⟨g, he, hB, _, hb⟩ => ⟨some ⟨g, 0, none⟩, n, by rw [hle]; exact he, ?_, hb⟩
    have := blk_reads hB
    rw [tableOf_length, tableOf_ints] at this
    rw [hle]; exact this
theorem make_both (ea : Nat → Addr) (l : List ByteArray) (size : Int) : (∃ f : Flt, 1 ≤ f.code ∧ f.code ≤ 9 ∧ MakeNo ea l size f) ∨ ∃ xs, MakeYes ea l size xs := by
  cases hf : tableFault l size with
  | some f =>
    obtain ⟨h1, h9⟩ := tableFault_code hf
    refine .inl ⟨f, h1, h9, fun W A c hE hI => make_bad ea A c l size f W hE hI hf, fun W A c hI => ?_⟩
    have := fault_no l size W A c hI
    rwa [hf] at this
  | none =>
    obtain ⟨_, _, k, rfl, _, _, _⟩ := tableFault_none hf
    exact .inr ⟨_, make_yes ea l k hf⟩
/-! Rows. -/
def RowNo (ea : Nat → Addr) (s : ByteArray) (size : Int) (k : Nat) : Prop := ∀ W, ErrsT ea W → Calls Tryd.prog 17 #[.string s, .int .i64 size] W (SortedBad ea ⟨k, none⟩ W)
structure RowYes (ea : Nat → Addr) (s : ByteArray) (size : Int) (ys : List Int) : Prop where
  len : ys.length ≤ maxLen
  row : ∀ W, ErrsT ea W → Calls Tryd.prog 17 #[.string s, .int .i64 size] W (IntsGood ys W)
  ref : ∀ W, Calls Tryd.prog 52 #[.string s, .int .i64 size] W (IntsPost ys W)
def rowI (s : ByteArray) (n : Nat) : List Int := (rowL s n).map fun k : Nat => (k : Int)
theorem rowI_length (s : ByteArray) (n : Nat) : (rowI s n).length = n := by simp [rowI, rowL_length]
theorem rowI_ints (s : ByteArray) (n : Nat) : (rowI s n).map intV = numsV (rowL s n) := by
  unfold rowI numsV
  rw [List.map_map]; rfl
theorem rowI_ints2 (s : ByteArray) (n : Nat) : (rowI s n).map intV = (List.range n).map fun i => Value.int .i64 (rowAt s n i : Int) := by
  unfold rowI rowL
  rw [List.map_map, List.map_map]; rfl
theorem sizeFault_none2 {n : Int} (h : sizeFault n = none) : ∃ k : Nat, n = (k : Int) ∧ 2 ≤ k ∧ k ≤ 503 := by
  unfold sizeFault at h
  split at h
  · cases h
  · exact ⟨n.toNat, by omega, by omega, by omega⟩
theorem row_both (ea : Nat → Addr) (s : ByteArray) (size : Int) (hs : s.size ≤ maxLen) : (isName s = false ∧ RowNo ea s size 4) ∨ (isName s = true ∧ ∃ k : Nat, 1 ≤ k ∧ k ≤ 9 ∧ sizeCode size = k ∧ RowNo ea s size k) ∨ (isName s = true ∧ sizeCode size = 0 ∧ ∃ ys, RowYes ea s size ys) := by
  cases hN : isName s with
  | false => exact .inl ⟨rfl, fun W hE => row_bad ea s size ⟨4, none⟩ W hs hE (by unfold rowFault; rw [hN]; rfl)⟩
  | true =>
    right
    cases hz : sizeFault size with
    | some f =>
      obtain ⟨h1, h9⟩ := sizeFault_code hz
      have hp := sizeFault_bare hz
      refine .inl ⟨rfl, f.code, h1, h9, by unfold sizeCode; rw [hz], fun W hE => row_bad ea s size ⟨f.code, none⟩ W hs hE ?_⟩
      unfold rowFault
      rw [hN, if_pos rfl, hz, ← hp]
    | none =>
      obtain ⟨n, rfl, h2, h5⟩ := sizeFault_none2 hz
      have hle := rowI_length s n
      refine .inr ⟨rfl, by unfold sizeCode; rw [hz], rowI s n, by rw [hle]; unfold maxLen; omega, fun W hE => ?_, fun W => ?_⟩
      · refine (row_ok ea s n W hs hE hN hz h2 h5).mono fun e w' ⟨g, he, hB, _, hb⟩ => ⟨some ⟨g, 0, none⟩, n, by rw [hle]; exact he, ?_, hb⟩
        have := blk_reads hB
        rw [← rowI_ints2, List.length_map] at this
        exact this
      · refine (rowOf_ref s n W hs h2 h5).mono fun e w' ⟨A, c, he, ho, hb⟩ => ⟨A, c, by rw [hle, he, rowL_length], ?_, hb⟩
        have := Reads.of_own ho
        rw [rowI_ints, hle]
        rw [rowL_length] at this
        exact this
end Go.Proofs.YtbbbnnooaaelmaaDoor
