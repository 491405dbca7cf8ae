/-
  What table.Make and the reference's TableOf tell of the same hosts; likewise the rows.
-/
import Derived.Test.YteilefpjfbholaaGreatDoorRefTables
import Derived.Test.YteilefpjfbholaaGreatDoorTables
namespace Go.Proofs.YteilefpjfbholaaGreatDoor
open Go.RowKit

def IntsGood (xs : List Int) (w : World) (e : Ending) (w' : World) : Prop := ∃ A c, e = .returned (.tuple #[.slice A xs.length c, .nilIface]) ∧ Reads w' w'.heap.size 1 A xs.length (xs.map intV) ∧ Below w.heap.size w w'
def IntsPost (xs : List Int) (w : World) (e : Ending) (w' : World) : Prop := ∃ A c, e = .returned (.slice A xs.length c) ∧ Reads w' w'.heap.size 1 A xs.length (xs.map intV) ∧ Below w.heap.size w w'
/-- No fault. -/
def FineIs (w : World) (e : Ending) (w' : World) : Prop := e = .returned (.agg #[.int .i64 0, .int .i64 (-1)]) ∧ Below w.heap.size w w'
theorem fine_of {w w' : World} {e : Ending} (h : FaultPost none w e w') : FineIs w e w' := h
structure MakeYes (ea : Nat → Addr) (l : List ByteArray) (size : Int) (xs : List Int) : Prop where
  len : xs.length ≤ maxLen
  sz : size = (xs.length : Int)
  slot : ∀ i, i < xs.length → ∃ j : Nat, xs[i]? = some (j : Int) ∧ j < l.length
  make : ∀ W A c, ErrsT ea W → TxIn W A c l → Calls Tryz.prog 39 #[.slice A l.length c, .int .i64 size] W (IntsGood xs W)
  fault : ∀ W A c, TxIn W A c l → Calls Tryz.prog 34 #[.slice A l.length c, .int .i64 size] W (FineIs W)
  ref : ∀ W A c, TxIn W A c l → Calls Tryz.prog 37 #[.slice A l.length c, .int .i64 size] W (IntsPost xs W)
theorem fault_no (l : List ByteArray) (size : Int) (W : World) (A : Option Addr) (c : Nat) (hI : TxIn W A c l) : Calls Tryz.prog 34 #[.slice A l.length c, .int .i64 size] W (FaultPost (tableFault l size) W) :=
  tableFault_ref A c W.heap.size l size W hI.r (Nat.le_refl _) hI.lm hI.s
theorem make_yes (ea : Nat → Addr) (l : List ByteArray) (n : Nat) (hf : tableFault l (n : Int) = none) : MakeYes ea l (n : Int) (slotsI l n) := by
  obtain ⟨h0, ho, k, hk, h2, h5, hd⟩ := tableFault_none hf
  obtain rfl : n = k := by omega
  have hle := slotsI_length l n
  refine ⟨by rw [hle]; unfold maxLen; omega, by rw [hle], fun i hi => ?_, fun W A c hE hI => ?_, fun W A c hI => ?_, fun W A c hI => ?_⟩
  · obtain ⟨j, h1, h2, _⟩ := slots_host (l := l) h0 h2 hd (show i < n by omega)
    exact ⟨j, h1, h2⟩
  · refine (make_good ea A c l n W hE hI hf).mono fun e w' ⟨g, he, hB, _, hb⟩ => ⟨some ⟨g, 0, none⟩, n, by rw [hle]; exact he, ?_, hb⟩
    have := blk_reads hB
    rw [tableOf_length, tableOf_ints] at this
    rw [hle]; exact this
  · have := fault_no l (n : Int) W A c hI
    rw [hf] at this
    exact this.mono fun e w' h => fine_of h
  · refine (tableOf_ref A c l n W hI.r hI.lm hI.s h0 ho h2 h5 hd).mono fun e w' ⟨g, he, hB, _, hb⟩ => ⟨some ⟨g, 0, none⟩, n, by rw [hle]; exact he, ?_, hb⟩
    have := blk_reads hB
    rw [tableOf_length, tableOf_ints] at this
    rw [hle]; exact this
end Go.Proofs.YteilefpjfbholaaGreatDoor
