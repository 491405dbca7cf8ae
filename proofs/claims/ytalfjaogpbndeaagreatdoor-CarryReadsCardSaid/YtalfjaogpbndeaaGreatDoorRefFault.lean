/-
  The walks of the reference's faults: Bare, Fine, HostsFault, HealthFault; SameTexts.
-/
import Derived.Test.YtalfjaogpbndeaaGreatDoorRefHosts
import Derived.Test.YtalfjaogpbndeaaGreatDoorBare
namespace Go.Proofs.YtalfjaogpbndeaaGreatDoor
open Go.RowKit

def fCode (o : Option Flt) : Nat := match o with | none => 0 | some f => f.code
def fAt (o : Option Flt) : Int := match o with | none => -1 | some f => match f.place with | none => -1 | some i => (i : Int)
/-- The reference's fault. -/
def FaultPost (o : Option Flt) (w : World) (e : Ending) (w' : World) : Prop := e = .returned (.agg #[.int .i64 (fCode o : Int), .int .i64 (fAt o)]) ∧ Below w.heap.size w w'

theorem idx_lt {l : List ByteArray} {k : Nat} (hk : k < l.length) : decide (idx l l[k] < (k : Int)) = has (l.take k) l[k] := by
  obtain ⟨j, hj, hi, hg⟩ := idx_mem (List.getElem_mem hk)
  by_cases h : l[k] ∈ l.take k
  · rw [has_iff.2 h]
    obtain ⟨i, hil, hie⟩ := List.mem_iff_getElem.1 h
    rw [List.length_take] at hil
    have hik : i < k := by omega
    have hie2 : l[i] = l[k] := by rw [← hie, List.getElem_take]
    rw [decide_eq_true_iff, hi]
    rcases Nat.lt_or_ge j k with hlt | hge
    · omega
    · exfalso
      have : idx l l[k] ≤ (i : Int) := by
        have hb : i < l.length := by omega
        unfold idx
        cases hf : l.findIdx? (fun t => decide (l[k] = t)) with
        | none => simp
        | some m =>
          rw [List.findIdx?_eq_some_iff_getElem] at hf
          obtain ⟨hm, _, hall⟩ := hf
          rcases Nat.lt_or_ge i m with h2 | h2
          · have := hall i h2
            simp [hie2] at this
          · simp; omega
      omega
  · rw [Bool.eq_false_iff.2 (fun h' => h (has_iff.1 h')), decide_eq_false_iff_not, hi]
    intro hlt
    apply h
    rw [List.getElem?_eq_getElem hj] at hg
    rw [← Option.some.inj hg]
    exact List.mem_iff_getElem.2 ⟨j, by rw [List.length_take]; omega, by rw [List.getElem_take]⟩

def retFault (o : Option Flt) : Value := .agg #[.int .i64 (fCode o : Int), .int .i64 (fAt o)]
theorem faultPost_of {o o' : Option Flt} {w w' : World} {e : Ending} (h : o = o') (he : e = .returned (retFault o')) (hb : Below w.heap.size w w') : FaultPost o w e w' := by subst h; exact ⟨he, hb⟩

end Go.Proofs.YtalfjaogpbndeaaGreatDoor
