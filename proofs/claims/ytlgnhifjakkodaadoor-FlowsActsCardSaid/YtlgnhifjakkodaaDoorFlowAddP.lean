/-
  Flows that are added, in plain words.
-/
import Derived.Test.YtlgnhifjakkodaaDoorFlowPut
namespace Go.Proofs.YtlgnhifjakkodaaDoor
open Go.RowKit

/-- May a flow be added? -/
def addOk (now : Int) (L : List Fl) (x : Fl) : Bool := (findF L x.key).isNone && (decide (now < x.til) && (decide (x.til ≤ now + 1000) && decide (L.length < 200)))
def add1 (now : Int) (L : List Fl) (x : Fl) : List Fl := if addOk now L x = true then insF x L else L
def addF (now : Int) (L : List Fl) (xs : List Fl) : List Fl := xs.foldl (add1 now) L
/-- Where the first host without a name is. -/
def badAt (xs : List Fl) : Option Nat := xs.findIdx? fun x => !isName x.host
section
variable {now : Int} {L xs : List Fl} {x : Fl}
theorem addOk_parts : addOk now L x = true ↔ findF L x.key = none ∧ now < x.til ∧ x.til ≤ now + 1000 ∧ L.length < 200 := by
  simp [addOk]
theorem Rise.add1 (h : Rise L) (x : Fl) : Rise (add1 now L x) := by
  unfold Go.Proofs.YtlgnhifjakkodaaDoor.add1
  split
  · rename_i h1
    exact h.ins (findF_none (addOk_parts.1 h1).1)
  · exact h
theorem add1_len (h : L.length ≤ 200) (x : Fl) : (add1 now L x).length ≤ 200 ∧ L.length ≤ (add1 now L x).length := by
  unfold add1
  split
  · rename_i h1
    have := (addOk_parts.1 h1).2.2.2
    rw [insF_length]
    omega
  · omega
theorem addF_take (k : Nat) (hk : k < xs.length) : addF now L (xs.take (k + 1)) = add1 now (addF now L (xs.take k)) xs[k] := by
  unfold addF
  rw [List.take_succ_eq_append_getElem hk, List.foldl_append]
  rfl
theorem addF_rise (h : Rise L) : Rise (addF now L xs) := by
  induction xs generalizing L with
  | nil => exact h
  | cons x r ih => exact ih (h.add1 x)
theorem addF_len (h : L.length ≤ 200) : (addF now L xs).length ≤ 200 ∧ L.length ≤ (addF now L xs).length := by
  induction xs generalizing L with
  | nil => exact ⟨h, Nat.le_refl _⟩
  | cons x r ih =>
    obtain ⟨h1, h2⟩ := add1_len (now := now) h x
    obtain ⟨h3, h4⟩ := ih h1
    exact ⟨h3, Nat.le_trans h2 h4⟩
theorem badAt_hit {i : Nat} (hi : i < xs.length) (h : isName xs[i].host = false) (hall : ∀ j (hj : j < xs.length), j < i → isName xs[j].host = true) : badAt xs = some i := by
  unfold badAt
  rw [List.findIdx?_eq_some_iff_getElem]
  exact ⟨hi, by simpa using h, fun j hj => by simpa using hall j (by omega) hj⟩
theorem badAt_none (hall : ∀ j (hj : j < xs.length), isName xs[j].host = true) : badAt xs = none := by
  unfold badAt
  rw [List.findIdx?_eq_none_iff]
  intro x hx
  obtain ⟨j, hj, rfl⟩ := List.getElem_of_mem hx
  simpa using hall j hj
end
end Go.Proofs.YtlgnhifjakkodaaDoor
