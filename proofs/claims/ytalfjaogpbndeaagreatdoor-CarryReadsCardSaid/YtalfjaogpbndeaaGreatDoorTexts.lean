/-
  The walks of what goes over lists of texts: slices.Index, slices.Contains, R.Index, SameTexts, LongHosts, OwnTexts.
-/
import Derived.Test.YtalfjaogpbndeaaGreatDoorName
namespace Go.Proofs.YtalfjaogpbndeaaGreatDoor
open Go.RowKit

def strV (l : List ByteArray) : List Value := l.map Value.string
theorem str_at {w : World} {B : Nat} {A : Option Addr} {l : List ByteArray} {k : Nat} (h : Reads w B 1 A l.length (strV l)) (hk : k < l.length) :
    ∃ ad, A = some ad ∧ w.cell? (ad.add k) = some (.string l[k]) := by
  obtain ⟨ad, u, hA, _, hx, hc⟩ := h.at_ hk
  refine ⟨ad, hA, ?_⟩
  rw [hc]
  simp [strV, hk] at hx
  rw [hx]
/-- The place of a text in a list, -1 where it is not. -/
def idx (l : List ByteArray) (s : ByteArray) : Int :=
  match l.findIdx? (fun t => decide (s = t)) with
  | some i => (i : Int)
  | none => -1
/-- Is a text in a list? -/
def has (l : List ByteArray) (s : ByteArray) : Bool := l.any fun t => decide (s = t)
theorem has_iff {l : List ByteArray} {s : ByteArray} : has l s = true ↔ s ∈ l := by
  unfold has
  rw [List.any_eq_true]
  constructor
  · rintro ⟨t, ht, he⟩; rw [of_decide_eq_true he]; exact ht
  · intro h; exact ⟨s, h, by simp⟩
theorem idx_hit {l : List ByteArray} {s : ByteArray} {k : Nat} (hk : k < l.length) (h : ∀ t ∈ l.take k, s ≠ t) (he : s = l[k]) : idx l s = k := by
  have : l.findIdx? (fun t => decide (s = t)) = some k := by
    rw [List.findIdx?_eq_some_iff_getElem]
    refine ⟨hk, by simpa using he, fun j hj => ?_⟩
    simpa using h l[j] (List.mem_take_iff_getElem.2 ⟨j, by omega, rfl⟩)
  unfold idx; rw [this]
theorem idx_miss {l : List ByteArray} {s : ByteArray} (h : ∀ t ∈ l, s ≠ t) : idx l s = -1 := by
  have : l.findIdx? (fun t => decide (s = t)) = none := by
    rw [List.findIdx?_eq_none_iff]
    intro t ht
    simpa using h t ht
  unfold idx; rw [this]
theorem idx_mem {l : List ByteArray} {s : ByteArray} (h : s ∈ l) : ∃ k : Nat, k < l.length ∧ idx l s = k ∧ l[k]? = some s := by
  unfold idx
  cases hf : l.findIdx? (fun t => decide (s = t)) with
  | none =>
    rw [List.findIdx?_eq_none_iff] at hf
    have := hf s h
    simp at this
  | some i =>
    rw [List.findIdx?_eq_some_iff_getElem] at hf
    obtain ⟨hi, he, _⟩ := hf
    exact ⟨i, hi, rfl, by rw [List.getElem?_eq_getElem hi]; rw [of_decide_eq_true he]⟩
theorem idx_nonneg (l : List ByteArray) (s : ByteArray) : decide (0 ≤ idx l s) = has l s := by
  by_cases h : s ∈ l
  · obtain ⟨k, _, hi, _⟩ := idx_mem h
    rw [hi, has_iff.2 h]; simp
  · have hm : ∀ t ∈ l, s ≠ t := by rintro t ht rfl; exact h ht
    rw [idx_miss hm, Bool.eq_false_iff.2 (fun h' => h (has_iff.1 h'))]; rfl
theorem str_eq (s t : ByteArray) : (s.toList == t.toList) = decide (s = t) := by
  rw [Lib.toList_data, Lib.toList_data, Bool.eq_iff_iff, beq_iff_eq, decide_eq_true_iff]
  constructor
  · intro h
    cases s; cases t
    simp only at h
    congr
    exact Array.toList_inj.1 h
  · rintro rfl; rfl
theorem take_miss {l : List ByteArray} {s : ByteArray} {k : Nat} (hk : k < l.length) (h : Hid (∀ t ∈ l.take k, s ≠ t)) (hn : s ≠ l[k]) : Hid (∀ t ∈ l.take (k + 1), s ≠ t) := by
  refine Lib.hid fun t ht => ?_
  rw [List.take_succ_eq_append_getElem hk, List.mem_append, List.mem_singleton] at ht
  rcases ht with ht | rfl
  · exact h.out t ht
  · exact hn
theorem all_miss {l : List ByteArray} {s : ByteArray} {k : Nat} (hk : l.length ≤ k) (h : Hid (∀ t ∈ l.take k, s ≠ t)) : ∀ t ∈ l, s ≠ t := by
  have := h.out
  rwa [List.take_of_length_le hk] at this

def IdxPost (l : List ByteArray) (s : ByteArray) (w : World) (e : Ending) (w' : World) : Prop := e = .returned (.int .i64 (idx l s)) ∧ w = w'

end Go.Proofs.YtalfjaogpbndeaaGreatDoor
