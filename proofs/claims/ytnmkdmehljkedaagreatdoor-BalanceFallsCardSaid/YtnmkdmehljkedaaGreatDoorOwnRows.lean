/-
  A row of the call's own, and what the library's functions lay into it: over any program.
-/
import Derived.Test.YtnmkdmehljkedaaGreatDoorKeep
import Derived.Sort.Grow
import Derived.Shelf.GgSortFunc.RowK
namespace Go.Proofs.YtnmkdmehljkedaaGreatDoor
open Go.RowKit Go.Sort

section
variable {w : World} {B g n cap size : Nat} {e : TypeId} {xs ys : List Value}
theorem own_open (h : w.ownsRow B e size (.slice (some ⟨g, 0, none⟩) n cap) n xs) : xs.length = n * size ∧ B ≤ g ∧ n ≤ cap ∧ cap ≤ maxLen ∧ ∃ cur, w.heap[g]? = some (.cells cur e (0, 0)) ∧ cur.size = cap * size ∧ cur.toList.take (n * size) = xs := by
  rcases h.2 with ⟨h', _⟩ | ⟨g', cap', cur, h', hb, hh, h1, h2, h3, h4⟩
  · cases h'
  · injection h' with ha hn hc
    injection ha with ha
    injection ha with ha
    subst ha; subst hc
    exact ⟨h.1, hb, h1, h2, cur, hh, h3, h4⟩
theorem own_holds (h : w.ownsRow B e size (.slice (some ⟨g, 0, none⟩) n cap) n xs) : Holds id w g 0 xs.toArray := by
  obtain ⟨hl, _, _, _, cur, hh, _, ht⟩ := own_open h
  intro j hj
  have hj' : j < xs.length := by simpa using hj
  refine ⟨?_, by simp [World.frozen?, hh]⟩
  rw [Nat.zero_add, h.cellAt j (by omega)]
  simp [hj']
theorem heap_put {w : World} {g n : Nat} {os : Array Obj} {cur : Array Value} {e : TypeId} {fr : Nat × Nat} (d : Array Value) (hb : w.heap[g]? = some (.cells cur e fr)) :
    (grow (putRow id (Sort.ahead w n) g 0 d) os).heap[g]? = some (.cells (putCells id 0 d cur) e fr) := by
  have hg : g < w.heap.size := (Array.getElem?_eq_some_iff.1 hb).1
  rw [heap_grow_old _ _ (by simpa using hg)]
  simp [putRow, mapBlock, Sort.ahead, Array.getElem?_modify, hb, onCells]
theorem grownBy_put {w : World} {g n : Nat} {os : Array Obj} (d : Array Value) : w.grownBy (grow (putRow id (Sort.ahead w n) g 0 d) os) (some g) := by
  refine ⟨rfl, rfl, rfl, by simp, fun k hk hne => ?_⟩
  rw [heap_grow_old _ _ (by simpa using hk)]
  have : g ≠ k := fun e => hne (by rw [e])
  simp [putRow, mapBlock, Sort.ahead, Array.getElem?_modify, this]
theorem take_put (cur : Array Value) (ts : List Value) (h : ts.length ≤ cur.size) : (putCells id 0 ts.toArray cur).toList.take ts.length = ts := by
  apply List.ext_getElem?
  intro j
  by_cases hj : j < ts.length
  · rw [List.getElem?_take_of_lt hj, Array.getElem?_toList]
    simp [putCells, hj, show j < cur.size by omega]
  · rw [List.getElem?_take_eq_none (by omega), List.getElem?_eq_none (by omega)]
/-- Laid anew. -/
theorem own_put (h : w.ownsRow B e size (.slice (some ⟨g, 0, none⟩) n cap) n xs) (hl : ys.length = xs.length) (q : Nat) (os : Array Obj) :
    (grow (putRow id (Sort.ahead w q) g 0 ys.toArray) os).ownsRow B e size (.slice (some ⟨g, 0, none⟩) n cap) n ys ∧ w.grownBy (grow (putRow id (Sort.ahead w q) g 0 ys.toArray) os) (some g) := by
  obtain ⟨hx, hb, h1, h2, cur, hh, h3, _⟩ := own_open h
  refine ⟨⟨by rw [hl, hx], .inr ⟨g, cap, _, rfl, hb, heap_put _ hh, h1, h2, by simp [putCells, h3], ?_⟩⟩, grownBy_put _⟩
  rw [← hx, ← hl]
  exact take_put cur ys (by rw [hl, hx, h3]; exact Nat.mul_le_mul_right _ h1)
/-- Cut shorter. -/
theorem own_cut {m : Nat} (h : w.ownsRow B e size (.slice (some ⟨g, 0, none⟩) n cap) n xs) (hm : m ≤ n) : w.ownsRow B e size (.slice (some ⟨g, 0, none⟩) m cap) m (xs.take (m * size)) := by
  obtain ⟨hx, hb, h1, h2, cur, hh, h3, ht⟩ := own_open h
  have hms := Nat.mul_le_mul_right size hm
  refine ⟨by rw [List.length_take, hx]; exact Nat.min_eq_left hms, .inr ⟨g, cap, cur, rfl, hb, hh, by omega, h2, h3, ?_⟩⟩
  rw [← ht, List.take_take, Nat.min_eq_left hms]
end
theorem holds_map {α : Type} [Inhabited α] (enc : α → Value) {w : World} {g : Nat} {d : Array α} (h : Holds id w g 0 (d.map enc)) : Holds enc w g 0 d := by
  intro j hj
  have := h j (by simpa using hj)
  simpa [hj] using this
theorem putRow_map {α : Type} [Inhabited α] (enc : α → Value) (w : World) (g : Nat) (d : Array α) : putRow enc w g 0 d = putRow id w g 0 (d.map enc) := by
  unfold putRow
  apply mapBlock_congr
  intro c e fr _
  unfold putCells
  apply Array.ext
  · simp
  · intro i h1 h2
    simp only [Array.getElem_mapIdx, Array.size_map, Nat.zero_le, true_and, Nat.zero_add, Nat.sub_zero]
    split
    · rename_i h; simp [h]
    · rfl
end Go.Proofs.YtnmkdmehljkedaaGreatDoor
