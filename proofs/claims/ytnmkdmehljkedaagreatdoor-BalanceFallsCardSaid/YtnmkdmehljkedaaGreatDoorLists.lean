/-
  Lists of texts in memory of the call's own.
-/
import Derived.Test.YtnmkdmehljkedaaGreatDoorErrs
namespace Go.Proofs.YtnmkdmehljkedaaGreatDoor
open Go.RowKit

theorem info_string : (Tryz.prog.info? 9).map (fun i => (i.zero, i.size, i.bytes)) = some (some (.string ⟨#[]⟩), 1, 16) := by kernel_rfl
/-- A list of texts in memory of the call's own. -/
def TextsPost (l : List ByteArray) (w : World) (e : Ending) (w' : World) : Prop := ∃ A cap, e = .returned (.slice A l.length cap) ∧ w'.ownsRow w.heap.size 9 1 (.slice A l.length cap) l.length (strV l) ∧ Below w.heap.size w w'
theorem textsPost_of {l : List ByteArray} {w w' : World} {v : Value} (h : w'.ownsRow w.heap.size 9 1 v l.length (strV l)) (hb : Below w.heap.size w w') : TextsPost l w (.returned v) w' := by
  obtain ⟨A, cap, rfl, _⟩ := own_slice h
  exact ⟨A, cap, rfl, h, hb⟩

theorem lit_reads (w : World) (l : List ByteArray) (cs : Array Value) (h : cs = (strV l).toArray) : Reads (w.alloc (.cells cs 9)) (w.heap.size + 1) 1 (some ⟨w.heap.size, 0, none⟩) l.length (strV l) := by
  subst h
  have hB := Blk.new w 9 (strV l).toArray
  refine ⟨by simp [strV], fun _ => ⟨_, rfl, by simp, fun j u hu => ?_⟩⟩
  have e : ((⟨w.heap.size, 0, none⟩ : Addr).add j) = ⟨w.heap.size, j, none⟩ := by
    by_cases h0 : j = 0
    · subst h0; rfl
    · simp [Addr.add, h0]
  rw [e, hB.cell j]
  simpa using hu
def nmA : ByteArray := ⟨#[97]⟩
theorem nmA_fault : hostsFault [nmA] = none := by decide +kernel
/-- What a right list of hosts is. -/
theorem faultGo_none {l : List ByteArray} : ∀ (n k : Nat), l.length - k = n → (faultGo l n k = none ↔ ∀ (i : Nat) (h : i < l.length), k ≤ i → isName l[i] = true ∧ has (l.take i) l[i] = false)
  | 0, k, hn => by
      constructor
      · intro _ i hi hk; omega
      · intro _; rfl
  | n + 1, k, hn => by
      have hk : k < l.length := by omega
      have ih := faultGo_none (l := l) n (k + 1) (by omega)
      rw [faultGo, List.getElem?_eq_getElem hk]
      dsimp only
      cases h1 : isName l[k] with
      | false =>
        rw [if_pos rfl]
        constructor
        · intro h; cases h
        · intro h; have := (h k hk (Nat.le_refl _)).1; rw [h1] at this; cases this
      | true =>
        rw [if_neg (by decide)]
        cases h2 : has (l.take k) l[k] with
        | true =>
          rw [if_pos rfl]
          constructor
          · intro h; cases h
          · intro h; have := (h k hk (Nat.le_refl _)).2; rw [h2] at this; cases this
        | false =>
          rw [if_neg (by decide), ih]
          constructor
          · intro h i hi hki
            rcases Nat.lt_or_eq_of_le hki with hlt | rfl
            · exact h i hi hlt
            · exact ⟨h1, h2⟩
          · intro h i hi hki
            exact h i hi (by omega)
theorem hostsFault_none {l : List ByteArray} : hostsFault l = none ↔ l.length ≤ 12 ∧ (∀ s ∈ l, isName s = true) ∧ l.Nodup := by
  unfold hostsFault
  by_cases h12 : 12 < l.length
  · rw [if_pos h12]
    constructor
    · intro h; cases h
    · intro h; omega
  rw [if_neg h12, faultGo_none (l := l) l.length 0 (by omega)]
  constructor
  · intro h
    refine ⟨by omega, fun s hs => ?_, ?_⟩
    · obtain ⟨i, hi, rfl⟩ := List.mem_iff_getElem.1 hs
      exact (h i hi (Nat.zero_le _)).1
    · rw [List.Nodup, List.pairwise_iff_getElem]
      intro i j hi hj hij e
      have := (h j hj (Nat.zero_le _)).2
      rw [← Bool.not_eq_true, has_iff] at this
      exact this (List.mem_iff_getElem.2 ⟨i, by rw [List.length_take]; omega, by rw [List.getElem_take]; exact e⟩)
  · rintro ⟨_, h1, h2⟩ i hi _
    refine ⟨h1 _ (List.getElem_mem hi), ?_⟩
    rw [← Bool.not_eq_true, has_iff]
    intro hm
    obtain ⟨j, hj, hje⟩ := List.mem_iff_getElem.1 hm
    rw [List.length_take] at hj
    rw [List.getElem_take] at hje
    exact List.pairwise_iff_getElem.1 h2 j i (by omega) hi (by omega) hje
end Go.Proofs.YtnmkdmehljkedaaGreatDoor
