/-
  The reference's flows in plain words: where a key lies, the least, what is put.
-/
import Derived.Test.YtlgnhifjakkodaaDoorRefLay
namespace Go.Proofs.YtlgnhifjakkodaaDoor
open Go.RowKit

theorem erase_delF {L : List Fl} (hr : Rise L) {i : Nat} (hi : i < L.length) : L.eraseIdx i = delF L[i].key L := by
  induction L generalizing i with
  | nil => simp at hi
  | cons z r ih =>
    obtain ⟨h1, h2⟩ := List.pairwise_cons.1 hr
    cases i with
    | zero =>
      show r = delF z.key (z :: r)
      unfold delF
      rw [List.filter_cons_of_neg (by simp)]
      exact (delF_none fun y hy => by have := h1 y hy; omega).symm
    | succ i =>
      have hi' : i < r.length := by simpa using hi
      have hz : z.key ≠ r[i].key := by have := h1 r[i] (List.getElem_mem _); omega
      show z :: r.eraseIdx i = delF r[i].key (z :: r)
      rw [ih h2 hi']
      unfold delF
      rw [List.filter_cons_of_pos (by simpa using hz)]
theorem posF_cases {L : List Fl} (k : Nat) : (∃ i, ∃ hi : i < L.length, posF L k = (i : Int) ∧ L[i].key = k) ∨ (posF L k = -1 ∧ findF L k = none) := by
  unfold posF
  cases h : L.findIdx? fun x => decide (x.key = k) with
  | none =>
    refine .inr ⟨rfl, ?_⟩
    rw [List.findIdx?_eq_none_iff] at h
    exact List.find?_eq_none.2 fun x hx => by simpa using h x hx
  | some i =>
    rw [List.findIdx?_eq_some_iff_getElem] at h
    obtain ⟨hi, h1, _⟩ := h
    exact .inl ⟨i, hi, rfl, by simpa using h1⟩
theorem findF_at {L : List Fl} (hr : Rise L) {i : Nat} (hi : i < L.length) : findF L L[i].key = some L[i] := findF_mem hr (List.getElem_mem _)
theorem room_hit {L : List Fl} {i k : Nat} (hr : Rise L) (hi : i < L.length) (h : L[i].key = k) : L.eraseIdx i = delF k (roomF L k) ∧ (L.eraseIdx i).length = L.length - 1 := by
  have hf := findF_at hr hi
  rw [h] at hf
  have e : roomF L k = L := by unfold roomF; rw [if_pos (.inl (by rw [hf]; rfl))]
  rw [e]
  refine ⟨?_, List.length_eraseIdx_of_lt hi⟩
  rw [erase_delF hr hi, h]
theorem room_free {L : List Fl} {k : Nat} (hf : findF L k = none) (hl : L.length < 200) : L = delF k (roomF L k) := by
  have e : roomF L k = L := by unfold roomF; rw [if_pos (.inr hl)]
  rw [e]
  exact (delF_none (findF_none hf)).symm
theorem room_full {L : List Fl} {k l : Nat} (hr : Rise L) (hf : findF L k = none) (hl : ¬ L.length < 200) (h : l < L.length) (hm : L[l] = minL L) : L.eraseIdx l = delF k (roomF L k) ∧ (L.eraseIdx l).length = L.length - 1 := by
  have e : roomF L k = delF (minL L).key L := by unfold roomF; rw [if_neg (by rw [hf]; simp; omega)]
  rw [e]
  refine ⟨?_, List.length_eraseIdx_of_lt h⟩
  rw [erase_delF hr h, hm]
  refine (delF_none fun x hx => findF_none hf x ?_).symm
  rw [← hm] at hx
  exact delF_mem hx
section
variable {w w' : World} {B mp time last : Nat} {L : List Fl} {sv : Value}
theorem notRow_blk {t : TypeId} {xs : Array Value} {g : Nat} (h : Blk w g t xs) (ht : t ≠ 37) : NotRow w g := fun cs fz h2 => by
  unfold Blk at h
  rw [h] at h2
  cases h2
  exact ht rfl
theorem RFs.tick (h : RFs w B mp time last L sv) (now : Nat) : RFs (w.setCell ⟨mp, 1, none⟩ (.int .i64 (now : Int))) B mp time now L sv ∧ Turn [mp] w (w.setCell ⟨mp, 1, none⟩ (.int .i64 (now : Int))) := by
  have hT : Turn [mp] w (w.setCell ⟨mp, 1, none⟩ (.int .i64 (now : Int))) := (Turn.refl [mp] w).setCell (p := ⟨mp, 1, none⟩) (.inl (by simp)) _
  have hN := notRow_blk h.blk (by decide)
  refine ⟨⟨h.blk.set_ 1 _, hT.own h.row (fun g hg hm => ?_), h.len, h.base⟩, hT⟩
  rw [List.mem_singleton] at hm
  rcases h.row.2 with ⟨rfl, _⟩ | ⟨g', cap, cur, rfl, _, hh, _⟩
  · simp [Value.ownBlock] at hg
  · have : g' = g := by simpa [Value.ownBlock] using hg
    subst this
    subst hm
    exact hN _ _ hh
end
end Go.Proofs.YtlgnhifjakkodaaDoor
