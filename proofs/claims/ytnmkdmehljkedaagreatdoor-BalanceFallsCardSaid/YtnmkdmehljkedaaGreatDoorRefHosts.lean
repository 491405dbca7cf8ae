/-
  The walks of the reference's words on hosts: LongHosts, IsName, Index, SameTexts, HostsFault.
-/
import Derived.Test.YtnmkdmehljkedaaGreatDoorErrs
namespace Go.Proofs.YtnmkdmehljkedaaGreatDoor
open Go.RowKit

/-- Too long for a statement? -/
def longH (l : List ByteArray) : Bool := decide (30 < l.length) || l.any fun s => decide (60 < s.size)
def LongIs (b : Bool) (w : World) (e : Ending) (w' : World) : Prop := e = .returned (.int .i64 (if b then 1 else 0)) ∧ w = w'
theorem long_no {l : List ByteArray} (h : longH l = false) : l.length ≤ 30 ∧ ∀ s ∈ l, s.size ≤ 60 := by
  unfold longH at h
  rw [Bool.or_eq_false_iff, List.any_eq_false] at h
  exact ⟨by simpa using h.1, fun s hs => by simpa using h.2 s hs⟩
theorem long_hit {l : List ByteArray} {k : Nat} (hk : k < l.length) (h : 60 < l[k].size) : longH l = true := by
  unfold longH
  rw [List.any_eq_true.2 ⟨_, List.getElem_mem hk, by simpa using h⟩, Bool.or_true]
theorem long_end {l : List ByteArray} (h30 : l.length ≤ 30) (h : ∀ s ∈ l.take l.length, s.size ≤ 60) : longH l = false := by
  unfold longH
  rw [List.take_length] at h
  rw [decide_eq_false (by omega), List.any_eq_false.2 fun s hs => by have := h s hs; simp; omega]; rfl
theorem longIs_of {l : List ByteArray} {b : Bool} {w : World} (h : longH l = b) : LongIs (longH l) w (.returned (.int .i64 (if b then 1 else 0))) w := by rw [h]; exact ⟨rfl, rfl⟩
theorem all_succ {α : Type} {l : List α} {k : Nat} {P : α → Prop} (hk : k < l.length) (h : ∀ t ∈ l.take k, P t) (hn : P l[k]) : ∀ t ∈ l.take (k + 1), P t := by
  intro t ht
  rw [List.take_succ_eq_append_getElem hk, List.mem_append, List.mem_singleton] at ht
  rcases ht with ht | rfl
  · exact h t ht
  · exact hn

/-! IsName -/
def NameQ (b : Bool) (w : World) (e : Ending) (w' : World) : Prop := e = .returned (.bool b) ∧ w = w'
theorem nameQ_of {s : ByteArray} {b : Bool} {w : World} (h : isName s = b) : NameQ (isName s) w (.returned (.bool b)) w := by rw [h]; exact ⟨rfl, rfl⟩
theorem nums_at (s : ByteArray) {k : Nat} (hk : k < s.size) : (nums s)[k]'(by rw [nums_length]; exact hk) = s[k].toNat := by simp [nums]; rfl
theorem isName_bad {s : ByteArray} {k : Nat} (hk : k < s.size) (h : nb s[k].toNat = false) : isName s = false := by
  have : ((nums s).any fun n => !nb n) = true := any_hit (k := k) (by rw [nums_length]; exact hk) (by rw [nums_at s hk, h]; rfl)
  unfold isName; rw [this]; simp
theorem isName_first {s : ByteArray} (hk : 0 < s.size) (h : s[0].toNat < 97 ∨ 122 < s[0].toNat) : isName s = false := by
  unfold isName; rw [nums_zero s hk]
  rcases h with h | h
  · rw [decide_eq_false (show ¬ 97 ≤ s[0].toNat by omega)]; simp
  · rw [decide_eq_false (show ¬ s[0].toNat ≤ 122 by omega)]; simp
theorem isName_len {s : ByteArray} (h : s.size < 1 ∨ 12 < s.size) : isName s = false := by
  unfold isName; rw [nums_length]
  rcases h with h | h
  · rw [decide_eq_false (show ¬ 0 < s.size by omega)]; simp
  · rw [decide_eq_false (show ¬ s.size ≤ 12 by omega)]; simp
/-- What is known behind k rounds. -/
def NameTo (s : ByteArray) (k : Nat) : Prop := (∀ (h : 0 < s.size), 0 < k → 97 ≤ s[0].toNat ∧ s[0].toNat ≤ 122) ∧ ((nums s).take k).any (fun n => !nb n) = false
theorem nameTo_succ {s : ByteArray} {k : Nat} (hk : k < s.size) (h : NameTo s k) (hb : nb s[k].toNat = true) (h0 : k = 0 → 97 ≤ s[k].toNat ∧ s[k].toNat ≤ 122) : NameTo s (k + 1) := by
  refine ⟨fun hs _ => ?_, any_step (by rw [nums_length]; exact hk) h.2 (by rw [nums_at s hk, hb]; rfl)⟩
  rcases Nat.eq_zero_or_pos k with rfl | hp
  · exact h0 rfl
  · exact h.1 hs hp
theorem isName_yes {s : ByteArray} (h1 : 1 ≤ s.size) (h12 : s.size ≤ 12) (h : NameTo s s.size) : isName s = true := by
  have ha := h.2
  rw [← nums_length, List.take_length] at ha
  have hf := h.1 (by omega) (by omega)
  unfold isName
  rw [nums_zero s (by omega), nums_length, decide_eq_true (show 0 < s.size by omega), decide_eq_true h12, decide_eq_true hf.1, decide_eq_true hf.2, ha]; rfl
theorem nb_letter {n : Nat} (h : 97 ≤ n ∧ n ≤ 122) : nb n = true := by simp [nb, h.1, h.2]
theorem nb_other {n : Nat} (h : 48 ≤ n ∧ n ≤ 57 ∨ n = 45) : nb n = true := by rcases h with ⟨a, b⟩ | rfl <;> simp [nb, *]
theorem nb_no {n : Nat} (h1 : n < 97 ∨ 122 < n) (h2 : n < 48 ∨ 57 < n) (h3 : n ≠ 45) : nb n = false := by simp [nb]; omega

end Go.Proofs.YtnmkdmehljkedaaGreatDoor
