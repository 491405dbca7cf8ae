/-
  Errors by numbers: what an error value is, and the first fault of a list of hosts.
-/
import Derived.Test.YtalfjaogpbndeaaGreatDoorTexts
import Derived.Test.YtalfjaogpbndeaaGreatDoorLaid
namespace Go.Proofs.YtalfjaogpbndeaaGreatDoor
open Go.RowKit

/-- The variable of an error's number. -/
def gv : Nat → Nat
  | 1 => 1
  | 2 => 0
  | 3 => 5
  | 4 => 3
  | 5 => 6
  | 6 => 4
  | 7 => 7
  | 8 => 8
  | _ => 2

/-- An error's number, and its place. -/
structure Flt where
  code : Nat
  place : Option Nat

/-- What an error value is. -/
def IsErr (ea : Nat → Addr) (w : World) (f : Flt) (t : TypeId) (a : Addr) : Prop :=
  match f.place with
  | none => t = 174 ∧ a = ea (gv f.code)
  | some i => t = 77 ∧ ∃ b, a = ⟨b, 0, none⟩ ∧ Blk w b 79 #[.int .i64 (i : Int), .iface 174 (.pointer (some (ea (gv f.code))))]
def ErrPost (ea : Nat → Addr) (f : Flt) (w : World) (e : Ending) (w' : World) : Prop := ∃ t a, e = .returned (.iface t (.pointer (some a))) ∧ IsErr ea w' f t a ∧ Below w.heap.size w w'

theorem IsErr.below {ea : Nat → Addr} {w w' : World} {f : Flt} {t : TypeId} {a : Addr} (h : IsErr ea w f t a) (hb : Below w.heap.size w w') : IsErr ea w' f t a := by
  unfold IsErr at h ⊢
  split
  · rename_i hf; rw [hf] at h; exact h
  · rename_i i hf
    rw [hf] at h
    obtain ⟨ht, b, ha, hB⟩ := h
    exact ⟨ht, b, ha, hB.below hb hB.lt⟩

/-- The first fault from place i on. -/
def faultGo (l : List ByteArray) : Nat → Nat → Option Flt
  | 0, _ => none
  | f + 1, i => match l[i]? with
    | none => none
    | some s => if isName s = false then some ⟨4, some i⟩ else if has (l.take i) s = true then some ⟨6, some i⟩ else faultGo l f (i + 1)
def hostsFault (l : List ByteArray) : Option Flt := if 12 < l.length then some ⟨2, none⟩ else faultGo l l.length 0

theorem faultGo_step {l : List ByteArray} {k : Nat} (hk : k < l.length) (h1 : isName l[k] = true) (h2 : has (l.take k) l[k] = false) : faultGo l (l.length - k) k = faultGo l (l.length - (k + 1)) (k + 1) := by
  obtain ⟨m, hm⟩ : ∃ m, l.length - k = m + 1 := ⟨l.length - k - 1, by omega⟩
  rw [hm, faultGo, List.getElem?_eq_getElem hk]
  simp only [h1, h2, Bool.true_eq_false, Bool.false_eq_true, if_false]
  rw [show l.length - (k + 1) = m from by omega]
theorem faultGo_name {l : List ByteArray} {k : Nat} (hk : k < l.length) (h1 : isName l[k] = false) : faultGo l (l.length - k) k = some ⟨4, some k⟩ := by
  obtain ⟨m, hm⟩ : ∃ m, l.length - k = m + 1 := ⟨l.length - k - 1, by omega⟩
  rw [hm, faultGo, List.getElem?_eq_getElem hk]
  simp only [h1, if_true]
theorem faultGo_exist {l : List ByteArray} {k : Nat} (hk : k < l.length) (h1 : isName l[k] = true) (h2 : has (l.take k) l[k] = true) : faultGo l (l.length - k) k = some ⟨6, some k⟩ := by
  obtain ⟨m, hm⟩ : ∃ m, l.length - k = m + 1 := ⟨l.length - k - 1, by omega⟩
  rw [hm, faultGo, List.getElem?_eq_getElem hk]
  simp only [h1, h2, Bool.true_eq_false, if_false, if_true]
theorem faultGo_end {l : List ByteArray} {k : Nat} (hk : l.length ≤ k) : faultGo l (l.length - k) k = none := by rw [Nat.sub_eq_zero_of_le hk]; rfl
end Go.Proofs.YtalfjaogpbndeaaGreatDoor
