/-
  Sorting by insertion at the first place that fits, in plain words.
-/
import Derived.Sort.Lot0
namespace Go.Proofs.YteilefpjfbholaaGreatDoor
open Go.Sort

section
variable {α : Type}
/-- x behind all of the first that satisfy p. -/
def insP (p : α → Bool) (x : α) (out : List α) : List α := out.takeWhile p ++ x :: out.dropWhile p
theorem insP_perm (p : α → Bool) (x : α) (out : List α) : (insP p x out).Perm (x :: out) := by
  unfold insP
  have h := List.perm_middle (a := x) (l₁ := out.takeWhile p) (l₂ := out.dropWhile p)
  rwa [List.takeWhile_append_dropWhile] at h
theorem insP_sorted {lt : α → α → Bool} (hn : ∀ x y z, lt x y = false → lt y z = false → lt x z = false) {p : α → Bool} {x : α} (h1 : ∀ y, p y = true → lt x y = false) (h2 : ∀ y, p y = false → lt y x = false) :
    ∀ out : List α, out.Pairwise (fun a b => lt b a = false) → (insP p x out).Pairwise fun a b => lt b a = false
  | [], _ => by simp [insP]
  | y :: r, h => by
      obtain ⟨hy, hr⟩ := List.pairwise_cons.1 h
      cases hp : p y with
      | true =>
        have ih := insP_sorted hn h1 h2 r hr
        have e : insP p x (y :: r) = y :: insP p x r := by simp [insP, hp]
        rw [e]
        refine List.pairwise_cons.2 ⟨fun z hz => ?_, ih⟩
        rcases List.mem_cons.1 ((insP_perm p x r).mem_iff.1 hz) with rfl | hz
        · exact h1 _ hp
        · exact hy z hz
      | false =>
        have e : insP p x (y :: r) = x :: y :: r := by simp [insP, hp]
        rw [e]
        refine List.pairwise_cons.2 ⟨fun z hz => ?_, h⟩
        rcases List.mem_cons.1 hz with rfl | hz
        · exact h2 _ hp
        · exact hn _ _ _ (hy z hz) (h2 y hp)
/-- All of l, one by one. -/
def insAll (p : α → α → Bool) (l : List α) : List α := l.foldl (fun out x => insP (p x) x out) []
theorem insAll_snoc (p : α → α → Bool) (l : List α) (x : α) : insAll p (l ++ [x]) = insP (p x) x (insAll p l) := by simp [insAll, List.foldl_append]
theorem insAll_perm (p : α → α → Bool) : ∀ l : List α, (insAll p l).Perm l := by
  intro l
  have h : ∀ (l out : List α), (l.foldl (fun out x => insP (p x) x out) out).Perm (out ++ l) := by
    intro l
    induction l with
    | nil => intro out; simp
    | cons x l ih =>
      intro out
      rw [List.foldl_cons]
      refine (ih _).trans ?_
      exact ((insP_perm (p x) x out).append_right l).trans (by simpa using (List.perm_middle (a := x) (l₁ := out) (l₂ := l)).symm)
  simpa [insAll] using h l []
theorem insAll_sorted {lt : α → α → Bool} (hn : ∀ x y z, lt x y = false → lt y z = false → lt x z = false) {p : α → α → Bool} (h1 : ∀ x y, p x y = true → lt x y = false) (h2 : ∀ x y, p x y = false → lt y x = false) (l : List α) :
    (insAll p l).Pairwise fun a b => lt b a = false := by
  have h : ∀ (l out : List α), out.Pairwise (fun a b => lt b a = false) → (l.foldl (fun out x => insP (p x) x out) out).Pairwise fun a b => lt b a = false := by
    intro l
    induction l with
    | nil => intro out ho; exact ho
    | cons x l ih =>
      intro out ho
      rw [List.foldl_cons]
      exact ih _ (insP_sorted hn (h1 x) (h2 x) out ho)
  exact h l [] List.Pairwise.nil
/-- Where the search stops. -/
theorem ins_stop {p : α → Bool} : ∀ {out : List α} {k : Nat}, k ≤ out.length → (∀ y ∈ out.take k, p y = true) → (∀ y, out[k]? = some y → p y = false) → out.take k = out.takeWhile p ∧ out.drop k = out.dropWhile p
  | [], k, hk, _, _ => by simp at hk; subst hk; simp
  | y :: r, 0, _, _, h2 => by
      have := h2 y rfl
      simp [this]
  | y :: r, k + 1, hk, h1, h2 => by
      have hy : p y = true := h1 y (by simp)
      obtain ⟨a, b⟩ := ins_stop (p := p) (out := r) (k := k) (by simpa using hk) (fun z hz => h1 z (by simp [hz])) (fun z hz => h2 z (by simpa using hz))
      simp [hy, a, b]
theorem insP_at {p : α → Bool} {x : α} {out : List α} {k : Nat} (hk : k ≤ out.length) (h1 : ∀ y ∈ out.take k, p y = true) (h2 : ∀ y, out[k]? = some y → p y = false) : insP p x out = out.take k ++ x :: out.drop k := by
  obtain ⟨a, b⟩ := ins_stop hk h1 h2
  rw [insP, a, b]
theorem all_take_succ {p : α → Bool} {out : List α} {k : Nat} (hk : k < out.length) (h : ∀ y ∈ out.take k, p y = true) (hp : p out[k] = true) : ∀ y ∈ out.take (k + 1), p y = true := by
  intro y hy
  rw [List.take_succ_eq_append_getElem hk] at hy
  rcases List.mem_append.1 hy with hy | hy
  · exact h y hy
  · obtain rfl : y = out[k] := by simpa using hy
    exact hp
end
end Go.Proofs.YteilefpjfbholaaGreatDoor
