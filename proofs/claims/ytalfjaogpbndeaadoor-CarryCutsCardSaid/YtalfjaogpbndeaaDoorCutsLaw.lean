/-
  The law of cutting: what is joined is cut again.
-/
import Derived.Test.YtalfjaogpbndeaaDoorCuts
namespace Go.Proofs.YtalfjaogpbndeaaDoor

theorem cuts_none (c : UInt8) : ∀ l : List UInt8, c ∉ l → cuts c l = [l]
  | [], _ => rfl
  | x :: r, h => by
    have hx : ¬ x = c := fun e => h (by rw [e]; exact List.mem_cons_self)
    rw [cuts, if_neg hx, cuts_none c r (fun m => h (List.mem_cons_of_mem _ m))]
    rfl
theorem cuts_cons (c : UInt8) : ∀ (l r : List UInt8), c ∉ l → cuts c (l ++ c :: r) = l :: cuts c r
  | [], r, _ => by rw [List.nil_append, cuts, if_pos rfl]
  | x :: l, r, h => by
    have hx : ¬ x = c := fun e => h (by rw [e]; exact List.mem_cons_self)
    rw [List.cons_append, cuts, if_neg hx, cuts_cons c l r (fun m => h (List.mem_cons_of_mem _ m))]
    rfl
/-- Whole lines, each ended by c. -/
theorem cuts_lines (c : UInt8) : ∀ ls : List (List UInt8), (∀ l ∈ ls, c ∉ l) → cuts c (ls.flatMap fun l => l ++ [c]) = ls ++ [[]]
  | [], _ => rfl
  | l :: ls, h => by
    rw [List.flatMap_cons, List.append_assoc, List.singleton_append, cuts_cons c l _ (h l List.mem_cons_self), cuts_lines c ls (fun m hm => h m (List.mem_cons_of_mem _ hm))]
    rfl
end Go.Proofs.YtalfjaogpbndeaaDoor
