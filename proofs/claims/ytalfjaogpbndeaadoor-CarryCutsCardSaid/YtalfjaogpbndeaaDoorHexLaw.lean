/-
  What is written in sixteens is read.
-/
import Derived.Test.YtalfjaogpbndeaaDoorHexPlain
namespace Go.Proofs.YtalfjaogpbndeaaDoor.Hex

theorem dig_hd : ∀ m : Fin 16, dig (hd m.val) = some m.val := by decide
theorem rd_append : ∀ (l r : List UInt8) (acc a : Nat), rd acc l = .ok a → rd acc (l ++ r) = rd a r
  | [], r, acc, a, h => by
    simp only [rd, End.ok.injEq] at h
    subst h
    rfl
  | c :: l, r, acc, a, h => by
    rw [List.cons_append]
    simp only [rd] at h ⊢
    cases hd : dig c with
    | none => rw [hd] at h; cases h
    | some d =>
      rw [hd] at h
      simp only at h ⊢
      split at h
      · cases h
      · rename_i hc
        rw [if_neg hc]
        exact rd_append l r _ a h
theorem rd_wr (n : Nat) (hn : n < 18446744073709551616) : rd 0 (wr n) = .ok n := by
  by_cases h : n < 16
  · rw [wr_lo h]
    have := dig_hd ⟨n, h⟩
    simp only [rd] at this ⊢
    rw [this]
    simp
  · rw [wr_hi h, rd_append _ _ 0 (n / 16) (rd_wr (n / 16) (by omega))]
    have := dig_hd ⟨n % 16, by omega⟩
    simp only [rd] at this ⊢
    rw [this]
    simp only
    rw [if_neg (by omega)]
    congr 1
    omega
termination_by n
theorem rd_zeros : ∀ k : Nat, rd 0 (List.replicate k 48) = .ok 0
  | 0 => rfl
  | k + 1 => by
    rw [List.replicate_succ, rd]
    exact rd_zeros k
theorem wr_ne (n : Nat) : wr n ≠ [] := by
  by_cases h : n < 16
  · rw [wr_lo h]; simp
  · rw [wr_hi h]; simp
theorem read_text (n d : Nat) (hn : n < 18446744073709551616) : read (text n d) = .ok n := by
  unfold read text
  rw [if_neg (by simp [wr_ne]), rd_append _ _ 0 0 (rd_zeros _), rd_wr n hn]
theorem text_len (n d : Nat) (h : (wr n).length ≤ d) : (text n d).length = d := by
  simp [text]; omega
theorem keyOf_text (n d : Nat) (hn : n < 18446744073709551616) (h : (wr n).length ≤ d) : keyOf (text n d) d = some n := by
  rw [keyOf, read_text n d hn]
  simp [text_len n d h]
theorem keyOf_some {l : List UInt8} {d n : Nat} (h : keyOf l d = some n) : l = text n d ∧ l.length = d := by
  unfold keyOf at h
  split at h
  · split at h
    · rename_i hc
      cases h
      exact ⟨hc.2.symm, hc.1⟩
    · cases h
  · cases h
end Go.Proofs.YtalfjaogpbndeaaDoor.Hex
