/-
  What is written in tens is read.
-/
import Derived.Test.YtalfjaogpbndeaaDoorNumKey
namespace Go.Proofs.YtalfjaogpbndeaaDoor
open Go.Lib

theorem pu_append : ∀ (l r : List UInt8) (acc a : Nat), parseUint10 acc l = .ok a → parseUint10 acc (l ++ r) = parseUint10 a r
  | [], r, acc, a, h => by
    simp only [parseUint10] at h
    injection h with h
    subst h
    rfl
  | c :: l, r, acc, a, h => by
    rw [List.cons_append]
    simp only [parseUint10] at h ⊢
    split at h
    · rename_i h1
      rw [if_pos h1]
      split at h
      · cases h
      · rename_i h2
        rw [if_neg h2]
        split at h
        · cases h
        · rename_i h3
          rw [if_neg h3]
          exact pu_append l r _ a h
    · cases h
theorem tenth (m : Nat) (h : m < 10) : (UInt8.ofNat (48 + m)).toNat = 48 + m := by
  rw [UInt8.toNat_ofNat']
  omega
theorem pu_digits (n : Nat) (hn : n < 9223372036854775808) : parseUint10 0 (decDigits n) = .ok n := by
  by_cases h : n < 10
  · rw [decDigits, dif_pos h]
    simp only [parseUint10]
    rw [tenth n h]
    rw [if_pos (by omega), if_neg (by omega), if_neg (by omega)]
    congr 1
    omega
  · rw [decDigits, dif_neg h, pu_append _ _ 0 (n / 10) (pu_digits (n / 10) (by omega))]
    simp only [parseUint10]
    rw [tenth _ (by omega)]
    rw [if_pos (by omega), if_neg (by omega), if_neg (by omega)]
    congr 1
    omega
termination_by n
theorem digits_head (n : Nat) : ∃ c r, decDigits n = c :: r ∧ c.toNat ≠ 43 ∧ c.toNat ≠ 45 := by
  by_cases h : n < 10
  · exact ⟨_, [], by rw [decDigits, dif_pos h], by rw [tenth n h]; omega, by rw [tenth n h]; omega⟩
  · obtain ⟨c, r, e, h1, h2⟩ := digits_head (n / 10)
    exact ⟨c, r ++ [UInt8.ofNat (48 + n % 10)], by rw [decDigits, dif_neg h, e]; rfl, h1, h2⟩
termination_by n
theorem atoi_digits (n : Nat) (hn : n < 9223372036854775808) : atoiAll (decDigits n) = .ok (n : Int) := by
  have hp := pu_digits n hn
  obtain ⟨c, r, e, h1, h2⟩ := digits_head n
  rw [e] at hp ⊢
  rw [atoiAll_plain c r h1 h2, parseMag, if_neg (by simp), hp, signless, if_neg (by omega)]
theorem numOf_digits (n : Nat) (hn : n < 9223372036854775808) (hl : (decDigits n).length ≤ 14) : numOf (decDigits n) = some n := by
  unfold numOf
  rw [atoi_digits n hn]
  simp only
  rw [if_pos ⟨hl, by omega, itoa_nonneg n⟩]
  simp
theorem numOf_some {l : List UInt8} {n : Nat} (h : numOf l = some n) : l = decDigits n ∧ l.length ≤ 14 := by
  unfold numOf at h
  split at h
  · split at h
    · rename_i v _ hc
      have hv := Option.some.inj h
      have e : v = (n : Int) := by omega
      rw [e, itoa_nonneg] at hc
      exact ⟨hc.2.2.symm, hc.1⟩
    · cases h
  · cases h
end Go.Proofs.YtalfjaogpbndeaaDoor
