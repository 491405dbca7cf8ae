/-
  Numbers in sixteens in plain words: how a text is read, how a number is written.
  What is written in sixteens is read.
-/
import Init
namespace Go.Proofs.YtalfjaogpbndeaaGreatDoor.Hex

def low (c : UInt8) : Nat := (c ||| 32).toNat
/-- The digit that the library reads in a byte (either case). -/
def dig (c : UInt8) : Option Nat :=
  if 48 ≤ c.toNat ∧ c.toNat ≤ 57 then some (c.toNat - 48)
  else if 97 ≤ low c ∧ low c < 103 then some (low c - 87) else none
/-- How a number ends: read, no such text, too great. -/
inductive End where
  | ok (n : Nat)
  | bad
  | big
deriving DecidableEq
def rd : Nat → List UInt8 → End
  | acc, [] => .ok acc
  | acc, c :: r => match dig c with
    | none => .bad
    | some d => if 1152921504606846976 ≤ acc then .big else rd (acc * 16 + d) r
def read (l : List UInt8) : End := if l = [] then .bad else rd 0 l
theorem dig_lt {c : UInt8} {d : Nat} (h : dig c = some d) : d < 16 := by
  unfold dig at h
  split at h
  · rename_i h1
    cases h
    omega
  · split at h
    · rename_i h2
      cases h
      omega
    · cases h
/-- The letter of a digit. -/
def hd (n : Nat) : UInt8 := if n < 10 then UInt8.ofNat (48 + n) else UInt8.ofNat (87 + n)
/-- A number's letters, no needless zeros. -/
def wr (n : Nat) : List UInt8 := if _h : n < 16 then [hd n] else wr (n / 16) ++ [hd (n % 16)]
termination_by n
theorem wr_lo {n : Nat} (h : n < 16) : wr n = [hd n] := by rw [wr, dif_pos h]
theorem wr_hi {n : Nat} (h : ¬ n < 16) : wr n = wr (n / 16) ++ [hd (n % 16)] := by rw [wr, dif_neg h]
theorem wr_len : ∀ (d n : Nat), n < 16 ^ (d + 1) → (wr n).length ≤ d + 1
  | 0, n, h => by rw [wr_lo (by omega)]; simp
  | d + 1, n, h => by
    by_cases hn : n < 16
    · rw [wr_lo hn]; simp
    · rw [wr_hi hn, List.length_append, List.length_singleton]
      have := wr_len d (n / 16) (by rw [Nat.pow_succ] at h; omega)
      omega
theorem rd_lt : ∀ (l : List UInt8) (acc n : Nat), rd acc l = .ok n → n < (acc + 1) * 16 ^ l.length
  | [], acc, n, h => by
    simp only [rd, End.ok.injEq] at h
    simp
    omega
  | c :: r, acc, n, h => by
    simp only [rd] at h
    cases hd : dig c with
    | none => rw [hd] at h; cases h
    | some d =>
      rw [hd] at h
      simp only at h
      split at h
      · cases h
      · have h1 := rd_lt r _ n h
        have h2 := dig_lt hd
        have h3 : (acc * 16 + d + 1) * 16 ^ r.length ≤ ((acc + 1) * 16) * 16 ^ r.length := Nat.mul_le_mul_right _ (by omega)
        rw [List.length_cons, Nat.pow_succ, Nat.mul_comm (16 ^ r.length) 16, ← Nat.mul_assoc]
        exact Nat.lt_of_lt_of_le h1 h3
theorem rd_64 : ∀ (l : List UInt8) (acc n : Nat), acc < 18446744073709551616 → rd acc l = .ok n → n < 18446744073709551616
  | [], acc, n, ha, h => by
    simp only [rd, End.ok.injEq] at h
    omega
  | c :: r, acc, n, ha, h => by
    simp only [rd] at h
    cases hd : dig c with
    | none => rw [hd] at h; cases h
    | some d =>
      rw [hd] at h
      simp only at h
      split at h
      · cases h
      · exact rd_64 r _ n (by have := dig_lt hd; omega) h
theorem read_64 {l : List UInt8} {n : Nat} (h : read l = .ok n) : n < 18446744073709551616 := by
  unfold read at h
  split at h
  · cases h
  · exact rd_64 l 0 n (by omega) h
theorem read_len {l : List UInt8} {n : Nat} (h : read l = .ok n) : (wr n).length ≤ l.length := by
  unfold read at h
  split at h
  · cases h
  · rename_i hne
    have h1 := rd_lt l 0 n h
    cases l with
    | nil => exact absurd rfl hne
    | cons c r => exact wr_len r.length n (by simpa using h1)
/-- A number in so many letters. -/
def text (n d : Nat) : List UInt8 := List.replicate (d - (wr n).length) 48 ++ wr n
/-- What a word of d letters says: a number, just so written. -/
def keyOf (l : List UInt8) (d : Nat) : Option Nat :=
  match read l with
  | .ok n => if l.length = d ∧ text n d = l then some n else none
  | _ => none
end Go.Proofs.YtalfjaogpbndeaaGreatDoor.Hex

namespace Go.Proofs.YtalfjaogpbndeaaGreatDoor.Hex

theorem dig_hd : ∀ m : Fin 16, dig (hd m.val) = some m.val := by decide
theorem rd_append : ∀ (l r : List UInt8) (acc a : Nat), rd acc l = .ok a → rd acc (l ++ r) = rd a r
  | [], r, acc, a, h => by
    simp only [rd, End.ok.injEq] at h
    subst h
    rfl
  | c :: l, r, acc, a, h => by
    rw [List.cons_append]
    simp only [rd] at h ⊢
    cases hd : dig c with
    | none => rw [hd] at h; cases h
    | some d =>
      rw [hd] at h
      simp only at h ⊢
      split at h
      · cases h
      · rename_i hc
        rw [if_neg hc]
        exact rd_append l r _ a h
theorem rd_wr (n : Nat) (hn : n < 18446744073709551616) : rd 0 (wr n) = .ok n := by
  by_cases h : n < 16
  · rw [wr_lo h]
    have := dig_hd ⟨n, h⟩
    simp only [rd] at this ⊢
    rw [this]
    simp
  · rw [wr_hi h, rd_append _ _ 0 (n / 16) (rd_wr (n / 16) (by omega))]
    have := dig_hd ⟨n % 16, by omega⟩
    simp only [rd] at this ⊢
    rw [this]
    simp only
    rw [if_neg (by omega)]
    congr 1
    omega
termination_by n
theorem rd_zeros : ∀ k : Nat, rd 0 (List.replicate k 48) = .ok 0
  | 0 => rfl
  | k + 1 => by
    rw [List.replicate_succ, rd]
    exact rd_zeros k
theorem wr_ne (n : Nat) : wr n ≠ [] := by
  by_cases h : n < 16
  · rw [wr_lo h]; simp
  · rw [wr_hi h]; simp
theorem read_text (n d : Nat) (hn : n < 18446744073709551616) : read (text n d) = .ok n := by
  unfold read text
  rw [if_neg (by simp [wr_ne]), rd_append _ _ 0 0 (rd_zeros _), rd_wr n hn]
theorem text_len (n d : Nat) (h : (wr n).length ≤ d) : (text n d).length = d := by
  simp [text]; omega
theorem keyOf_text (n d : Nat) (hn : n < 18446744073709551616) (h : (wr n).length ≤ d) : keyOf (text n d) d = some n := by
  rw [keyOf, read_text n d hn]
  simp [text_len n d h]
theorem keyOf_some {l : List UInt8} {d n : Nat} (h : keyOf l d = some n) : l = text n d ∧ l.length = d := by
  unfold keyOf at h
  split at h
  · split at h
    · rename_i hc
      cases h
      exact ⟨hc.2.symm, hc.1⟩
    · cases h
  · cases h
end Go.Proofs.YtalfjaogpbndeaaGreatDoor.Hex
