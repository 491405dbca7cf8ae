/-
  A cyclic sum in plain words: its steps can be turned back, so one byte that is turned is seen.
-/
import Init
namespace Go.Proofs.YtalfjaogpbndeaaDoor.Crc

def step (c : BitVec 32) : BitVec 32 := (c >>> 1) ^^^ (0xEDB88320#32 * (c &&& 1#32))
def steps : Nat → BitVec 32 → BitVec 32
  | 0, c => c
  | n + 1, c => step (steps n c)
def byte (c : BitVec 32) (b : UInt8) : BitVec 32 := steps 8 (c ^^^ BitVec.ofNat 32 b.toNat)
def crc (l : List UInt8) : BitVec 32 := l.foldl byte 0xFFFFFFFF#32
/-- The sum of a text. -/
def sum (l : List UInt8) : Nat := (~~~ crc l).toNat
theorem sum_lt (l : List UInt8) : sum l < 4294967296 := (~~~ crc l).isLt
theorem bit_cases (c : BitVec 32) : c &&& 1#32 = 0#32 ∨ c &&& 1#32 = 1#32 := by
  have h : (c &&& 1#32).toNat = c.toNat % 2 := by
    rw [BitVec.toNat_and]
    show c.toNat &&& 1 = _
    rw [Nat.and_one_is_mod]
  rcases Nat.mod_two_eq_zero_or_one c.toNat with h0 | h0
  · left; apply BitVec.eq_of_toNat_eq; rw [h, h0]; rfl
  · right; apply BitVec.eq_of_toNat_eq; rw [h, h0]; rfl
theorem step_msb (c : BitVec 32) : (step c).getLsbD 31 = c.getLsbD 0 := by
  have h0 : c.getLsbD 0 = (c &&& 1#32).getLsbD 0 := by simp
  unfold step
  rw [h0]
  rcases bit_cases c with h | h <;> rw [h] <;> simp <;> decide
theorem step_shift (c : BitVec 32) : c >>> 1 = step c ^^^ (if (step c).getLsbD 31 then 0xEDB88320#32 else 0#32) := by
  have hm := step_msb c
  have h0 : c.getLsbD 0 = (c &&& 1#32).getLsbD 0 := by simp
  rw [hm, h0]
  unfold step
  rcases bit_cases c with h | h <;> rw [h] <;> simp
  rw [BitVec.xor_assoc, BitVec.xor_self, BitVec.xor_zero]
theorem step_inj {a b : BitVec 32} (h : step a = step b) : a = b := by
  have h1 : a >>> 1 = b >>> 1 := by rw [step_shift a, step_shift b, h]
  have h2 : a.getLsbD 0 = b.getLsbD 0 := by rw [← step_msb, ← step_msb, h]
  apply BitVec.eq_of_getLsbD_eq
  intro i hi
  cases i with
  | zero => exact h2
  | succ i =>
    have := congrArg (fun x => x.getLsbD i) h1
    simp only [BitVec.getLsbD_ushiftRight] at this
    rwa [Nat.add_comm] at this
theorem steps_inj {n : Nat} {a b : BitVec 32} (h : steps n a = steps n b) : a = b := by
  induction n with
  | zero => exact h
  | succ n ih => exact ih (step_inj h)
theorem xor_left {a b c : BitVec 32} (h : a ^^^ c = b ^^^ c) : a = b := by
  have := congrArg (· ^^^ c) h
  simpa [BitVec.xor_assoc] using this
theorem byte_inj {a b : BitVec 32} {x : UInt8} (h : byte a x = byte b x) : a = b := xor_left (steps_inj h)
theorem byte_other {a : BitVec 32} {x y : UInt8} (h : byte a x = byte a y) : x = y := by
  have h1 := steps_inj h
  rw [BitVec.xor_comm a, BitVec.xor_comm a] at h1
  have h2 := congrArg BitVec.toNat (xor_left h1)
  simp only [BitVec.toNat_ofNat] at h2
  have hx := x.toNat_lt
  have hy := y.toNat_lt
  rw [Nat.mod_eq_of_lt (by omega), Nat.mod_eq_of_lt (by omega)] at h2
  exact UInt8.toNat_inj.1 h2
theorem fold_inj {l : List UInt8} : ∀ {a b : BitVec 32}, l.foldl byte a = l.foldl byte b → a = b := by
  induction l with
  | nil => exact fun h => h
  | cons x r ih => exact fun h => byte_inj (ih h)
/-- One byte that is turned turns the sum. -/
theorem sum_one {l r : List UInt8} {x y : UInt8} (h : sum (l ++ x :: r) = sum (l ++ y :: r)) : x = y := by
  unfold sum at h
  have h1 : crc (l ++ x :: r) = crc (l ++ y :: r) := by
    have := BitVec.eq_of_toNat_eq h
    simpa using congrArg (fun z => ~~~ z) this
  unfold crc at h1
  rw [List.foldl_append, List.foldl_append, List.foldl_cons, List.foldl_cons] at h1
  exact byte_other (fold_inj h1)
end Go.Proofs.YtalfjaogpbndeaaDoor.Crc
