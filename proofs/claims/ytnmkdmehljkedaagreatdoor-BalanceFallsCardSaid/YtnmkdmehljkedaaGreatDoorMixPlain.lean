/-
  Turn by plain numbers of 64 bits, and that it can be turned back.
-/
namespace Go.Proofs.YtnmkdmehljkedaaGreatDoor
namespace Mx

def turnB (z : BitVec 64) : BitVec 64 :=
  let z := z + 0x9E3779B97F4A7C15#64
  let z := (z ^^^ z >>> 30) * 0xBF58476D1CE4E5B9#64
  let z := (z ^^^ z >>> 27) * 0x94D049BB133111EB#64
  z ^^^ z >>> 31
def backB (x : BitVec 64) : BitVec 64 :=
  let x := x ^^^ x >>> 31 ^^^ x >>> 62
  let x := x * 0x319642B2D24D8EC3#64
  let x := x ^^^ x >>> 27 ^^^ x >>> 54
  let x := x * 0x96DE1B173F119089#64
  let x := x ^^^ x >>> 30 ^^^ x >>> 60
  x - 0x9E3779B97F4A7C15#64
theorem unshift (z : BitVec 64) (s : Nat) (h : 64 ≤ 3 * s) : (z ^^^ z >>> s) ^^^ (z ^^^ z >>> s) >>> s ^^^ (z ^^^ z >>> s) >>> (2 * s) = z := by
  apply BitVec.eq_of_getLsbD_eq
  intro i hi
  simp only [BitVec.getLsbD_xor, BitVec.getLsbD_ushiftRight]
  have h3 : z.getLsbD (s + (2 * s + i)) = false := BitVec.getLsbD_of_ge _ _ (by omega)
  rw [show s + (s + i) = 2 * s + i from by omega, h3]
  cases z.getLsbD i <;> cases z.getLsbD (s + i) <;> cases z.getLsbD (2 * s + i) <;> rfl
theorem back_turn (a : BitVec 64) : backB (turnB a) = a := by
  unfold backB turnB
  simp only
  rw [unshift _ 31 (by omega)]
  rw [BitVec.mul_assoc, show (0x94D049BB133111EB#64 * 0x319642B2D24D8EC3#64) = 1#64 from by decide, BitVec.mul_one]
  rw [unshift _ 27 (by omega)]
  rw [BitVec.mul_assoc, show (0xBF58476D1CE4E5B9#64 * 0x96DE1B173F119089#64) = 1#64 from by decide, BitVec.mul_one]
  rw [unshift _ 30 (by omega)]
  exact BitVec.add_sub_cancel _ _
theorem turn_inj {a b : BitVec 64} (h : turnB a = turnB b) : a = b := by rw [← back_turn a, h, back_turn]

/-- On numbers. -/
def turn (k : Nat) : Nat := (turnB (BitVec.ofNat 64 k)).toNat
theorem turn_lt (k : Nat) : turn k < 18446744073709551616 := (turnB (BitVec.ofNat 64 k)).isLt
end Mx
end Go.Proofs.YtnmkdmehljkedaaGreatDoor
