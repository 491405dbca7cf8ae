/-
  The reference's ScoreOf; its order by insertion, in plain words.
-/
import Derived.Test.YtbbbnnooaaelmaaDoorRefNumber
import Derived.Test.YtbbbnnooaaelmaaDoorRivalOrder
import Derived.Test.YtbbbnnooaaelmaaDoorInsPlain
namespace Go.Proofs.YtbbbnnooaaelmaaDoor
open Go.RowKit Go.Sort

theorem scoreOf_any (s : ByteArray) (key : Nat) (w : World) (hs : s.size ≤ maxLen) (hk : U64 key) : Calls Tryd.prog 60 #[.string s, .int .u64 (key : Int)] w (NumIs (score s key) w) := by
  have H1 : Hid (Calls Tryd.prog 24 #[.string s, .int .u64 3] w (NumIs (ofN s 3) w)) := Lib.hid (numberOf_any s 3 w hs (by unfold U64; omega))
  have H2 : Hid (∀ W, Calls Tryd.prog 26 #[.int .u64 (ofN s 3 : Int)] W (NumIs (Mx.turn (ofN s 3)) W)) := Lib.hid (fun W => turnOf_any (ofN s 3) W (ofN_lt s 3))
  have H3 : Hid (∀ W, Calls Tryd.prog 26 #[.int .u64 (((BitVec.ofNat 64 (Mx.turn (ofN s 3)) ^^^ BitVec.ofNat 64 key).toNat : Nat) : Int)] W (NumIs (score s key) W)) := Lib.hid (fun W => turnOf_any _ W (bv_u64 _))
  have e : bits .xor .u64 ((Mx.turn (ofN s 3) : Nat) : Int) (key : Int) = (((BitVec.ofNat 64 (Mx.turn (ofN s 3)) ^^^ BitVec.ofNat 64 key).toNat : Nat) : Int) := by
    have := bv_xor (BitVec.ofNat 64 (Mx.turn (ofN s 3))) (BitVec.ofNat 64 key)
    rwa [bv_of _ (turn_u64 _), bv_of _ hk] at this
  unfold NumIs at *
  generalize score s key = y at *
  generalize (BitVec.ofNat 64 (Mx.turn (ofN s 3)) ^^^ BitVec.ofNat 64 key).toNat = n7 at *
  generalize Mx.turn (ofN s 3) = n6 at *
  generalize ofN s 3 = n1 at *
  clear hs hk
  go_enter Tryd.func60, Tryd.ntmps60
  go_wp2_with fail
  refine H1.out.mono ?_
  rintro e w1 ⟨rfl, rfl⟩
  go_wp2_with fail
  refine (H2.out _).mono ?_
  rintro e w1 ⟨rfl, rfl⟩
  go_wp2_with fail
  refine (H3.out _).mono ?_
  rintro e w1 ⟨rfl, rfl⟩
  go_wp2
  go_ret
  exact ⟨rfl, rfl⟩
def pO (key : Nat) (x y : ByteArray) : Bool := !ltR key x y
def insO (key : Nat) (l : List ByteArray) : List ByteArray := insAll (pO key) l
theorem insO_len (key : Nat) (l : List ByteArray) : (insO key l).length = l.length := (insAll_perm (pO key) l).length_eq
theorem ltR_asymm {key : Nat} {x y : ByteArray} (h : ltR key x y = true) : ltR key y x = false := by
  cases h2 : ltR key y x with
  | false => rfl
  | true =>
    have := ltR_trans h h2
    rw [ltR_irrefl] at this
    cases this
theorem insO_sort (key : Nat) (l : List ByteArray) : insO key l = orderB key l := by
  refine IsOrder.unique (key := key) (l := l) ⟨insAll_perm (pO key) l, ?_⟩ (isOrder_orderB key l)
  exact insAll_sorted (lt := ltR key) (fun _ _ _ h1 h2 => ltR_ntrans h1 h2) (fun x y h => by simpa [pO] using h) (fun x y h => ltR_asymm (by simpa [pO] using h)) l
theorem insO_next {key : Nat} {l : List ByteArray} {i : Nat} (h : i < l.length) : insO key (l.take (i + 1)) = insP (pO key l[i]) l[i] (insO key (l.take i)) := by
  unfold insO
  rw [List.take_succ_eq_append_getElem h, insAll_snoc]
theorem insO_mem {key : Nat} {l : List ByteArray} {x : ByteArray} (h : x ∈ insO key l) : x ∈ l := (insAll_perm (pO key) l).mem_iff.1 h
/-- What the reference asks of two. -/
theorem pO_stop {key : Nat} {x y : ByteArray} : (pO key x y = false) ↔ (score y key < score x key ∨ (¬ score y key < score x key ∧ score x key = score y key ∧ ltB x y = true)) := by
  unfold pO ltR
  by_cases h1 : score y key < score x key
  · simp [h1]
  · by_cases h2 : score x key = score y key
    · simp [h2]
    · simp [h2]
end Go.Proofs.YtbbbnnooaaelmaaDoor
