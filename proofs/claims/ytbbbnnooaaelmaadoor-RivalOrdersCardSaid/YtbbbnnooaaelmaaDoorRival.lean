/-
  rival.Order and rival.Host.
-/
import Derived.Test.YtbbbnnooaaelmaaDoorSorted
import Derived.Test.YtbbbnnooaaelmaaDoorStable
import Derived.Test.YtbbbnnooaaelmaaDoorCmp
import Derived.Test.YtbbbnnooaaelmaaDoorShelf
import Derived.Test.YtbbbnnooaaelmaaDoorNums
import Derived.Test.YtbbbnnooaaelmaaDoorRinged
namespace Go.Proofs.YtbbbnnooaaelmaaDoor
open Go.RowKit Go.Shelf Go.Sort

def twoN (a b : Nat) : Nat := Mx.turn (BitVec.ofNat 64 (Mx.turn a) ^^^ BitVec.ofNat 64 b).toNat
theorem twoN_lt (a b : Nat) : U64 (twoN a b) := Mx.turn_lt _
theorem two_any (a b : Nat) (w : World) (ha : U64 a) (hb : U64 b) : Calls Tryd.prog 27 #[.int .u64 (a : Int), .int .u64 (b : Int)] w (NumIs (twoN a b) w) := by
  have H1 := Lib.hid (turn_any a w ha)
  have H2 := Lib.hid (turn_any (BitVec.ofNat 64 (Mx.turn a) ^^^ BitVec.ofNat 64 b).toNat w (bv_u64 _))
  have e : bits .xor .u64 ((Mx.turn a : Nat) : Int) (b : Int) = ((BitVec.ofNat 64 (Mx.turn a) ^^^ BitVec.ofNat 64 b).toNat : Int) := by
    have := bv_xor (BitVec.ofNat 64 (Mx.turn a)) (BitVec.ofNat 64 b)
    rwa [bv_of _ (turn_u64 a), bv_of _ hb] at this
  unfold NumIs twoN
  generalize (BitVec.ofNat 64 (Mx.turn a) ^^^ BitVec.ofNat 64 b).toNat = x at *
  generalize Mx.turn a = t at *
  generalize Mx.turn x = y at *
  clear ha hb
  go_enter Tryd.func27, Tryd.ntmps27
  go_wp2_with fail
  refine H1.out.mono ?_
  rintro e w1 ⟨rfl, rfl⟩
  go_wp2_with fail
  refine H2.out.mono ?_
  rintro e w1 ⟨rfl, rfl⟩
  go_wp2
  go_ret
  exact ⟨rfl, rfl⟩
/-- A host's score for a key. -/
def score (s : ByteArray) (key : Nat) : Nat := twoN (ofN s 3) key
theorem score_any (s : ByteArray) (key : Nat) (w : World) (hs : s.size ≤ maxLen) (hk : U64 key) : Calls Tryd.prog 59 #[.string s, .int .u64 (key : Int)] w (NumIs (score s key) w) := by
  have H1 : Hid (Calls Tryd.prog 23 #[.string s, .int .u64 3] w (NumIs (ofN s 3) w)) := Lib.hid (of_any s 3 w hs (by unfold U64; omega))
  have H2 := Lib.hid (two_any (ofN s 3) key w (ofN_lt s 3) hk)
  unfold score
  generalize twoN (ofN s 3) key = y at *
  generalize ofN s 3 = x at *
  clear hs hk
  go_enter Tryd.func59, Tryd.ntmps59
  go_wp2_with fail
  refine H1.out.mono ?_
  rintro e w1 ⟨rfl, rfl⟩
  go_wp2_with fail
  refine H2.out.mono ?_
  rintro e w1 ⟨rfl, rfl⟩
  go_wp2
  go_ret
  exact ⟨rfl, rfl⟩

/-- The order of rivals: the greater score first; of equal ones the lesser name. -/
def cfR (key : Nat) (a b : ByteArray) : Int := cmpN (score b key) (score a key)
def ltR (key : Nat) (a b : ByteArray) : Bool := decide (score b key < score a key) || (decide (score a key = score b key) && ltB a b)
theorem ltR_eq (key : Nat) (x y : ByteArray) (h : ltB x y = false) : ltOf (cfR key) x y = ltR key x y := by
  unfold ltOf cfR cmpN ltR
  rw [h]
  by_cases h1 : score y key < score x key
  · simp [h1]
  · by_cases h2 : score x key < score y key
    · simp [h1, h2]
    · simp [h1, h2]
theorem ltR_tri {key : Nat} {x y : ByteArray} (h1 : ltR key x y = false) (h2 : ltR key y x = false) : x = y := by
  simp only [ltR, Bool.or_eq_false_iff, Bool.and_eq_false_iff, decide_eq_false_iff_not] at h1 h2
  have e : score x key = score y key := by omega
  rcases h1.2 with h | h
  · exact absurd e h
  · rcases h2.2 with h' | h'
    · exact absurd e.symm h'
    · exact ltB_tri h h'
theorem ltR_irrefl (key : Nat) (x : ByteArray) : ltR key x x = false := by simp [ltR, ltB_irrefl]
theorem ltR_trans {key : Nat} {x y z : ByteArray} (h1 : ltR key x y = true) (h2 : ltR key y z = true) : ltR key x z = true := by
  simp only [ltR, Bool.or_eq_true, Bool.and_eq_true, decide_eq_true_eq] at *
  rcases h1 with h1 | ⟨h1, g1⟩ <;> rcases h2 with h2 | ⟨h2, g2⟩
  · exact .inl (by omega)
  · exact .inl (by omega)
  · exact .inl (by omega)
  · exact .inr ⟨by omega, ltB_trans g1 g2⟩
theorem ltR_ntrans {key : Nat} {x y z : ByteArray} (h1 : ltR key x y = false) (h2 : ltR key y z = false) : ltR key x z = false := by
  cases hyx : ltR key y x with
  | false => rw [ltR_tri h1 hyx]; exact h2
  | true =>
    rw [Bool.eq_false_iff] at *
    intro h
    exact h2 (ltR_trans hyx h)
theorem swo_R (key : Nat) : SWO (ltR key) := ⟨ltR_irrefl key, fun _ _ _ h1 h2 => ltR_trans h1 h2, fun _ _ _ h1 h2 => ltR_ntrans h1 h2⟩
def IsOrder (key : Nat) (l s : List ByteArray) : Prop := s.Perm l ∧ s.Pairwise fun a b => ltR key b a = false
theorem IsOrder.unique {key : Nat} {l s s' : List ByteArray} (h : IsOrder key l s) (h' : IsOrder key l s') : s = s' :=
  List.Perm.eq_of_pairwise (le := fun a b => ltR key b a = false) (fun _ _ _ _ h1 h2 => ltR_tri h2 h1) h.2 h'.2 (h.1.trans h'.1.symm)
theorem IsOrder.filter {key : Nat} {l s : List ByteArray} (h : IsOrder key l s) (p : ByteArray → Bool) : IsOrder key (l.filter p) (s.filter p) := ⟨h.1.filter p, h.2.filter p⟩
theorem IsOrder.perm {key : Nat} {l l' s : List ByteArray} (h : IsOrder key l s) (hp : l.Perm l') : IsOrder key l' s := ⟨h.1.trans hp, h.2⟩
/-- The rivals in order. -/
def orderB (key : Nat) (l : List ByteArray) : List ByteArray := (insertionSort (ltOf (cfR key)) (sortB l).toArray 0 (sortB l).length).toList
theorem isOrder_orderB (key : Nat) (l : List ByteArray) : IsOrder key l (orderB key l) := by
  obtain ⟨hp, hs⟩ := isSort_sortB l
  obtain ⟨_, h2, h3⟩ := stable_sort (ltOf (cfR key)) (ltR key) (fun x y => ltB x y = false) (fun x y h => ltR_eq key x y h) (swo_R key) (sortB l) hs
  exact ⟨h2.trans hp, h3⟩
theorem orderB_length (key : Nat) (l : List ByteArray) : (orderB key l).length = l.length := (isOrder_orderB key l).1.length_eq

set_option maxRecDepth 100000 in
set_option maxHeartbeats 1000000 in
theorem order1_any (x y : ByteArray) (kb key : Nat) (w : World) (hx : x.size ≤ maxLen) (hy : y.size ≤ maxLen) (hk : U64 key) (hc : w.cell? ⟨kb, 0, none⟩ = some (.int .u64 (key : Int))) :
    Calls Tryd.prog 69 #[.string x, .string y, .pointer (some ⟨kb, 0, none⟩)] w fun e w' => e = .returned (.int .i64 (cfR key x y)) ∧ ∃ q, w' = w.drewN q := by
  have HX := Lib.hid (fun W => score_any x key W hx hk)
  have HY := Lib.hid (fun W => score_any y key W hy hk)
  have HC := Lib.hid (fun W => cmp_u64 (score y key) (score x key) W)
  unfold NumIs at HX HY
  unfold IntQ at HC
  unfold cfR
  generalize score y key = sy at *
  generalize score x key = sx at *
  generalize cmpN sy sx = c at *
  clear hx hy hk
  go_enter Tryd.func69, Tryd.ntmps69
  go_wp2_with fail
  go_quiet ((first
    | (go_at_call 59; first | exact quiet_left (HX.out _) | exact quiet_left (HY.out _))
    | (go_at_call 70; exact quiet_left (HC.out _))))
  go_wp2
  go_ret
  exact ⟨rfl, _, rfl⟩
end Go.Proofs.YtbbbnnooaaelmaaDoor
