/-
  Lists of numbers in memory ([]int); how often each number is there.
-/
import Derived.Test.YtnmkdmehljkedaaGreatDoorOwn
import Derived.Deep.Onto
namespace Go.Proofs.YtnmkdmehljkedaaGreatDoor
open Go.RowKit

def numsV (xs : List Nat) : List Value := xs.map fun n : Nat => Value.int .i64 (n : Int)
theorem info_num : (Tryz.prog.info? 3).map (fun i => (i.zero, i.size, i.bytes)) = some (some (.int .i64 0), 1, 8) := by kernel_rfl
theorem num_one {l : List Nat} : ∀ u ∈ numsV l, u.oneCell' = true := by
  intro u hu
  obtain ⟨x, _, rfl⟩ := List.mem_map.1 hu
  rfl
theorem keys_one {l : List Nat} : ∀ u ∈ keysV l, u.oneCell' = true := by
  intro u hu
  obtain ⟨x, _, rfl⟩ := List.mem_map.1 hu
  rfl
theorem below_drew {B : Nat} {a w : World} (h : Below B a w) : Below B a w.drew := ⟨h.os, h.tape, h.output, h.size, h.block⟩
def NumAt (ad : Addr) (k x : Nat) (w : World) : Prop := ∀ W, Below w.heap.size w W → W.cell? (ad.add k) = some (.int .i64 (x : Int))
theorem numAt_of {w : World} {A : Option Addr} {l : List Nat} {k : Nat} (h : Reads w w.heap.size 1 A l.length (numsV l)) (hk : k < l.length) : ∃ ad, A = some ad ∧ NumAt ad k l[k] w := by
  obtain ⟨ad, u, hA, hb, hx, hc⟩ := h.at_ hk
  refine ⟨ad, hA, fun W hW => ?_⟩
  rw [hW.cell (by rw [block_of_add]; exact hb), hc]
  simp [numsV, hk] at hx
  rw [hx]
def StrAt (ad : Addr) (k : Nat) (x : ByteArray) (w : World) : Prop := ∀ W, Below w.heap.size w W → W.cell? (ad.add k) = some (.string x)
theorem strAt_of {w : World} {A : Option Addr} {l : List ByteArray} {k : Nat} (h : Reads w w.heap.size 1 A l.length (strV l)) (hk : k < l.length) : ∃ ad, A = some ad ∧ StrAt ad k l[k] w := by
  obtain ⟨ad, u, hA, hb, hx, hc⟩ := h.at_ hk
  refine ⟨ad, hA, fun W hW => ?_⟩
  rw [hW.cell (by rw [block_of_add]; exact hb), hc]
  simp [strV, hk] at hx
  rw [hx]
/-- How often each of the numbers below n is there. -/
def countsL (n : Nat) (xs : List Nat) : List Nat := (List.range n).map fun j => xs.count j
theorem countsL_length (n : Nat) (xs : List Nat) : (countsL n xs).length = n := by simp [countsL]
theorem countsL_get {n j : Nat} (xs : List Nat) (h : j < n) : (numsV (countsL n xs)).toArray[j]? = some (.int .i64 ((xs.count j : Nat) : Int)) := by simp [numsV, countsL, h]
theorem countsL_set {n j : Nat} (xs : List Nat) (_ : j < n) : (numsV (countsL n xs)).toArray.setIfInBounds j (.int .i64 (((xs.count j : Nat) : Int) + 1)) = (numsV (countsL n (xs ++ [j]))).toArray := by
  apply Array.ext
  · simp [numsV, countsL]
  · intro i h1 h2
    simp only [numsV, countsL, Array.size_setIfInBounds, List.size_toArray, List.length_map, List.length_range] at h1
    simp only [numsV, countsL, List.getElem_toArray, List.getElem_map, List.getElem_range, List.count_append, List.count_cons, List.count_nil]
    by_cases h : j = i
    · subst h; simp
    · simp [h]
theorem countsL_made (n : Nat) : madeCells (Value.int .i64 0).cells (n * 1) = (numsV (countsL n [])).toArray := by
  apply Array.ext
  · simp [madeCells, numsV, countsL]
  · intro i h1 h2
    simp [madeCells, numsV, countsL, Value.cells, Nat.mod_one]
theorem make_counts (n : Nat) (hn : n ≤ 1000) (W : World) :
    (Instr.makeSlice 47 (.int .i64 (n : Int)) (.int .i64 (n : Int))).run Tryz.prog W = .ok (.slice (some ⟨W.heap.size, 0, none⟩) n n) (W.alloc (.cells (numsV (countsL n [])).toArray 3)) := by
  obtain ⟨i0, hi, hz0, hz1, hz2⟩ := info_parts info_num
  have h := run_make_rowN (P := Tryz.prog) 47 3 i0 (.int .i64 0) Tryz.underlying47 hi hz0 .i64 .i64 n n (Nat.le_refl _) (by rw [hz2]; omega) (by omega) W
  rw [hz1, countsL_made] at h
  exact h
theorem lit_keys (w : World) (l : List Nat) (cs : Array Value) (h : cs = (keysV l).toArray) : Reads (w.alloc (.cells cs 32)) (w.heap.size + 1) 1 (some ⟨w.heap.size, 0, none⟩) l.length (keysV l) := by
  subst h
  have hB := Blk.new w 32 (keysV l).toArray
  refine ⟨by simp [keysV], fun _ => ⟨_, rfl, by simp, fun j u hu => ?_⟩⟩
  have e : ((⟨w.heap.size, 0, none⟩ : Addr).add j) = ⟨w.heap.size, j, none⟩ := by
    by_cases h0 : j = 0
    · subst h0; rfl
    · simp [Addr.add, h0]
  rw [e, hB.cell j]
  simpa using hu
/-- Hosts and keys that are handed in. -/
structure RingIn (w : World) (A : Option Addr) (c : Nat) (l : List ByteArray) (A3 : Option Addr) (keys : List Nat) : Prop where
  r : Reads w w.heap.size 1 A l.length (strV l)
  lc : l.length ≤ c
  cm : c ≤ maxLen
  s : ∀ s ∈ l, s.size ≤ maxLen
  k : Reads w w.heap.size 1 A3 keys.length (keysV keys)
  km : keys.length ≤ maxLen
  u : ∀ k ∈ keys, U64 k
theorem RingIn.below {w w' : World} {A : Option Addr} {c : Nat} {l : List ByteArray} {A3 : Option Addr} {keys : List Nat} (h : RingIn w A c l A3 keys) (hb : Below w.heap.size w w') : RingIn w' A c l A3 keys :=
  ⟨(h.r.below hb).more hb.size, h.lc, h.cm, h.s, (h.k.below hb).more hb.size, h.km, h.u⟩
theorem own_ncap2 {w : World} {b size n cap : Nat} {A : Option Addr} {e : TypeId} {xs : List Value} (h : w.ownsRow b e size (.slice A n cap) n xs) : n ≤ cap := by
  rcases h.2 with ⟨_, h0⟩ | ⟨g', cap', cur, he, _, _, hnc, _⟩
  · omega
  · injection he with _ _ hcap; omega
theorem str_one {l : List ByteArray} : ∀ u ∈ strV l, u.oneCell' = true := by
  intro u hu
  obtain ⟨x, _, rfl⟩ := List.mem_map.1 hu
  rfl

theorem erase_filter : ∀ {l : List ByteArray} (_ : l.Nodup) {k : Nat} (hk : k < l.length), l.take k ++ l.drop (k + 1) = l.filter fun y => decide (y ≠ l[k])
  | [], _, k, hk => absurd hk (by simp)
  | a :: l, h, 0, _ => by
      have ha : a ∉ l := (List.nodup_cons.1 h).1
      simp only [List.take_zero, List.nil_append, List.drop_succ_cons, List.drop_zero, List.getElem_cons_zero]
      rw [List.filter_cons]
      simp only [ne_eq, not_true_eq_false, decide_false, Bool.false_eq_true, if_false]
      refine (List.filter_eq_self.2 fun y hy => ?_).symm
      have : y ≠ a := fun e => ha (e ▸ hy)
      simpa using this
  | a :: l, h, k + 1, hk => by
      have ha : a ∉ l := (List.nodup_cons.1 h).1
      have hkl : k < l.length := by simpa using hk
      have hne : a ≠ l[k] := fun e => ha (e ▸ List.getElem_mem hkl)
      simp only [List.take_succ_cons, List.cons_append, List.drop_succ_cons, List.getElem_cons_succ]
      rw [List.filter_cons]
      simp only [ne_eq, hne, not_false_eq_true, decide_true, if_true]
      rw [erase_filter (List.nodup_cons.1 h).2 hkl]
theorem Reads.take2 {w : World} {B n k size : Nat} {A : Option Addr} {xs : List Value} (h : Reads w B size A n xs) (hk : k ≤ n) : Reads w B size A k (xs.take (k * size)) := by
  refine ⟨by rw [List.length_take, h.1]; exact Nat.min_eq_left (Nat.mul_le_mul_right _ hk), fun h0 => ?_⟩
  obtain ⟨ad, e, hb, hc⟩ := h.2 (by omega)
  refine ⟨ad, e, hb, fun j u hu => hc j u ?_⟩
  rw [List.getElem?_take] at hu
  split at hu
  · exact hu
  · cases hu
end Go.Proofs.YtnmkdmehljkedaaGreatDoor
