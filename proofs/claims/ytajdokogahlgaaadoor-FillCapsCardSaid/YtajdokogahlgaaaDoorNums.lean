/-
  Lists of numbers in memory ([]int); how often each number is there.
-/
import Derived.Test.YtajdokogahlgaaaDoorOwn
import Derived.Deep.Onto
namespace Go.Proofs.YtajdokogahlgaaaDoor
open Go.RowKit

def numsV (xs : List Nat) : List Value := xs.map fun n : Nat => Value.int .i64 (n : Int)
theorem info_num : (Tryd.prog.info? 3).map (fun i => (i.zero, i.size, i.bytes)) = some (some (.int .i64 0), 1, 8) := by kernel_rfl
theorem num_one {l : List Nat} : ∀ u ∈ numsV l, u.oneCell' = true := by
  intro u hu
  obtain ⟨x, _, rfl⟩ := List.mem_map.1 hu
  rfl
theorem keys_one {l : List Nat} : ∀ u ∈ keysV l, u.oneCell' = true := by
  intro u hu
  obtain ⟨x, _, rfl⟩ := List.mem_map.1 hu
  rfl
theorem below_drew {B : Nat} {a w : World} (h : Below B a w) : Below B a w.drew := ⟨h.os, h.tape, h.output, h.size, h.block⟩
def NumAt (ad : Addr) (k x : Nat) (w : World) : Prop := ∀ W, Below w.heap.size w W → W.cell? (ad.add k) = some (.int .i64 (x : Int))
theorem numAt_of {w : World} {A : Option Addr} {l : List Nat} {k : Nat} (h : Reads w w.heap.size 1 A l.length (numsV l)) (hk : k < l.length) : ∃ ad, A = some ad ∧ NumAt ad k l[k] w := by
  obtain ⟨ad, u, hA, hb, hx, hc⟩ := h.at_ hk
  refine ⟨ad, hA, fun W hW => ?_⟩
  rw [hW.cell (by rw [block_of_add]; exact hb), hc]
  simp [numsV, hk] at hx
  rw [hx]
def StrAt (ad : Addr) (k : Nat) (x : ByteArray) (w : World) : Prop := ∀ W, Below w.heap.size w W → W.cell? (ad.add k) = some (.string x)
theorem strAt_of {w : World} {A : Option Addr} {l : List ByteArray} {k : Nat} (h : Reads w w.heap.size 1 A l.length (strV l)) (hk : k < l.length) : ∃ ad, A = some ad ∧ StrAt ad k l[k] w := by
  obtain ⟨ad, u, hA, hb, hx, hc⟩ := h.at_ hk
  refine ⟨ad, hA, fun W hW => ?_⟩
  rw [hW.cell (by rw [block_of_add]; exact hb), hc]
  simp [strV, hk] at hx
  rw [hx]
/-- How often each of the numbers below n is there. -/
def countsL (n : Nat) (xs : List Nat) : List Nat := (List.range n).map fun j => xs.count j
theorem countsL_length (n : Nat) (xs : List Nat) : (countsL n xs).length = n := by simp [countsL]
theorem countsL_get {n j : Nat} (xs : List Nat) (h : j < n) : (numsV (countsL n xs)).toArray[j]? = some (.int .i64 ((xs.count j : Nat) : Int)) := by simp [numsV, countsL, h]
theorem countsL_set {n j : Nat} (xs : List Nat) (_ : j < n) : (numsV (countsL n xs)).toArray.setIfInBounds j (.int .i64 (((xs.count j : Nat) : Int) + 1)) = (numsV (countsL n (xs ++ [j]))).toArray := by
  apply Array.ext
  · simp [numsV, countsL]
  · intro i h1 h2
    simp only [numsV, countsL, Array.size_setIfInBounds, List.size_toArray, List.length_map, List.length_range] at h1
    simp only [numsV, countsL, List.getElem_toArray, List.getElem_map, List.getElem_range, List.count_append, List.count_cons, List.count_nil]
    by_cases h : j = i
    · subst h; simp
    · simp [h]
theorem countsL_made (n : Nat) : madeCells (Value.int .i64 0).cells (n * 1) = (numsV (countsL n [])).toArray := by
  apply Array.ext
  · simp [madeCells, numsV, countsL]
  · intro i h1 h2
    simp [madeCells, numsV, countsL, Value.cells, Nat.mod_one]
theorem make_counts (n : Nat) (hn : n ≤ 1000) (W : World) :
    (Instr.makeSlice 24 (.int .i64 (n : Int)) (.int .i64 (n : Int))).run Tryd.prog W = .ok (.slice (some ⟨W.heap.size, 0, none⟩) n n) (W.alloc (.cells (numsV (countsL n [])).toArray 3)) := by
  obtain ⟨i0, hi, hz0, hz1, hz2⟩ := info_parts info_num
  have h := run_make_rowN (P := Tryd.prog) 24 3 i0 (.int .i64 0) Tryd.underlying24 hi hz0 .i64 .i64 n n (Nat.le_refl _) (by rw [hz2]; omega) (by omega) W
  rw [hz1, countsL_made] at h
  exact h
theorem lit_keys (w : World) (l : List Nat) (cs : Array Value) (h : cs = (keysV l).toArray) : Reads (w.alloc (.cells cs 32)) (w.heap.size + 1) 1 (some ⟨w.heap.size, 0, none⟩) l.length (keysV l) := by
  subst h
  have hB := Blk.new w 32 (keysV l).toArray
  refine ⟨by simp [keysV], fun _ => ⟨_, rfl, by simp, fun j u hu => ?_⟩⟩
  have e : ((⟨w.heap.size, 0, none⟩ : Addr).add j) = ⟨w.heap.size, j, none⟩ := by
    by_cases h0 : j = 0
    · subst h0; rfl
    · simp [Addr.add, h0]
  rw [e, hB.cell j]
  simpa using hu
end Go.Proofs.YtajdokogahlgaaaDoor
