/-
  Maps that a call made, in plain words: a set of numbers (map[uint64]bool); counts at texts (map[string]int).
-/
import Derived.Test.YtbbbnnooaaelmaaDoorLists
import Derived.Test.YtbbbnnooaaelmaaDoorRingPlain
import Derived.Maps.OwnSet
import Derived.Maps.OwnOps
import Derived.Maps.Views
namespace Go.Proofs.YtbbbnnooaaelmaaDoor
open Go.RowKit Go.Maps Go.WideMaps

theorem zero_bool (w : World) : (zeroValue 4).run Tryd.prog w = .ok (.bool false) w := by
  have h : Tryd.t4.zero = some (.bool false) := by kernel_rfl
  simp [zeroValue, h]
theorem zero_int (w : World) : (zeroValue 3).run Tryd.prog w = .ok (.int .i64 0) w := by
  have h : Tryd.t3.zero = some (.int .i64 0) := by kernel_rfl
  simp [zeroValue, h]
theorem u64_wf {k : Nat} (h : U64 k) : (Lit.int .u64 (k : Int)).wf = true := by
  unfold U64 at h
  have h1 : IntKind.u64.min = 0 := by decide +kernel
  have h2 : IntKind.u64.max = 18446744073709551615 := by decide +kernel
  simp only [Lit.wf, h1, h2, Bool.and_eq_true, decide_eq_true_eq]
  omega
theorem i64_wf {m : Nat} (h : m ≤ 1000000) : (Lit.int .i64 (m : Int)).wf = true := by
  have h1 : IntKind.i64.min = -9223372036854775808 := by decide +kernel
  have h2 : IntKind.i64.max = 9223372036854775807 := by decide +kernel
  simp only [Lit.wf, h1, h2, Bool.and_eq_true, decide_eq_true_eq]
  omega
theorem plainElem_bool_inv {v : Value} {b : Bool} {ps : List MemPlace} (h : plainElem (H := Unit) Tryd.prog 4 v = some (.lit (.bool b), ps)) : v = .bool b := by
  have hu := Tryd.underlying4
  generalize Tryd.prog = P at h hu
  unfold plainElem at h
  rw [hu] at h
  cases v with
  | bool x => simp at h; rw [h.1]
  | _ => simp at h
def SeenIs (b n : Nat) (S : List Nat) (w : World) : Prop := ∃ D : DataW Unit, w.ownsMap Tryd.prog 35 (plainElem Tryd.prog 4) b n D ∧ ∀ k, U64 k → D.atKey (.int .u64 (k : Int)) (.lit (.bool false)) = .lit (.bool (decide (k ∈ S)))
theorem SeenIs.made (w : World) : SeenIs w.heap.size 0 [] (w.alloc (.map #[] 0)) := ⟨_, World.ownsMap_made w _ _ _, fun k _ => by simp [DataW.atKey]⟩
theorem SeenIs.kept {b n : Nat} {S : List Nat} {w w' : World} {row : Option Nat} (h : SeenIs b n S w) (hg : w.grownBy w' row) (hne : some b ≠ row) : SeenIs b n S w' := by
  obtain ⟨D, ho, hD⟩ := h
  exact ⟨D, ho.kept hg hne, hD⟩
theorem SeenIs.look {b n : Nat} {S : List Nat} {w : World} {k : Nat} (h : SeenIs b n S w) (hk : U64 k) : (Instr.lookup 125 (.map (some b)) (.int .u64 (k : Int)) false).run Tryd.prog w = .ok (.bool (decide (k ∈ S))) w := by
  obtain ⟨D, ho, hD⟩ := h
  obtain ⟨v, ps, hrun, hv⟩ := ho.lookup (int_keyed Tryd.underlying35) Tryd.underlying125 (zero_bool w) (plainElem_bool Tryd.underlying4 false) (keyOf_int_mk Tryd.underlying35 (u64_wf hk))
  rw [hD k hk] at hv
  obtain rfl := plainElem_bool_inv hv
  exact hrun
theorem SeenIs.put {b n : Nat} {S : List Nat} {w : World} {k : Nat} (h : SeenIs b n S w) (hk : U64 k) (hn : n < maxLen) : ∃ w', (Instr.mapUpdate 125 (.map (some b)) (.int .u64 (k : Int)) (.bool true)).run Tryd.prog w = .ok () w' ∧ SeenIs b (n + 1) (k :: S) w' ∧ w.grownBy w' (some b) := by
  obtain ⟨D, ho, hD⟩ := h
  obtain ⟨w', hrun, ho', hg⟩ := ho.update (int_keyed Tryd.underlying35) Tryd.underlying125 hn (keyOf_int_mk Tryd.underlying35 (u64_wf hk)) (plainElem_bool Tryd.underlying4 true)
  refine ⟨w', hrun, ⟨_, ho', fun j hj => ?_⟩, hg⟩
  by_cases hjk : j = k
  · subst hjk
    rw [atKey_put_same (k := .int .u64 (j : Int)) ho.isMap trivial]; simp
  · rw [atKey_put_other (k := .int .u64 (k : Int)) (k' := .int .u64 (j : Int)) (by intro e; injection e with _ e; omega), hD j hj]
    simp [hjk]
/-- Counts at texts. -/
def HasIs (b n : Nat) (f : ByteArray → Nat) (w : World) : Prop := ∃ D : DataW Unit, w.ownsMap Tryd.prog 9 (plainElem Tryd.prog 3) b n D ∧ ∀ s : ByteArray, s.size ≤ maxLen → D.atKey (.string s.data.toList) (.lit (.int .i64 0)) = .lit (.int .i64 (f s : Int))
theorem HasIs.made (w : World) : HasIs w.heap.size 0 (fun _ => 0) (w.alloc (.map #[] 0)) := ⟨_, World.ownsMap_made w _ _ _, fun k _ => by simp [DataW.atKey]⟩
theorem HasIs.kept {b n : Nat} {f : ByteArray → Nat} {w w' : World} {row : Option Nat} (h : HasIs b n f w) (hg : w.grownBy w' row) (hne : some b ≠ row) : HasIs b n f w' := by
  obtain ⟨D, ho, hD⟩ := h
  exact ⟨D, ho.kept hg hne, hD⟩
theorem HasIs.look {b n : Nat} {f : ByteArray → Nat} {w : World} {s : ByteArray} (h : HasIs b n f w) (hs : s.size ≤ maxLen) : (Instr.lookup 124 (.map (some b)) (.string s) false).run Tryd.prog w = .ok (.int .i64 (f s : Int)) w := by
  obtain ⟨D, ho, hD⟩ := h
  obtain ⟨c, hrun, hat, _⟩ := ho.lookup_int (string_keyed Tryd.underlying9) Tryd.underlying124 Tryd.underlying3 (zero_int w) (keyOf_string_mk Tryd.underlying9 hs)
  rw [hD s hs] at hat
  obtain rfl : (f s : Int) = c := by simpa using hat
  exact hrun
theorem HasIs.put {b n : Nat} {f : ByteArray → Nat} {w : World} {s : ByteArray} (m : Nat) (h : HasIs b n f w) (hs : s.size ≤ maxLen) (hm : m ≤ 1000000) (hn : n < maxLen) :
    ∃ w', (Instr.mapUpdate 124 (.map (some b)) (.string s) (.int .i64 (m : Int))).run Tryd.prog w = .ok () w' ∧ HasIs b (n + 1) (fun x => if x = s then m else f x) w' ∧ w.grownBy w' (some b) := by
  obtain ⟨D, ho, hD⟩ := h
  have hwf := i64_wf hm
  obtain ⟨w', hrun, ho', hg⟩ := ho.update (string_keyed Tryd.underlying9) Tryd.underlying124 hn (keyOf_string_mk Tryd.underlying9 hs) (plainElem_int Tryd.underlying3 hwf)
  refine ⟨w', hrun, ⟨_, ho', fun j hj => ?_⟩, hg⟩
  by_cases hjk : j = s
  · subst hjk
    rw [atKey_put_same (k := .string j.data.toList) ho.isMap trivial]; simp
  · have hne : ¬ j.data.toList = s.data.toList := fun e => hjk (ba_ext e)
    rw [atKey_put_other (k := .string s.data.toList) (k' := .string j.data.toList) (by intro e; injection e with e; exact hne e), hD j hj]
    simp [hjk]
end Go.Proofs.YtbbbnnooaaelmaaDoor
