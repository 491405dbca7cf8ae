/-
  A set of keys in memory (map[uint64]bool): its laws at the operations.
-/
import Derived.Test.YtalfjaogpbndeaaGreatDoorFlowPlain
import Derived.Test.YtalfjaogpbndeaaGreatDoorTurn
namespace Go.Proofs.YtalfjaogpbndeaaGreatDoor
open Go.RowKit Go.Maps Go.WideMaps

theorem u64_wfS {k : Nat} (h : U64 k) : (Lit.int .u64 (k : Int)).wf = true := by
  unfold U64 at h
  have h1 : IntKind.u64.min = 0 := by decide +kernel
  have h2 : IntKind.u64.max = 18446744073709551615 := by decide +kernel
  simp only [Lit.wf, h1, h2, Bool.and_eq_true, decide_eq_true_eq]
  omega
theorem zero_boolS (w : World) : (zeroValue 4).run Tryz.prog w = .ok (.bool false) w := by
  have h : Tryz.t4.zero = some (.bool false) := by kernel_rfl
  simp [zeroValue, h]
theorem plainS_inv {v : Value} {b : Bool} {ps : List MemPlace} (h : plainElem (H := Unit) Tryz.prog 4 v = some (.lit (.bool b), ps)) : v = .bool b := by
  have hu := Tryz.underlying4
  generalize Tryz.prog = P at h hu
  unfold plainElem at h
  rw [hu] at h
  cases v with
  | bool x => simp at h; rw [h.1]
  | _ => simp at h
def KeyIs (b n : Nat) (S : List Nat) (w : World) : Prop := ∃ D : DataW Unit, w.ownsMap Tryz.prog 43 (plainElem Tryz.prog 4) b n D ∧ ∀ k, U64 k → D.atKey (.int .u64 (k : Int)) (.lit (.bool false)) = .lit (.bool (decide (k ∈ S)))
theorem KeyIs.made (w : World) : KeyIs w.heap.size 0 [] (w.alloc (.map #[] 0)) := ⟨_, World.ownsMap_made w _ _ _, fun k _ => by simp [DataW.atKey]⟩
theorem KeyIs.kept {b n : Nat} {S : List Nat} {w w' : World} {row : Option Nat} (h : KeyIs b n S w) (hg : w.grownBy w' row) (hne : some b ≠ row) : KeyIs b n S w' := by
  obtain ⟨D, ho, hD⟩ := h
  exact ⟨D, ho.kept hg hne, hD⟩
theorem KeyIs.look {b n : Nat} {S : List Nat} {w : World} {k : Nat} (h : KeyIs b n S w) (hk : U64 k) : (Instr.lookup 76 (.map (some b)) (.int .u64 (k : Int)) false).run Tryz.prog w = .ok (.bool (decide (k ∈ S))) w := by
  obtain ⟨D, ho, hD⟩ := h
  obtain ⟨v, ps, hrun, hv⟩ := ho.lookup (int_keyed Tryz.underlying43) Tryz.underlying76 (zero_boolS w) (plainElem_bool Tryz.underlying4 false) (keyOf_int_mk Tryz.underlying43 (u64_wfS hk))
  rw [hD k hk] at hv
  obtain rfl := plainS_inv hv
  exact hrun
theorem KeyIs.put {b n : Nat} {S : List Nat} {w : World} {k : Nat} (h : KeyIs b n S w) (hk : U64 k) (hn : n < maxLen) : ∃ w', (Instr.mapUpdate 76 (.map (some b)) (.int .u64 (k : Int)) (.bool true)).run Tryz.prog w = .ok () w' ∧ KeyIs b (n + 1) (k :: S) w' ∧ w.grownBy w' (some b) := by
  obtain ⟨D, ho, hD⟩ := h
  obtain ⟨w', hrun, ho', hg⟩ := ho.update (int_keyed Tryz.underlying43) Tryz.underlying76 hn (keyOf_int_mk Tryz.underlying43 (u64_wfS hk)) (plainElem_bool Tryz.underlying4 true)
  refine ⟨w', hrun, ⟨_, ho', fun j hj => ?_⟩, hg⟩
  by_cases hjk : j = k
  · subst hjk
    rw [atKey_put_same (k := .int .u64 (j : Int)) ho.isMap trivial]; simp
  · rw [atKey_put_other (k := .int .u64 (k : Int)) (k' := .int .u64 (j : Int)) (by intro e; injection e with _ e; omega), hD j hj]
    simp [hjk]
theorem KeyIs.turn {b n : Nat} {S : List Nat} {w w' : World} {bs : List Nat} (h : KeyIs b n S w) (ht : Turn bs w w') (hb : b ∉ bs) : KeyIs b n S w' := by
  obtain ⟨D, ho, hD⟩ := h
  exact ⟨D, ht.map ho hb, hD⟩
theorem KeyIs.below {b n : Nat} {S : List Nat} {w w' : World} (h : KeyIs b n S w) (hb : Below w.heap.size w w') : KeyIs b n S w' := h.turn (Turn.of_below (bs := []) hb) (by simp)
theorem KeyIs.lt {b n : Nat} {S : List Nat} {w : World} (h : KeyIs b n S w) : b < w.heap.size := by obtain ⟨D, ho, _⟩ := h; exact ho.lt
section
variable {w : World} {ops : Array Oper} {rest : List Oper} {o : Oper} {a : Act} {Q : Exit → Act → World → Prop} {b n : Nat}
theorem wp_keys_look {S : List Nat} (hg : o.guard = none) (m x : Operand) (hop : o.op = Op.lookup 76 m x false) (hm : a.eval m = .map (some b)) (h : KeyIs b n S w) (k : Nat) (hx : a.eval x = .int .u64 (k : Int)) (hk : U64 k)
    (hK : wpList Tryz.prog ops Q rest (a.put o.dst (.bool (decide (k ∈ S)))) w) : wpList Tryz.prog ops Q (o :: rest) a w := by
  refine wpList_plain hg fun K' hK' => ?_
  have hrun := h.look hk
  unfold Oper.wp
  simp [execOp, hop, hm, hx, hrun, Result.andThen]
  exact hK' _ _ hK
theorem wp_keys_put {S : List Nat} (hg : o.guard = none) (m x v : Operand) (hop : o.op = Op.mapUpdate 76 m x v) (hm : a.eval m = .map (some b)) (h : KeyIs b n S w) (k : Nat) (hx : a.eval x = .int .u64 (k : Int)) (hv : a.eval v = .bool true) (hk : U64 k) (hn : n < maxLen)
    (hK : ∀ w', KeyIs b (n + 1) (k :: S) w' → w.grownBy w' (some b) → wpList Tryz.prog ops Q rest (a.put o.dst undef) w') : wpList Tryz.prog ops Q (o :: rest) a w := by
  refine wpList_plain hg fun K' hK' => ?_
  obtain ⟨w', hrun, r1, r2⟩ := h.put hk hn
  unfold Oper.wp
  simp [execOp, hop, hm, hx, hv, hrun, Result.andThen]
  exact hK' _ _ (hK w' r1 r2)
end
end Go.Proofs.YtalfjaogpbndeaaGreatDoor
