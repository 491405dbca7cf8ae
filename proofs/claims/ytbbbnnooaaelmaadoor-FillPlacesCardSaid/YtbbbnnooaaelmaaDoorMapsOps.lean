/-
  The maps' laws at the operations, for the walk.
-/
import Derived.Test.YtbbbnnooaaelmaaDoorMaps
namespace Go.Proofs.YtbbbnnooaaelmaaDoor
open Go.RowKit Go.Maps

section
variable {w : World} {ops : Array Oper} {rest : List Oper} {o : Oper} {a : Act} {Q : Exit → Act → World → Prop} {b n : Nat}
theorem wp_seen_look {S : List Nat} (hg : o.guard = none) (m x : Operand) (hop : o.op = Op.lookup 125 m x false) (hm : a.eval m = .map (some b)) (h : SeenIs b n S w) (k : Nat) (hx : a.eval x = .int .u64 (k : Int)) (hk : U64 k)
    (hK : wpList Tryd.prog ops Q rest (a.put o.dst (.bool (decide (k ∈ S)))) w) : wpList Tryd.prog ops Q (o :: rest) a w := by
  refine wpList_plain hg fun K' hK' => ?_
  have hrun := h.look hk
  unfold Oper.wp
  simp [execOp, hop, hm, hx, hrun, Result.andThen]
  exact hK' _ _ hK
theorem wp_seen_put {S : List Nat} (hg : o.guard = none) (m x v : Operand) (hop : o.op = Op.mapUpdate 125 m x v) (hm : a.eval m = .map (some b)) (h : SeenIs b n S w) (k : Nat) (hx : a.eval x = .int .u64 (k : Int)) (hv : a.eval v = .bool true) (hk : U64 k) (hn : n < maxLen)
    (hK : ∀ w', SeenIs b (n + 1) (k :: S) w' → w.grownBy w' (some b) → wpList Tryd.prog ops Q rest (a.put o.dst undef) w') : wpList Tryd.prog ops Q (o :: rest) a w := by
  refine wpList_plain hg fun K' hK' => ?_
  obtain ⟨w', hrun, r1, r2⟩ := h.put hk hn
  unfold Oper.wp
  simp [execOp, hop, hm, hx, hv, hrun, Result.andThen]
  exact hK' _ _ (hK w' r1 r2)
theorem wp_has_look {f : ByteArray → Nat} (hg : o.guard = none) (m x : Operand) (hop : o.op = Op.lookup 124 m x false) (hm : a.eval m = .map (some b)) (h : HasIs b n f w) (s : ByteArray) (hx : a.eval x = .string s) (hs : s.size ≤ maxLen)
    (hK : wpList Tryd.prog ops Q rest (a.put o.dst (.int .i64 (f s : Int))) w) : wpList Tryd.prog ops Q (o :: rest) a w := by
  refine wpList_plain hg fun K' hK' => ?_
  have hrun := h.look hs
  unfold Oper.wp
  simp [execOp, hop, hm, hx, hrun, Result.andThen]
  exact hK' _ _ hK
theorem wp_has_put {f : ByteArray → Nat} (hg : o.guard = none) (m x v : Operand) (hop : o.op = Op.mapUpdate 124 m x v) (hm : a.eval m = .map (some b)) (h : HasIs b n f w) (s : ByteArray) (hx : a.eval x = .string s) (c : Nat) (hv : a.eval v = .int .i64 (c : Int)) (hs : s.size ≤ maxLen) (hc : c ≤ 1000000) (hn : n < maxLen)
    (hK : ∀ w', HasIs b (n + 1) (fun x => if x = s then c else f x) w' → w.grownBy w' (some b) → wpList Tryd.prog ops Q rest (a.put o.dst undef) w') : wpList Tryd.prog ops Q (o :: rest) a w := by
  refine wpList_plain hg fun K' hK' => ?_
  obtain ⟨w', hrun, r1, r2⟩ := h.put c hs hc hn
  unfold Oper.wp
  simp [execOp, hop, hm, hx, hv, hrun, Result.andThen]
  exact hK' _ _ (hK w' r1 r2)
end
end Go.Proofs.YtbbbnnooaaelmaaDoor
