/-
  Flows in memory: the map of flows; its laws at the operations.
-/
import Derived.Test.YtnmkdmehljkedaaGreatDoorFlowPlain
import Derived.Test.YtnmkdmehljkedaaGreatDoorTurn
namespace Go.Proofs.YtnmkdmehljkedaaGreatDoor
open Go.RowKit Go.Maps

theorem u64_wf2 {k : Nat} (h : U64 k) : (Lit.int .u64 (k : Int)).wf = true := by
  unfold U64 at h
  have h1 : IntKind.u64.min = 0 := by decide +kernel
  have h2 : IntKind.u64.max = 18446744073709551615 := by decide +kernel
  simp only [Lit.wf, h1, h2, Bool.and_eq_true, decide_eq_true_eq]
  omega
def flZ : Fl := ⟨0, ⟨#[]⟩, 0⟩
theorem zero_flow (w : World) : (zeroValue 80).run Tryz.prog w = .ok (flV flZ) w := by
  have h : Tryz.t80.zero = some (flV flZ) := by kernel_rfl
  simp [zeroValue, h]
theorem key64 {k : Nat} (h : U64 k) : keyOf Tryz.prog 32 (.int .u64 (k : Int)) = some (lk k) := keyOf_int_mk Tryz.underlying32 (u64_wf2 h)
/-- Block b is a map that holds the flows L. -/
structure FlMap (w : World) (b : Nat) (L : List Fl) : Prop where
  own : w.ownsMap Tryz.prog 32 rFl b L.length (flM L)
  rise : Rise L
  u64 : ∀ x ∈ L, U64 x.key
theorem FlMap.lt {w : World} {b : Nat} {L : List Fl} (h : FlMap w b L) : b < w.heap.size := h.own.lt
theorem ownsMap_tight {w : World} {b n : Nat} {L : List Fl} (h : w.ownsMap Tryz.prog 32 rFl b n (flM L)) : w.ownsMap Tryz.prog 32 rFl b L.length (flM L) := by
  obtain ⟨es, clock, hb, F, hs, hD⟩ := h
  refine ⟨es, clock, hb, F, ?_, hD⟩
  have h1 := flM_size L
  rw [hD] at h1
  simp [Maps.size, length_sorted] at h1
  omega
theorem FlMap.made (w : World) : FlMap (w.alloc (.map #[] 0)) w.heap.size [] := ⟨World.ownsMap_made w _ _ _, List.Pairwise.nil, fun _ h => by cases h⟩
theorem FlMap.turn {w w' : World} {b : Nat} {L : List Fl} {bs : List Nat} (h : FlMap w b L) (ht : Turn bs w w') (hb : b ∉ bs) : FlMap w' b L := ⟨ht.map h.own hb, h.rise, h.u64⟩
theorem FlMap.below {w w' : World} {b : Nat} {L : List Fl} (h : FlMap w b L) (hb : Below w.heap.size w w') : FlMap w' b L := h.turn (Turn.of_below (bs := []) hb) (by simp)
theorem FlMap.look {w : World} {b k : Nat} {L : List Fl} (h : FlMap w b L) (hk : U64 k) :
    (Instr.lookup 76 (.map (some b)) (.int .u64 (k : Int)) true).run Tryz.prog w = .ok (.tuple #[flV ((findF L k).getD flZ), .bool (findF L k).isSome]) w := by
  obtain ⟨v, ps, hrun, hv⟩ := h.own.look_ok (int_keyed Tryz.underlying32) Tryz.underlying76 (zero_flow w) (rFl_mk flZ) (key64 hk)
  obtain ⟨x, rfl, hx⟩ := rFl_some hv
  rw [flM_at] at hx
  rw [flM_has] at hrun
  have e : x = (findF L k).getD flZ := by
    apply flD_inj
    have hx2 := (congrArg Prod.fst hx).symm
    refine hx2.trans ?_
    dsimp only
    generalize findF L k = o
    cases o <;> rfl
  rw [← e]
  exact hrun
theorem FlMap.len {w : World} {b : Nat} {L : List Fl} (h : FlMap w b L) (ty : TypeId) : (Builtin.len_ #[76] ty #[.map (some b)]).run Tryz.prog w = .ok (.int .i64 (L.length : Int)) w := by
  have := h.own.len Tryz.underlying76 ty
  rwa [flM_size] at this
theorem FlMap.put {w : World} {b : Nat} {L : List Fl} (h : FlMap w b L) (x : Fl) (hk : U64 x.key) (hl : L.length ≤ 1000) :
    ∃ w', (Instr.mapUpdate 76 (.map (some b)) (.int .u64 (x.key : Int)) (flV x)).run Tryz.prog w = .ok () w' ∧ FlMap w' b (insF x (delF x.key L)) ∧ w.grownBy w' (some b) := by
  obtain ⟨w', hrun, ho, hg⟩ := h.own.update (int_keyed Tryz.underlying32) Tryz.underlying76 (by unfold maxLen; omega) (key64 hk) (rFl_mk x)
  rw [flM_put] at ho
  refine ⟨w', hrun, ⟨ownsMap_tight ho, h.rise.put, fun y hy => ?_⟩, hg⟩
  rcases mem_insF.1 hy with rfl | hy
  · exact hk
  · exact h.u64 y (delF_mem hy)
theorem FlMap.del {w : World} {b k : Nat} {L : List Fl} (h : FlMap w b L) (hk : U64 k) (ty : TypeId) :
    ∃ w', (Builtin.delete_ #[76, 32] ty #[.map (some b), .int .u64 (k : Int)]).run Tryz.prog w = .ok (.tuple #[]) w' ∧ FlMap w' b (delF k L) ∧ w.grownBy w' (some b) := by
  obtain ⟨w', hrun, ho, hg⟩ := h.own.drop (int_keyed Tryz.underlying32) Tryz.underlying76 (key64 hk) ty
  rw [flM_del] at ho
  exact ⟨w', hrun, ⟨ownsMap_tight ho, h.rise.del k, fun y hy => h.u64 y (delF_mem hy)⟩, hg.grown⟩

section
variable {w : World} {ops : Array Oper} {rest : List Oper} {o : Oper} {a : Act} {Q : Exit → Act → World → Prop} {b : Nat} {L : List Fl}
theorem wp_fl_look (hg : o.guard = none) (m x : Operand) (hop : o.op = Op.lookup 76 m x true) (hm : a.eval m = .map (some b)) (h : FlMap w b L) (k : Nat) (hx : a.eval x = .int .u64 (k : Int)) (hk : U64 k) (y : Fl) (hy : (findF L k).getD flZ = y) (bs : Bool) (hbs : (findF L k).isSome = bs)
    (hK : wpList Tryz.prog ops Q rest (a.put o.dst (.tuple #[.agg #[.int .u64 (y.key : Int), .string y.host, .int .i64 y.til], .bool bs])) w) : wpList Tryz.prog ops Q (o :: rest) a w := by
  refine wpList_plain hg fun K' hK' => ?_
  have hrun := h.look hk
  rw [hy, hbs] at hrun
  unfold flV at hrun
  unfold Oper.wp
  simp [execOp, hop, hm, hx, hrun, Result.andThen]
  exact hK' _ _ hK
theorem wp_fl_len (hg : o.guard = none) (m : Operand) (hop : o.op = Op.call { callee := Callee.builtin Builtin.len, args := #[m], argTypes := #[76] }) (hm : a.eval m = .map (some b)) (h : FlMap w b L)
    (hK : wpList Tryz.prog ops Q rest (a.put o.dst (.int .i64 (L.length : Int))) w) : wpList Tryz.prog ops Q (o :: rest) a w := by
  refine wpList_plain hg fun K' hK' => ?_
  have hrun := h.len o.type
  unfold Oper.wp
  simp [execOp, hop, resolve, invoke, builtin, hm, hrun, Result.andThen]
  exact hK' _ _ hK
theorem wp_fl_lenG (hw : Region.wanted o (yielded ops a.tmps) = true) (m : Operand) (hop : o.op = Op.call { callee := Callee.builtin Builtin.len, args := #[m], argTypes := #[76] }) (hm : a.eval m = .map (some b)) (h : FlMap w b L)
    (hK : wpList Tryz.prog ops Q rest (a.put o.dst (.int .i64 (L.length : Int))) w) : wpList Tryz.prog ops Q (o :: rest) a w := by
  refine wpList_step fun K' hK' => ?_
  rw [if_pos hw]
  have hrun := h.len o.type
  unfold Oper.wp
  simp [execOp, hop, resolve, invoke, builtin, hm, hrun, Result.andThen]
  exact hK' _ _ hK
theorem step_fl_put {K : Act → World → Prop} {E : Prop} (hg : o.guard = none) (m x v : Operand) (hop : o.op = Op.mapUpdate 76 m x v) (hm : a.eval m = .map (some b)) (h : FlMap w b L) (y : Fl) (hx : a.eval x = .int .u64 (y.key : Int)) (hv : a.eval v = flV y) (hk : U64 y.key) (hl : L.length ≤ 1000)
    (hK : ∀ w', FlMap w' b (insF y (delF y.key L)) → w.grownBy w' (some b) → K (a.put o.dst undef) w') : if Region.wanted o (yielded ops a.tmps) = true then Oper.wp Tryz.prog o a w K Q else E := by
  have hw : Region.wanted o (yielded ops a.tmps) = true := by simp [Region.wanted, hg]
  rw [if_pos hw]
  obtain ⟨w', hrun, r1, r2⟩ := h.put y hk hl
  unfold Oper.wp
  simp [execOp, hop, hm, hx, hv, hrun, Result.andThen]
  exact hK w' r1 r2
theorem step_fl_look {K : Act → World → Prop} {E : Prop} (hg : o.guard = none) (m x : Operand) (hop : o.op = Op.lookup 76 m x true) (hm : a.eval m = .map (some b)) (h : FlMap w b L) (k : Nat) (hx : a.eval x = .int .u64 (k : Int)) (hk : U64 k) (y : Fl) (hy : (findF L k).getD flZ = y) (bs : Bool) (hbs : (findF L k).isSome = bs)
    (hK : K (a.put o.dst (.tuple #[.agg #[.int .u64 (y.key : Int), .string y.host, .int .i64 y.til], .bool bs])) w) : if Region.wanted o (yielded ops a.tmps) = true then Oper.wp Tryz.prog o a w K Q else E := by
  have hw : Region.wanted o (yielded ops a.tmps) = true := by simp [Region.wanted, hg]
  rw [if_pos hw]
  have hrun := h.look hk
  rw [hy, hbs] at hrun
  unfold flV at hrun
  unfold Oper.wp
  simp [execOp, hop, hm, hx, hrun, Result.andThen]
  exact hK
theorem step_fl_del {K : Act → World → Prop} {E : Prop} (hg : o.guard = none) (m x : Operand) (hop : o.op = Op.call { callee := Callee.builtin Builtin.delete, args := #[m, x], argTypes := #[76, 32] }) (hm : a.eval m = .map (some b)) (h : FlMap w b L) (k : Nat) (hx : a.eval x = .int .u64 (k : Int)) (hk : U64 k)
    (hK : ∀ w', FlMap w' b (delF k L) → w.grownBy w' (some b) → K (a.put o.dst (.tuple #[])) w') : if Region.wanted o (yielded ops a.tmps) = true then Oper.wp Tryz.prog o a w K Q else E := by
  have hw : Region.wanted o (yielded ops a.tmps) = true := by simp [Region.wanted, hg]
  rw [if_pos hw]
  obtain ⟨w', hrun, r1, r2⟩ := h.del hk o.type
  unfold Oper.wp
  simp [execOp, hop, resolve, invoke, builtin, hm, hx, hrun, Result.andThen]
  exact hK w' r1 r2
end
end Go.Proofs.YtnmkdmehljkedaaGreatDoor
