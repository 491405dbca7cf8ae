/-
  errors.As at the concrete target *api.Fault: the kit's worked text turned to this program.
  errors.Is between the errors of package api.
  The walk of plain.Code.
-/
import Derived.Test.YthkfhfldoniolaaGreatDoorLaid
import Derived.LaidEql
import Derived.Stop.Asserts
import Derived.RowKitTokens
import Derived.Test.YthkfhfldoniolaaGreatDoorLists
namespace Go.Proofs.YthkfhfldoniolaaGreatDoor
open Go.RowKit Go.Extern.Stop Go.Stop Go.Extern

/-! ### CLOSED FACTS ON THE MODEL's ENTRIES FOR internal/reflectlite, at this program's types: 25: *p.E · 27: **p.E · 23: error · 45: reflectlite's rtype · 1: how many package-level variables the dump has -/
theorem as_valueOf27 (t : Addr) (w : World) : (ReflectliteValue.unpack (.iface 123 (.pointer (some t)))).run Tryz.prog w
    = .ok (.agg #[.pointer (some ⟨23, 123, none⟩), .pointer (some ⟨w.heap.size, 0, none⟩), .int .u64 150]) (w.alloc (.cells #[.pointer (some t)] 123)) := by kernel_rfl
theorem as_type27 (a : Addr) (w : World) : (ReflectliteValue.methodAny (ReflectliteValue.valueError "reflectlite.Value.Type" 0) (fun t _ _ _ => ReflectliteType.toType t) #[.agg #[.pointer (some ⟨23, 123, none⟩), .pointer (some a), .int .u64 150]]).run Tryz.prog w
    = .ok (.iface 229 (.agg #[.pointer (some ⟨23, 123, none⟩)])) w := by kernel_rfl
theorem as_methodKind (h : Value) (w : World) : (Go.method 508 229 (.agg #[h]) "Kind").run Tryz.prog w = .ok (315, h) w := by kernel_rfl
theorem as_kind27 (w : World) : ((ReflectliteType.abiMethod fun t => (fun a : Nat => Value.int IntKind.u8 (a : Int)) <$> Rtype.kind t) #[.pointer (some ⟨23, 123, none⟩)]).run Tryz.prog w = .ok (.int .u8 22) w := by kernel_rfl
theorem as_kind25 (w : World) : ((ReflectliteType.abiMethod fun t => (fun a : Nat => Value.int IntKind.u8 (a : Int)) <$> Rtype.kind t) #[.pointer (some ⟨23, 121, none⟩)]).run Tryz.prog w = .ok (.int .u8 22) w := by kernel_rfl

/-! ### THE ENTRIES THAT READ OR WRITE MEMORY: laws with a premise on the cell (after Derived/Lib/ReflectliteSlice.lean's manner: each unfolding a lemma of its own, by rfl) -/
theorem rlm (z : Sem Value) (f : TypeId → Addr → Nat → Nat → Sem Value) (v : Value) :
    ReflectliteValue.method z f #[v] = (do match ← ReflectliteValue.parts v with | none => z | some (t, a, fl) => f t a fl (fl % 32)) := rfl
theorem as_parts27 (a : Addr) (w : World) : (ReflectliteValue.parts (.agg #[.pointer (some ⟨23, 123, none⟩), .pointer (some a), .int .u64 150])).run Tryz.prog w = .ok (some (123, a, 150)) w := by kernel_rfl
/-- (Value).IsNil at the Value of a **p.E that is not nil. -/
theorem as_isNil27 (a p : Addr) (W : World) (ha : W.cell? a = some (.pointer (some p))) :
    (ReflectliteValue.method (ReflectliteValue.valueError "reflectlite.Value.IsNil" 0) ReflectliteValue.isNil #[.agg #[.pointer (some ⟨23, 123, none⟩), .pointer (some a), .int .u64 150]]).run Tryz.prog W = .ok (.bool false) W := by
  rw [rlm]
  simp only [Sem.run_bind, as_parts27, Result.andThen]
  simp [ReflectliteValue.isNil, loadVar, isAgg, underlying, Tryz.underlying123, ha, Result.andThen]

theorem as_methodElem (h : Value) (w : World) : (Go.method 508 229 (.agg #[h]) "Elem").run Tryz.prog w = .ok (328, .agg #[h]) w := by kernel_rfl
theorem as_methodImplements (h : Value) (w : World) : (Go.method 508 229 (.agg #[h]) "Implements").run Tryz.prog w = .ok (329, .agg #[h]) w := by kernel_rfl
theorem as_methodAssignableTo (h : Value) (w : World) : (Go.method 508 229 (.agg #[h]) "AssignableTo").run Tryz.prog w = .ok (326, .agg #[h]) w := by kernel_rfl
theorem as_elem27 (w : World) : (ReflectliteType.method ReflectliteType.elem #[.agg #[.pointer (some ⟨23, 123, none⟩)]]).run Tryz.prog w = .ok (.iface 229 (.agg #[.pointer (some ⟨23, 121, none⟩)])) w := by kernel_rfl
theorem as_implements25 (w : World) : (ReflectliteType.relation "Implements" ReflectliteType.implements_ #[.agg #[.pointer (some ⟨23, 121, none⟩)], .iface 229 (.agg #[.pointer (some ⟨23, 37, none⟩)])]).run Tryz.prog w = .ok (.bool true) w := by kernel_rfl
theorem as_typeOf25 (v : Value) (w : World) : (ReflectliteType.typeOf #[.iface 121 v]).run Tryz.prog w = .ok (.iface 229 (.agg #[.pointer (some ⟨23, 121, none⟩)])) w := by kernel_rfl
theorem as_assignable25 (w : World) : (ReflectliteType.relation "AssignableTo" ReflectliteType.assignableTo #[.agg #[.pointer (some ⟨23, 121, none⟩)], .iface 229 (.agg #[.pointer (some ⟨23, 121, none⟩)])]).run Tryz.prog w = .ok (.bool true) w := by kernel_rfl
theorem as_valueOf25 (e : Addr) (w : World) : (ReflectliteValue.unpack (.iface 121 (.pointer (some e)))).run Tryz.prog w
    = .ok (.agg #[.pointer (some ⟨23, 121, none⟩), .pointer (some ⟨w.heap.size, 0, none⟩), .int .u64 150]) (w.alloc (.cells #[.pointer (some e)] 121)) := by kernel_rfl

theorem as_elemOf27 (w : World) : (Rtype.elem? 123).run Tryz.prog w = .ok (some 121) w := by kernel_rfl
theorem as_mk25 (p : Addr) (w : World) : (ReflectliteValue.mk 121 p ReflectliteValue.flagAddr).run Tryz.prog w = .ok (.agg #[.pointer (some ⟨23, 121, none⟩), .pointer (some p), .int .u64 406]) w := by kernel_rfl
/-- (Value).Elem at the Value of a **p.E that is not nil: the Value of the *p.E variable that it points to, addressable. -/
theorem as_elemV27 (a p : Addr) (W : World) (ha : W.cell? a = some (.pointer (some p))) :
    (ReflectliteValue.method (ReflectliteValue.valueError "reflectlite.Value.Elem" 0) ReflectliteValue.elem #[.agg #[.pointer (some ⟨23, 123, none⟩), .pointer (some a), .int .u64 150]]).run Tryz.prog W
      = .ok (.agg #[.pointer (some ⟨23, 121, none⟩), .pointer (some p), .int .u64 406]) W := by
  rw [rlm]
  simp only [Sem.run_bind, as_parts27, Result.andThen]
  simp [ReflectliteValue.elem, loadVar, isAgg, underlying, Tryz.underlying123, ha, Result.andThen, as_elemOf27, as_mk25]
theorem rls (v x : Value) : ReflectliteValue.set #[v, x] = (do
    let (some (dst, a, fl), some (src, b, _)) := (← ReflectliteValue.parts v, ← ReflectliteValue.parts x)
      | unsupported (.noEntry "extern/(internal/reflectlite.Value).Set.zeroValue")
    if fl / ReflectliteValue.flagAddr % 2 == 0 then unsupported (.noEntry "extern/(internal/reflectlite.Value).Set.unaddressable")
    let val ← loadVar src b
    if ← Rtype.directlyAssignable dst src then storeVar dst a val
    else if ← Rtype.implements dst src then
      if (← Rtype.kind src) == 20 then
        match val with
        | .nilIface => unsupported (.noEntry "extern/reflectlite: a nil value of one interface type handed on as a value of another")
        | _ => storeVar dst a val
      else storeVar dst a (.iface src val)
    else panicString ("reflectlite.Set: value of type " ++ (← Rtype.spelt src) ++ " is not assignable to type " ++ (← Rtype.spelt dst))
    pure (.tuple #[])) := rfl
theorem as_parts25a (a : Addr) (w : World) : (ReflectliteValue.parts (.agg #[.pointer (some ⟨23, 121, none⟩), .pointer (some a), .int .u64 406])).run Tryz.prog w = .ok (some (121, a, 406)) w := by kernel_rfl
theorem as_parts25 (a : Addr) (w : World) : (ReflectliteValue.parts (.agg #[.pointer (some ⟨23, 121, none⟩), .pointer (some a), .int .u64 150])).run Tryz.prog w = .ok (some (121, a, 150)) w := by kernel_rfl
theorem as_direct25 (w : World) : (Rtype.directlyAssignable 121 121).run Tryz.prog w = .ok true w := by kernel_rfl
/-- (Value).Set: the *p.E variable at 'ta' gets what the Value's own variable 'b' holds. -/
theorem as_set25 (ta b e : Addr) (old : Value) (W : World) (hb : W.cell? b = some (.pointer (some e))) (ht : W.cell? ta = some old) (hf : W.frozen? ta = false) :
    (ReflectliteValue.set #[.agg #[.pointer (some ⟨23, 121, none⟩), .pointer (some ta), .int .u64 406], .agg #[.pointer (some ⟨23, 121, none⟩), .pointer (some b), .int .u64 150]]).run Tryz.prog W
      = .ok (.tuple #[]) (W.setCell ta (.pointer (some e))) := by
  rw [rls]
  simp only [Sem.run_bind, as_parts25a, as_parts25, Result.andThen]
  simp [ReflectliteValue.flagAddr, loadVar, isAgg, underlying, Tryz.underlying121, hb, Result.andThen, as_direct25, storeVar, Value.cells, storeCells, Addr.add]
  rw [run_store Tryz.prog W ta _ _ (by rfl)]
  simp [ht, hf]

set_option maxRecDepth 100000 in
set_option maxHeartbeats 4000000 in
theorem as_hit (e t : Addr) (old : Value) (w : World) (hg : w.cell? ⟨9, 0, none⟩ = some (.iface 229 (.agg #[.pointer (some ⟨23, 37, none⟩)]))) (ht0 : w.cell? t = some old) (hf0 : w.frozen? t = false) :
    Calls Tryz.prog 60 #[.iface 121 (.pointer (some e)), .iface 123 (.pointer (some t))] w fun ev w' => ev = .returned (.bool true) ∧ w' = ((((w.alloc (.cells #[.pointer (some t)] 123)).alloc (.cells #[.pointer (some ⟨23, 123, none⟩), .pointer (some ⟨w.heap.size, 0, none⟩), .int .u64 150] 174)).alloc (.cells #[.pointer (some ⟨23, 123, none⟩), .pointer (some ⟨w.heap.size, 0, none⟩), .int .u64 150] 174)).alloc (.cells #[.pointer (some e)] 121)).setCell t (.pointer (some e)) := by
  have h6 := @run_callFunc_extern Tryz.prog 111 _ (fun args => ReflectliteValue.unpack (args.getD 0 (.tuple #[]))) Tryz.func111 (by kernel_rfl) (by kernel_rfl) (by kernel_rfl) (by kernel_rfl)
  have h7 := @run_callFunc_extern Tryz.prog 112 _ (ReflectliteValue.methodAny (ReflectliteValue.valueError "reflectlite.Value.Type" 0) (fun t _ _ _ => ReflectliteType.toType t)) Tryz.func112 (by kernel_rfl) (by kernel_rfl) (by kernel_rfl) (by kernel_rfl)
  have h8 := @run_callFunc_extern Tryz.prog 113 _ (ReflectliteValue.method (ReflectliteValue.valueError "reflectlite.Value.IsNil" 0) ReflectliteValue.isNil) Tryz.func113 (by kernel_rfl) (by kernel_rfl) (by kernel_rfl) (by kernel_rfl)
  have h27 := @run_callFunc_extern Tryz.prog 315 _ (ReflectliteType.abiMethod fun t => do pure (.int .u8 (← Rtype.kind t))) Tryz.func315 (by kernel_rfl) (by kernel_rfl) (by kernel_rfl) (by kernel_rfl)
  have h37 := @run_callFunc_extern Tryz.prog 328 _ (ReflectliteType.method ReflectliteType.elem) Tryz.func328 (by kernel_rfl) (by kernel_rfl) (by kernel_rfl) (by kernel_rfl)
  have h38 := @run_callFunc_extern Tryz.prog 329 _ (ReflectliteType.relation "Implements" ReflectliteType.implements_) Tryz.func329 (by kernel_rfl) (by kernel_rfl) (by kernel_rfl) (by kernel_rfl)
  have h10 := @run_callFunc_extern Tryz.prog 115 _ ReflectliteType.typeOf Tryz.func115 (by kernel_rfl) (by kernel_rfl) (by kernel_rfl) (by kernel_rfl)
  have h35 := @run_callFunc_extern Tryz.prog 326 _ (ReflectliteType.relation "AssignableTo" ReflectliteType.assignableTo) Tryz.func326 (by kernel_rfl) (by kernel_rfl) (by kernel_rfl) (by kernel_rfl)
  have h11 := @run_callFunc_extern Tryz.prog 160 _ (ReflectliteValue.method (ReflectliteValue.valueError "reflectlite.Value.Elem" 0) ReflectliteValue.elem) Tryz.func160 (by kernel_rfl) (by kernel_rfl) (by kernel_rfl) (by kernel_rfl)
  have h12 := @run_callFunc_extern Tryz.prog 161 _ ReflectliteValue.set Tryz.func161 (by kernel_rfl) (by kernel_rfl) (by kernel_rfl) (by kernel_rfl)
  have tO := as_typeOf25
  have mA := as_methodAssignableTo
  have a25 := as_assignable25
  have v25 := as_valueOf25
  have f6 := as_valueOf27
  have f7 := as_type27
  have mK := as_methodKind
  have mE := as_methodElem
  have mI := as_methodImplements
  have k27 := as_kind27
  have k25 := as_kind25
  have e27 := as_elem27
  have i25 := as_implements25
  have n8 := as_isNil27 ⟨w.heap.size, 0, none⟩ t ((w.alloc (.cells #[.pointer (some t)] 123)).alloc (.cells #[.pointer (some ⟨23, 123, none⟩), .pointer (some ⟨w.heap.size, 0, none⟩), .int .u64 150] 174)) (by simp)
  have hlt : 9 < w.heap.size := lt_of_cell hg
  have hg2 : ((w.alloc (.cells #[.pointer (some t)] 123)).alloc (.cells #[.pointer (some ⟨23, 123, none⟩), .pointer (some ⟨w.heap.size, 0, none⟩), .int .u64 150] 174)).cell? ⟨9, 0, none⟩ = some (.iface 229 (.agg #[.pointer (some ⟨23, 37, none⟩)])) := by
    rw [World.cell?_alloc_lt _ _ ⟨9, 0, none⟩ (by simp; omega), World.cell?_alloc_lt _ _ ⟨9, 0, none⟩ hlt]; exact hg
  have htl : t.block < w.heap.size := by
    rcases Nat.lt_or_ge t.block w.heap.size with h | h
    · exact h
    · simp [World.cell?, Array.getElem?_eq_none h] at ht0
  have el := as_elemV27 ⟨w.heap.size, 0, none⟩ t (((w.alloc (.cells #[.pointer (some t)] 123)).alloc (.cells #[.pointer (some ⟨23, 123, none⟩), .pointer (some ⟨w.heap.size, 0, none⟩), .int .u64 150] 174)).alloc (.cells #[.pointer (some ⟨23, 123, none⟩), .pointer (some ⟨w.heap.size, 0, none⟩), .int .u64 150] 174)) (by rw [World.cell?_alloc_lt _ _ ⟨w.heap.size, 0, none⟩ (by simp; omega)]; simp)
  have st := as_set25 t ⟨w.heap.size + 1 + 1 + 1, 0, none⟩ e old ((((w.alloc (.cells #[.pointer (some t)] 123)).alloc (.cells #[.pointer (some ⟨23, 123, none⟩), .pointer (some ⟨w.heap.size, 0, none⟩), .int .u64 150] 174)).alloc (.cells #[.pointer (some ⟨23, 123, none⟩), .pointer (some ⟨w.heap.size, 0, none⟩), .int .u64 150] 174)).alloc (.cells #[.pointer (some e)] 121))
    (by rw [World.cell?_alloc_at _ _ _ _ (by simp)]; rfl)
    (by rw [World.cell?_alloc_lt _ _ t (by simp; omega), World.cell?_alloc_lt _ _ t (by simp; omega), World.cell?_alloc_lt _ _ t (by simp; omega), World.cell?_alloc_lt _ _ t htl]; exact ht0)
    (by rw [World.frozen?_alloc_old _ _ t (by simp; omega), World.frozen?_alloc_old _ _ t (by simp; omega), World.frozen?_alloc_old _ _ t (by simp; omega), World.frozen?_alloc_old _ _ t (Nat.ne_of_lt htl)]; exact hf0)
  go_enter Tryz.func60, Tryz.ntmps60
  go_wp2
  refine wp_loop_rounds 1 ?_
  rw [rounds_succ]
  go_wp2
  go_ret
  exact ⟨rfl, rfl⟩

theorem as_typeOfS (v : Value) (w : World) : (ReflectliteType.typeOf #[.iface 355 v]).run Tryz.prog w = .ok (.iface 229 (.agg #[.pointer (some ⟨23, 355, none⟩)])) w := by kernel_rfl
theorem as_assignableS (w : World) : (ReflectliteType.relation "AssignableTo" ReflectliteType.assignableTo #[.agg #[.pointer (some ⟨23, 355, none⟩)], .iface 229 (.agg #[.pointer (some ⟨23, 121, none⟩)])]).run Tryz.prog w = .ok (.bool false) w := by kernel_rfl
theorem as_noAs (v : Value) (w : World) : (Instr.typeAssert (.iface 355 v) 37 233 true).run Tryz.prog w = .ok (.tuple #[.nilIface, .bool false]) w := run_typeAssert_lacksB Tryz.underlying233 (by kernel_rfl) (by kernel_rfl) v 37 w
theorem as_noUnwrap (v : Value) (w : World) : (Instr.typeAssert (.iface 355 v) 37 236 true).run Tryz.prog w = .ok (.tuple #[.nilIface, .bool false]) w := run_typeAssert_lacksB Tryz.underlying236 (by kernel_rfl) (by kernel_rfl) v 37 w
theorem as_noUnwraps (v : Value) (w : World) : (Instr.typeAssert (.iface 355 v) 37 238 true).run Tryz.prog w = .ok (.tuple #[.nilIface, .bool false]) w := run_typeAssert_lacksB Tryz.underlying238 (by kernel_rfl) (by kernel_rfl) v 37 w
set_option maxRecDepth 100000 in
set_option maxHeartbeats 4000000 in
theorem as_miss (e t : Addr) (old : Value) (w : World) (hg : w.cell? ⟨9, 0, none⟩ = some (.iface 229 (.agg #[.pointer (some ⟨23, 37, none⟩)]))) (ht0 : w.cell? t = some old) :
    Calls Tryz.prog 60 #[.iface 355 (.pointer (some e)), .iface 123 (.pointer (some t))] w fun ev w' => ev = .returned (.bool false) ∧ w' = (((w.alloc (.cells #[.pointer (some t)] 123)).alloc (.cells #[.pointer (some ⟨23, 123, none⟩), .pointer (some ⟨w.heap.size, 0, none⟩), .int .u64 150] 174)).alloc (.cells #[.pointer (some ⟨23, 123, none⟩), .pointer (some ⟨w.heap.size, 0, none⟩), .int .u64 150] 174)) := by
  have h6 := @run_callFunc_extern Tryz.prog 111 _ (fun args => ReflectliteValue.unpack (args.getD 0 (.tuple #[]))) Tryz.func111 (by kernel_rfl) (by kernel_rfl) (by kernel_rfl) (by kernel_rfl)
  have h7 := @run_callFunc_extern Tryz.prog 112 _ (ReflectliteValue.methodAny (ReflectliteValue.valueError "reflectlite.Value.Type" 0) (fun t _ _ _ => ReflectliteType.toType t)) Tryz.func112 (by kernel_rfl) (by kernel_rfl) (by kernel_rfl) (by kernel_rfl)
  have h8 := @run_callFunc_extern Tryz.prog 113 _ (ReflectliteValue.method (ReflectliteValue.valueError "reflectlite.Value.IsNil" 0) ReflectliteValue.isNil) Tryz.func113 (by kernel_rfl) (by kernel_rfl) (by kernel_rfl) (by kernel_rfl)
  have h27 := @run_callFunc_extern Tryz.prog 315 _ (ReflectliteType.abiMethod fun t => do pure (.int .u8 (← Rtype.kind t))) Tryz.func315 (by kernel_rfl) (by kernel_rfl) (by kernel_rfl) (by kernel_rfl)
  have h37 := @run_callFunc_extern Tryz.prog 328 _ (ReflectliteType.method ReflectliteType.elem) Tryz.func328 (by kernel_rfl) (by kernel_rfl) (by kernel_rfl) (by kernel_rfl)
  have h38 := @run_callFunc_extern Tryz.prog 329 _ (ReflectliteType.relation "Implements" ReflectliteType.implements_) Tryz.func329 (by kernel_rfl) (by kernel_rfl) (by kernel_rfl) (by kernel_rfl)
  have h10 := @run_callFunc_extern Tryz.prog 115 _ ReflectliteType.typeOf Tryz.func115 (by kernel_rfl) (by kernel_rfl) (by kernel_rfl) (by kernel_rfl)
  have h35 := @run_callFunc_extern Tryz.prog 326 _ (ReflectliteType.relation "AssignableTo" ReflectliteType.assignableTo) Tryz.func326 (by kernel_rfl) (by kernel_rfl) (by kernel_rfl) (by kernel_rfl)
  have h11 := @run_callFunc_extern Tryz.prog 160 _ (ReflectliteValue.method (ReflectliteValue.valueError "reflectlite.Value.Elem" 0) ReflectliteValue.elem) Tryz.func160 (by kernel_rfl) (by kernel_rfl) (by kernel_rfl) (by kernel_rfl)
  have h12 := @run_callFunc_extern Tryz.prog 161 _ ReflectliteValue.set Tryz.func161 (by kernel_rfl) (by kernel_rfl) (by kernel_rfl) (by kernel_rfl)
  have tO := as_typeOfS
  have mA := as_methodAssignableTo
  have a25 := as_assignableS
  have n1 := fun v W => as_noAs v W
  have n2 := fun v W => as_noUnwrap v W
  have n3 := fun v W => as_noUnwraps v W
  have f6 := as_valueOf27
  have f7 := as_type27
  have mK := as_methodKind
  have mE := as_methodElem
  have mI := as_methodImplements
  have k27 := as_kind27
  have k25 := as_kind25
  have e27 := as_elem27
  have i25 := as_implements25
  have n8 := as_isNil27 ⟨w.heap.size, 0, none⟩ t ((w.alloc (.cells #[.pointer (some t)] 123)).alloc (.cells #[.pointer (some ⟨23, 123, none⟩), .pointer (some ⟨w.heap.size, 0, none⟩), .int .u64 150] 174)) (by simp)
  have hlt : 9 < w.heap.size := lt_of_cell hg
  have hg2 : ((w.alloc (.cells #[.pointer (some t)] 123)).alloc (.cells #[.pointer (some ⟨23, 123, none⟩), .pointer (some ⟨w.heap.size, 0, none⟩), .int .u64 150] 174)).cell? ⟨9, 0, none⟩ = some (.iface 229 (.agg #[.pointer (some ⟨23, 37, none⟩)])) := by
    rw [World.cell?_alloc_lt _ _ ⟨9, 0, none⟩ (by simp; omega), World.cell?_alloc_lt _ _ ⟨9, 0, none⟩ hlt]; exact hg
  have htl : t.block < w.heap.size := by
    rcases Nat.lt_or_ge t.block w.heap.size with h | h
    · exact h
    · simp [World.cell?, Array.getElem?_eq_none h] at ht0
  have el := as_elemV27 ⟨w.heap.size, 0, none⟩ t (((w.alloc (.cells #[.pointer (some t)] 123)).alloc (.cells #[.pointer (some ⟨23, 123, none⟩), .pointer (some ⟨w.heap.size, 0, none⟩), .int .u64 150] 174)).alloc (.cells #[.pointer (some ⟨23, 123, none⟩), .pointer (some ⟨w.heap.size, 0, none⟩), .int .u64 150] 174)) (by rw [World.cell?_alloc_lt _ _ ⟨w.heap.size, 0, none⟩ (by simp; omega)]; simp)
  go_enter Tryz.func60, Tryz.ntmps60
  go_wp2
  refine wp_loop_rounds 1 ?_
  rw [rounds_succ]
  go_wp2
  go_ret
  exact ⟨rfl, rfl⟩
end Go.Proofs.YthkfhfldoniolaaGreatDoor

namespace Go.Proofs.YthkfhfldoniolaaGreatDoor
open Go.RowKit Go.Extern.Stop Go.Stop Go.Extern

theorem is_methodComparable (h : Value) (w : World) : (Go.method 508 229 (.agg #[h]) "Comparable").run Tryz.prog w = .ok (327, .agg #[h]) w := by kernel_rfl
theorem is_comparableS (w : World) : (ReflectliteType.method (fun t => do Rtype.noPackHeld "Comparable" t; (fun a : TypeInfo => Value.bool a.comparable) <$> typeInfo t) #[.agg #[.pointer (some ⟨23, 355, none⟩)]]).run Tryz.prog w = .ok (.bool true) w := by kernel_rfl
theorem is_noIs (v : Value) (w : World) : (Instr.typeAssert (.iface 355 v) 37 240 true).run Tryz.prog w = .ok (.tuple #[.nilIface, .bool false]) w := run_typeAssert_lacksB Tryz.underlying240 (by kernel_rfl) (by kernel_rfl) v 37 w
theorem is_noIsF (v : Value) (w : World) : (Instr.typeAssert (.iface 121 v) 37 240 true).run Tryz.prog w = .ok (.tuple #[.nilIface, .bool false]) w := run_typeAssert_lacksB Tryz.underlying240 (by kernel_rfl) (by kernel_rfl) v 37 w
theorem is_hasUnwrapF (v : Value) (w : World) : (Instr.typeAssert (.iface 121 v) 37 236 true).run Tryz.prog w = .ok (.tuple #[.iface 121 v, .bool true]) w := run_typeAssert_hasB Tryz.underlying236 (by kernel_rfl) v 37 w
theorem is_methodUnwrap (a : Addr) (w : World) : (Go.method 508 121 (.pointer (some a)) "Unwrap").run Tryz.prog w = .ok (321, .pointer (some a)) w := by kernel_rfl

/-- Two errors of errors.New's make are one, or they are not. -/
theorem eq_sent (b c : Addr) (w : World) (h : b ≠ c → (∃ x t, w.heap[b.block]? = some (.cells x t (0, 0))) ∧ ∃ x t, w.heap[c.block]? = some (.cells x t (0, 0))) :
    (binOp .eql 37 (.iface 355 (.pointer (some b))) (.iface 355 (.pointer (some c)))).run Tryz.prog w = .ok (.bool (decide (b = c))) w := by
  have hi : (Tryz.prog.info? 355).map (fun i => i.comparable) = some true := by kernel_rfl
  have hj : (Tryz.prog.info? 357).map (fun i => decide (i.size ≠ 0)) = some true := by kernel_rfl
  obtain ⟨i, hi1, hi2⟩ := Option.map_eq_some_iff.1 hi
  obtain ⟨j, hj1, hj2⟩ := Option.map_eq_some_iff.1 hj
  by_cases e : b = c
  · subst e
    rw [decide_eq_true rfl]
    exact run_eql_iface_ptr_same w b Tryz.underlying37 Tryz.underlying355 hi1 hi2 hj1
  · rw [decide_eq_false e]
    obtain ⟨⟨x, t, h1⟩, ⟨x', t', h2⟩⟩ := h e
    exact run_eql_iface_ptr_other w Tryz.underlying37 Tryz.underlying355 hi1 hi2 hj1 (of_decide_eq_true hj2) e h1 h2

set_option maxRecDepth 100000 in
set_option maxHeartbeats 1000000 in
theorem isLoop_sent (b c : Addr) (r : Bool) (w : World) (he : (binOp .eql 37 (.iface 355 (.pointer (some b))) (.iface 355 (.pointer (some c)))).run Tryz.prog w = .ok (.bool r) w) :
    Calls Tryz.prog 116 #[.iface 355 (.pointer (some b)), .iface 355 (.pointer (some c)), .bool true] w fun e w' => e = .returned (.bool r) ∧ w = w' := by
  have n1 := fun v W => is_noIs v W
  have n2 := fun v W => as_noUnwrap v W
  have n3 := fun v W => as_noUnwraps v W
  cases r
  all_goals
    go_enter Tryz.func116, Tryz.ntmps116
    go_wp2_with fail
    refine wp_loop_rounds 1 ?_
    rw [rounds_succ]
    go_wp2
    go_ret
    exact ⟨rfl, rfl⟩

theorem is_nilAhead (a : Addr) (w : World) : (nilAhead 508 121 (.pointer (some a)) "Unwrap").run Tryz.prog w = .ok (some false) w := by kernel_rfl
set_option maxRecDepth 100000 in
set_option maxHeartbeats 1000000 in
theorem isLoop_fault (f : Nat) (i : Int) (b c : Addr) (r : Bool) (w : World) (hF : Blk w f 125 #[.int .i64 i, .iface 355 (.pointer (some b))])
    (he : (binOp .eql 37 (.iface 355 (.pointer (some b))) (.iface 355 (.pointer (some c)))).run Tryz.prog w = .ok (.bool r) w) :
    Calls Tryz.prog 116 #[.iface 121 (.pointer (some ⟨f, 0, none⟩)), .iface 355 (.pointer (some c)), .bool true] w fun e w' => e = .returned (.bool r) ∧ w = w' := by
  have n1 := fun v W => is_noIs v W
  have n2 := fun v W => as_noUnwrap v W
  have n3 := fun v W => as_noUnwraps v W
  have m1 := fun v W => is_noIsF v W
  have m2 := fun v W => is_hasUnwrapF v W
  have m3 := fun a W => is_methodUnwrap a W
  have m4 := fun a W => is_nilAhead a W
  have m5 : ∀ W : World, (binOp .eql 37 (.iface 121 (.pointer (some ⟨f, 0, none⟩))) (.iface 355 (.pointer (some c)))).run Tryz.prog W = .ok (.bool false) W := fun W => run_eql_iface_types _ _ _ _ Tryz.underlying37 (by decide) W
  have c1 : w.cell? ⟨f, 1, none⟩ = some (.iface 355 (.pointer (some b))) := hF.cell 1
  clear hF
  cases r
  all_goals
    go_enter Tryz.func116, Tryz.ntmps116
    go_wp2_with fail
    refine wp_loop_rounds 2 ?_
    rw [rounds_succ]
    go_wp2
    rw [rounds_succ]
    go_wp2
    go_ret
    exact ⟨rfl, rfl⟩

set_option maxRecDepth 100000 in
set_option maxHeartbeats 1000000 in
theorem is_any (t : TypeId) (a c : Addr) (r : Bool) (w : World) (HL : Hid (Calls Tryz.prog 116 #[.iface t (.pointer (some a)), .iface 355 (.pointer (some c)), .bool true] w fun e w' => e = .returned (.bool r) ∧ w = w')) :
    Calls Tryz.prog 61 #[.iface t (.pointer (some a)), .iface 355 (.pointer (some c))] w fun e w' => e = .returned (.bool r) ∧ w = w' := by
  have h10 := @run_callFunc_extern Tryz.prog 115 _ ReflectliteType.typeOf Tryz.func115 (by kernel_rfl) (by kernel_rfl) (by kernel_rfl) (by kernel_rfl)
  have hC := @run_callFunc_extern Tryz.prog 327 _ (ReflectliteType.method fun t => do Rtype.noPackHeld "Comparable" t; pure (.bool (← typeInfo t).comparable)) Tryz.func327 (by kernel_rfl) (by kernel_rfl) (by kernel_rfl) (by kernel_rfl)
  have tO := as_typeOfS
  have mC := is_methodComparable
  have cC := is_comparableS
  go_enter Tryz.func61, Tryz.ntmps61
  go_wp2_with (go_at_call 116; refine HL.out.mono ?_; rintro e w1 ⟨rfl, rfl⟩)
  go_ret
  exact ⟨rfl, rfl⟩

/-- errors.Is of an error with a number, and another number's. -/
structure ErrsW (ea : Nat → Addr) (w : World) : Prop where
  row : ∀ c, 1 ≤ c → c ≤ 9 → SentAt w (gv c, ea (gv c))
  ne : ∀ c d, 1 ≤ c → c ≤ 9 → 1 ≤ d → d ≤ 9 → c ≠ d → ea (gv c) ≠ ea (gv d)
theorem ErrsW.below {ea : Nat → Addr} {w w' : World} (h : ErrsW ea w) (hb : Below w.heap.size w w') : ErrsW ea w' := ⟨fun c h1 h2 => (h.row c h1 h2).below hb, h.ne⟩
theorem is_code {ea : Nat → Addr} {w : World} {f : Flt} {t : TypeId} {a : Addr} (hE : ErrsW ea w) (hI : IsErr ea w f t a) (h1 : 1 ≤ f.code) (h2 : f.code ≤ 9) (c : Nat) (h3 : 1 ≤ c) (h4 : c ≤ 9) :
    Calls Tryz.prog 61 #[.iface t (.pointer (some a)), .iface 355 (.pointer (some (ea (gv c))))] w fun e w' => e = .returned (.bool (decide (f.code = c))) ∧ w = w' := by
  have hdec : decide (ea (gv f.code) = ea (gv c)) = decide (f.code = c) := by
    by_cases h : f.code = c
    · rw [h]; simp
    · rw [decide_eq_false h, decide_eq_false (hE.ne _ _ h1 h2 h3 h4 h)]
  have heq := eq_sent (ea (gv f.code)) (ea (gv c)) w (fun _ => ⟨(hE.row _ h1 h2).2.2.1, (hE.row _ h3 h4).2.2.1⟩)
  rw [hdec] at heq
  unfold IsErr at hI
  split at hI
  · obtain ⟨rfl, rfl⟩ := hI
    exact is_any _ _ _ _ w (Lib.hid (isLoop_sent _ _ _ w heq))
  · obtain ⟨rfl, b, rfl, hB⟩ := hI
    exact is_any _ _ _ _ w (Lib.hid (isLoop_fault b _ _ _ _ w hB heq))
end Go.Proofs.YthkfhfldoniolaaGreatDoor

namespace Go.Proofs.YthkfhfldoniolaaGreatDoor
open Go.RowKit Go.Extern.Stop Go.Stop Go.Extern

def HandleAt (w : World) : Prop := w.cell? ⟨9, 0, none⟩ = some (.iface 229 (.agg #[.pointer (some ⟨23, 37, none⟩)]))
theorem HandleAt.below {w w' : World} (h : HandleAt w) (hb : Below w.heap.size w w') : HandleAt w' := (hb.cell (p := ⟨9, 0, none⟩) (lt_of_cell h)).trans h

/-- What Code answers. -/
def CodePost (c : Nat) (at_ : Int) (w : World) (e : Ending) (w' : World) : Prop := e = .returned (.tuple #[.int .i64 (c : Int), .int .i64 at_]) ∧ Below w.heap.size w w'
/-- errors.As, the worlds told by what stays. -/
theorem as_no (e t : Addr) (old : Value) (w : World) (hg : HandleAt w) (ht : w.cell? t = some old) :
    Calls Tryz.prog 60 #[.iface 355 (.pointer (some e)), .iface 123 (.pointer (some t))] w fun ev w' => ev = .returned (.bool false) ∧ Below w.heap.size w w' :=
  (as_miss e t old w hg ht).mono fun ev w' h => ⟨h.1, by rw [h.2]; exact (((Below.refl _ _).alloc (Nat.le_refl _) _).alloc (by simp) _).alloc (by simp; omega) _⟩
theorem as_yes (e t : Addr) (old : Value) (w : World) (hg : HandleAt w) (ht : w.cell? t = some old) (hf : w.frozen? t = false) :
    Calls Tryz.prog 60 #[.iface 121 (.pointer (some e)), .iface 123 (.pointer (some t))] w fun ev w' => ev = .returned (.bool true) ∧ w'.cell? t = some (.pointer (some e)) ∧ Below t.block w w' :=
  (as_hit e t old w hg ht hf).mono fun ev w' h => by
    have htl : t.block < w.heap.size := by
      rcases Nat.lt_or_ge t.block w.heap.size with h | h
      · exact h
      · simp [World.cell?, Array.getElem?_eq_none h] at ht
    refine ⟨h.1, ?_, ?_⟩
    · rw [h.2]
      refine World.cell?_setCell_same (u := old) _ _ _ ?_
      rw [World.cell?_alloc_lt _ _ t (by simp; omega), World.cell?_alloc_lt _ _ t (by simp; omega), World.cell?_alloc_lt _ _ t (by simp; omega), World.cell?_alloc_lt _ _ t htl, ht]
    · rw [h.2]
      exact (((((Below.refl _ _).alloc (Nat.le_of_lt htl) _).alloc (by simp; omega) _).alloc (by simp; omega) _).alloc (by simp; omega) _).setCell (Nat.le_refl _) _

theorem sent9 (ea : Nat → Addr) (k : Nat) (hk : k < 9) : (#[Value.iface 355 (.pointer (some (ea (gv 1)))), .iface 355 (.pointer (some (ea (gv 2)))), .iface 355 (.pointer (some (ea (gv 3)))), .iface 355 (.pointer (some (ea (gv 4)))), .iface 355 (.pointer (some (ea (gv 5)))), .iface 355 (.pointer (some (ea (gv 6)))), .iface 355 (.pointer (some (ea (gv 7)))), .iface 355 (.pointer (some (ea (gv 8)))), .iface 355 (.pointer (some (ea (gv 9))))] : Array Value)[k]? = some (.iface 355 (.pointer (some (ea (gv (k + 1)))))) := by
  match k, hk with
  | 0, _ => rfl
  | 1, _ => rfl
  | 2, _ => rfl
  | 3, _ => rfl
  | 4, _ => rfl
  | 5, _ => rfl
  | 6, _ => rfl
  | 7, _ => rfl
  | 8, _ => rfl
/-- The nine errors' row. -/
def row9 (ea : Nat → Addr) : Obj := .cells #[Value.iface 355 (.pointer (some (ea (gv 1)))), .iface 355 (.pointer (some (ea (gv 2)))), .iface 355 (.pointer (some (ea (gv 3)))), .iface 355 (.pointer (some (ea (gv 4)))), .iface 355 (.pointer (some (ea (gv 5)))), .iface 355 (.pointer (some (ea (gv 6)))), .iface 355 (.pointer (some (ea (gv 7)))), .iface 355 (.pointer (some (ea (gv 8)))), .iface 355 (.pointer (some (ea (gv 9))))] 37
theorem row9_cell (ea : Nat → Addr) (w : World) (k : Nat) (hk : k < 9) : (w.alloc (row9 ea)).cell? ⟨w.heap.size, k, none⟩ = some (.iface 355 (.pointer (some (ea (gv (k + 1)))))) :=
  ((Blk.new w 37 _).cell k).trans (sent9 ea k hk)

set_option maxRecDepth 100000 in
set_option maxHeartbeats 2000000 in
theorem code_plain (ea : Nat → Addr) (a : Addr) (f : Flt) (w : World) (hE : ErrsW ea w) (hG : HandleAt w) (hf : f.place = none) (h1 : 1 ≤ f.code) (h2 : f.code ≤ 9) (hI : IsErr ea w f 355 a) :
    Calls Tryz.prog 30 #[.iface 355 (.pointer (some a))] w (CodePost f.code (-1) w) := by
  have hbv : Below w.heap.size w (w.alloc (.cells #[.pointer none] 121)) := (Below.refl _ _).alloc (Nat.le_refl _) _
  have HAs := Lib.hid (as_no a ⟨w.heap.size, 0, none⟩ (.pointer none) (w.alloc (.cells #[.pointer none] 121)) (hG.below hbv) (by simp))
  have HE := Lib.hid hE
  have HI := Lib.hid hI
  obtain ⟨fc, fp⟩ := f
  dsimp only at hf h1 h2 HI ⊢
  subst hf
  clear hE hI hG
  go_enter Tryz.func30, Tryz.ntmps30
  go_wp2_with fail
  refine HAs.out.mono ?_
  rintro e w1 ⟨rfl, hb1⟩
  have hb : Below w.heap.size w w1 := hbv.trans (hb1.mono hbv.size)
  have hE1 := HE.out.below hb
  have g1 := (hE1.row 1 (by decide) (by decide)).1
  have g2 := (hE1.row 2 (by decide) (by decide)).1
  have g3 := (hE1.row 3 (by decide) (by decide)).1
  have g4 := (hE1.row 4 (by decide) (by decide)).1
  have g5 := (hE1.row 5 (by decide) (by decide)).1
  have g6 := (hE1.row 6 (by decide) (by decide)).1
  have g7 := (hE1.row 7 (by decide) (by decide)).1
  have g8 := (hE1.row 8 (by decide) (by decide)).1
  have g9 := (hE1.row 9 (by decide) (by decide)).1
  dsimp only [gv] at g1 g2 g3 g4 g5 g6 g7 g8 g9
  have HE1 := Lib.hid hE1
  clear hE1 HAs
  go_wp2_with fail
  have hbr : Below w.heap.size w (w1.alloc (row9 ea)) := hb.alloc hb.size _
  obtain ⟨x, hx⟩ : ∃ x : Nat → Addr, ∀ k, ea (gv (k + 1)) = x k := ⟨fun k => ea (gv (k + 1)), fun _ => rfl⟩
  have HIs : ∀ k, k < 9 → Hid (Calls Tryz.prog 61 #[.iface 355 (.pointer (some a)), .iface 355 (.pointer (some (x k)))] (w1.alloc (row9 ea)) fun e w' => e = .returned (.bool (decide (fc = k + 1))) ∧ w1.alloc (row9 ea) = w') := fun k hk => by
    rw [← hx]
    exact Lib.hid (is_code (f := ⟨fc, none⟩) (HE.out.below hbr) (HI.out.below hbr) h1 h2 (k + 1) (by omega) (by omega))
  have HC : ∀ k, k < 9 → (w1.alloc (row9 ea)).cell? ⟨w1.heap.size, k, none⟩ = some (.iface 355 (.pointer (some (x k)))) := fun k hk => by
    rw [← hx]; exact row9_cell ea w1 k hk
  have HBR := Lib.hid hbr
  clear hbr hx
  unfold row9 at HIs HC HBR
  dsimp only [gv] at HIs HC HBR
  clear g1 g2 g3 g4 g5 g6 g7 g8 g9 HE1
  generalize (w1.alloc (.cells #[Value.iface 355 (.pointer (some (ea 1))), .iface 355 (.pointer (some (ea 0))), .iface 355 (.pointer (some (ea 3))), .iface 355 (.pointer (some (ea 4))), .iface 355 (.pointer (some (ea 2))), .iface 355 (.pointer (some (ea 5))), .iface 355 (.pointer (some (ea 6))), .iface 355 (.pointer (some (ea 7))), .iface 355 (.pointer (some (ea 8)))] 37)) = W at *
  go_loop [3, 5, 6, 27] (fun pv _ _ iv => ∃ k : Nat, k < fc ∧ iv = .int .i64 (k : Int) ∧ pv = .int .i64 (-1)) (fun _ _ _ iv => 9 - (intOf iv).toNat)
  case atStart => exact ⟨0, h1, rfl, rfl⟩
  case round =>
    obtain ⟨k, hk, rfl, rfl⟩ := hrel
    have hk9 : k < 9 := by omega
    have hki : (k : Int) < 9 := by omega
    have hc := HC k hk9
    have hi := HIs k hk9
    clear HC HIs
    by_cases he : fc = k + 1
    · rw [decide_eq_true he] at hi
      have HX := Lib.hid he
      clear he
      go_wp2_with (go_at_call 61; refine hi.out.mono ?_; rintro e w2 ⟨rfl, rfl⟩)
      go_ret2
      exact ⟨by rw [HX.out]; rfl, HBR.out⟩
    · rw [decide_eq_false he] at hi
      go_wp2_with (go_at_call 61; refine hi.out.mono ?_; rintro e w2 ⟨rfl, rfl⟩)
      go_round
      case rel => exact ⟨k + 1, by omega, by go_num, rfl⟩
      case measure => simp [intOf]; omega
/-- An error's block stands. -/
def Stands (w : World) (a : Addr) : Prop := ∃ x t, w.heap[a.block]? = some (.cells x t (0, 0))
theorem Stands.below {w w' : World} {a : Addr} (h : Stands w a) (hb : Below w.heap.size w w') : Stands w' a := by
  obtain ⟨x, t, h⟩ := h
  have hlt : a.block < w.heap.size := by
    rcases Nat.lt_or_ge a.block w.heap.size with h' | h'
    · exact h'
    · rw [Array.getElem?_eq_none h'] at h; cases h
  exact ⟨x, t, (hb.block _ hlt).trans h⟩
end Go.Proofs.YthkfhfldoniolaaGreatDoor
