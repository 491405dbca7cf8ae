/-
  errors.As at the concrete target *api.Fault: the kit's worked text turned to this program. errors.Is between the errors of package api. The walk of plain.Code. The walk of mix.Check.
-/
import Derived.Test.YthkfhfldoniolaaGreatDoorLaidA
import Derived.LaidEql
import Derived.Stop.Asserts
import Derived.RowKitTokens
import Derived.Test.YthkfhfldoniolaaGreatDoorLists
set_option maxHeartbeats 4000000
namespace Go.Proofs.YthkfhfldoniolaaGreatDoor
open Go.RowKit Go.Extern.Stop Go.Stop Go.Extern
theorem as_valueOf27 (t:Addr) (w:World):(ReflectliteValue.unpack (.iface 123 (.pointer (some t)))).run Tryz.prog w
 = .ok (.agg #[.pointer (some ⟨23,123,none⟩),.pointer (some ⟨w.heap.size,0,none⟩),.int .u64 150]) (w.alloc (.cells #[.pointer (some t)] 123)):=by kernel_rfl
theorem as_type27 (a:Addr) (w:World):(ReflectliteValue.methodAny (ReflectliteValue.valueError "reflectlite.Value.Type" 0) (fun t _ _ _=>ReflectliteType.toType t) #[.agg #[.pointer (some ⟨23,123,none⟩),.pointer (some a),.int .u64 150]]).run Tryz.prog w
 = .ok (.iface 229 (.agg #[.pointer (some ⟨23,123,none⟩)])) w:=by kernel_rfl
theorem zfr (h:Value) (w:World):(Go.method 508 229 (.agg #[h]) "Kind").run Tryz.prog w= .ok (315,h) w:=by kernel_rfl
theorem as_kind27 (w:World):((ReflectliteType.abiMethod fun t=>(fun a:Nat=>Value.int IntKind.u8 (a:Int))<$>Rtype.kind t) #[.pointer (some ⟨23,123,none⟩)]).run Tryz.prog w= .ok (.int .u8 22) w:=by kernel_rfl
theorem as_kind25 (w:World):((ReflectliteType.abiMethod fun t=>(fun a:Nat=>Value.int IntKind.u8 (a:Int))<$>Rtype.kind t) #[.pointer (some ⟨23,121,none⟩)]).run Tryz.prog w= .ok (.int .u8 22) w:=by kernel_rfl
theorem rlm (z:Sem Value) (f:TypeId→Addr→Nat→Nat→Sem Value) (v:Value):
 ReflectliteValue.method z f #[v]=(do match←ReflectliteValue.parts v with|none=>z|some (t,a,fl)=>f t a fl (fl%32)):=rfl
theorem as_parts27 (a:Addr) (w:World):(ReflectliteValue.parts (.agg #[.pointer (some ⟨23,123,none⟩),.pointer (some a),.int .u64 150])).run Tryz.prog w= .ok (some (123,a,150)) w:=by kernel_rfl
theorem as_isNil27 (a p:Addr) (W:World) (ha:W.cell? a=some (.pointer (some p))):
 (ReflectliteValue.method (ReflectliteValue.valueError "reflectlite.Value.IsNil" 0) ReflectliteValue.isNil #[.agg #[.pointer (some ⟨23,123,none⟩),.pointer (some a),.int .u64 150]]).run Tryz.prog W= .ok (.bool false) W:=by
 rw [rlm]
 simp only [Sem.run_bind,as_parts27,Result.andThen]
 simp [ReflectliteValue.isNil,loadVar,isAgg,underlying,Tryz.underlying123,ha,Result.andThen]
theorem zf6 (h:Value) (w:World):(Go.method 508 229 (.agg #[h]) "Elem").run Tryz.prog w= .ok (328,.agg #[h]) w:=by kernel_rfl
theorem zc2 (h:Value) (w:World):(Go.method 508 229 (.agg #[h]) "Implements").run Tryz.prog w= .ok (329,.agg #[h]) w:=by kernel_rfl
theorem zcF (h:Value) (w:World):(Go.method 508 229 (.agg #[h]) "AssignableTo").run Tryz.prog w= .ok (326,.agg #[h]) w:=by kernel_rfl
theorem as_elem27 (w:World):(ReflectliteType.method ReflectliteType.elem #[.agg #[.pointer (some ⟨23,123,none⟩)]]).run Tryz.prog w= .ok (.iface 229 (.agg #[.pointer (some ⟨23,121,none⟩)])) w:=by kernel_rfl
theorem zeu (w:World):(ReflectliteType.relation "Implements" ReflectliteType.implements_ #[.agg #[.pointer (some ⟨23,121,none⟩)],.iface 229 (.agg #[.pointer (some ⟨23,37,none⟩)])]).run Tryz.prog w= .ok (.bool true) w:=by kernel_rfl
theorem as_typeOf25 (v:Value) (w:World):(ReflectliteType.typeOf #[.iface 121 v]).run Tryz.prog w= .ok (.iface 229 (.agg #[.pointer (some ⟨23,121,none⟩)])) w:=by kernel_rfl
theorem as_assignable25 (w:World):(ReflectliteType.relation "AssignableTo" ReflectliteType.assignableTo #[.agg #[.pointer (some ⟨23,121,none⟩)],.iface 229 (.agg #[.pointer (some ⟨23,121,none⟩)])]).run Tryz.prog w= .ok (.bool true) w:=by kernel_rfl
theorem as_valueOf25 (e:Addr) (w:World):(ReflectliteValue.unpack (.iface 121 (.pointer (some e)))).run Tryz.prog w
 = .ok (.agg #[.pointer (some ⟨23,121,none⟩),.pointer (some ⟨w.heap.size,0,none⟩),.int .u64 150]) (w.alloc (.cells #[.pointer (some e)] 121)):=by kernel_rfl
theorem as_elemOf27 (w:World):(Rtype.elem? 123).run Tryz.prog w= .ok (some 121) w:=by kernel_rfl
theorem as_mk25 (p:Addr) (w:World):(ReflectliteValue.mk 121 p ReflectliteValue.flagAddr).run Tryz.prog w= .ok (.agg #[.pointer (some ⟨23,121,none⟩),.pointer (some p),.int .u64 406]) w:=by kernel_rfl
theorem as_elemV27 (a p:Addr) (W:World) (ha:W.cell? a=some (.pointer (some p))):
 (ReflectliteValue.method (ReflectliteValue.valueError "reflectlite.Value.Elem" 0) ReflectliteValue.elem #[.agg #[.pointer (some ⟨23,123,none⟩),.pointer (some a),.int .u64 150]]).run Tryz.prog W
   = .ok (.agg #[.pointer (some ⟨23,121,none⟩),.pointer (some p),.int .u64 406]) W:=by
 rw [rlm]
 simp only [Sem.run_bind,as_parts27,Result.andThen]
 simp [ReflectliteValue.elem,loadVar,isAgg,underlying,Tryz.underlying123,ha,Result.andThen,as_elemOf27,as_mk25]
theorem rls (v x:Value):ReflectliteValue.set #[v,x]=(do
 let (some (dst,a,fl),some (src,b,_)):=(←ReflectliteValue.parts v,←ReflectliteValue.parts x)
  |unsupported (.noEntry "extern/(internal/reflectlite.Value).Set.zeroValue")
 if fl/ReflectliteValue.flagAddr%2==0 then unsupported (.noEntry "extern/(internal/reflectlite.Value).Set.unaddressable")
 let val←loadVar src b
 if←Rtype.directlyAssignable dst src then storeVar dst a val
 else if←Rtype.implements dst src then
  if (←Rtype.kind src)==20 then
   match val with
   | .nilIface=>unsupported (.noEntry "extern/reflectlite: a nil value of one interface type handed on as a value of another")
   |_=>storeVar dst a val
  else storeVar dst a (.iface src val)
 else panicString ("reflectlite.Set: value of type "++(←Rtype.spelt src)++ " is not assignable to type "++(←Rtype.spelt dst))
 pure (.tuple #[])):=rfl
theorem as_parts25a (a:Addr) (w:World):(ReflectliteValue.parts (.agg #[.pointer (some ⟨23,121,none⟩),.pointer (some a),.int .u64 406])).run Tryz.prog w= .ok (some (121,a,406)) w:=by kernel_rfl
theorem as_parts25 (a:Addr) (w:World):(ReflectliteValue.parts (.agg #[.pointer (some ⟨23,121,none⟩),.pointer (some a),.int .u64 150])).run Tryz.prog w= .ok (some (121,a,150)) w:=by kernel_rfl
theorem as_direct25 (w:World):(Rtype.directlyAssignable 121 121).run Tryz.prog w= .ok true w:=by kernel_rfl
theorem as_set25 (ta b e:Addr) (old:Value) (W:World) (hb:W.cell? b=some (.pointer (some e))) (ht:W.cell? ta=some old) (hf:W.frozen? ta=false):
 (ReflectliteValue.set #[.agg #[.pointer (some ⟨23,121,none⟩),.pointer (some ta),.int .u64 406],.agg #[.pointer (some ⟨23,121,none⟩),.pointer (some b),.int .u64 150]]).run Tryz.prog W
   = .ok (.tuple #[]) (W.setCell ta (.pointer (some e))):=by
 rw [rls]
 simp only [Sem.run_bind,as_parts25a,as_parts25,Result.andThen]
 simp [ReflectliteValue.flagAddr,loadVar,isAgg,underlying,Tryz.underlying121,hb,Result.andThen,as_direct25,storeVar,Value.cells,storeCells,Addr.add]
 rw [run_store Tryz.prog W ta _ _ (by rfl)]
 simp [ht,hf]
set_option maxRecDepth 100000 in
theorem as_hit (e t:Addr) (old:Value) (w:World) (hg:w.cell? ⟨9,0,none⟩=some (.iface 229 (.agg #[.pointer (some ⟨23,37,none⟩)]))) (ht0:w.cell? t=some old) (hf0:w.frozen? t=false):
 Calls Tryz.prog 60 #[.iface 121 (.pointer (some e)),.iface 123 (.pointer (some t))] w fun ev w'=>ev= .returned (.bool true)∧w'=((((w.alloc (.cells #[.pointer (some t)] 123)).alloc (.cells #[.pointer (some ⟨23,123,none⟩),.pointer (some ⟨w.heap.size,0,none⟩),.int .u64 150] 174)).alloc (.cells #[.pointer (some ⟨23,123,none⟩),.pointer (some ⟨w.heap.size,0,none⟩),.int .u64 150] 174)).alloc (.cells #[.pointer (some e)] 121)).setCell t (.pointer (some e)):=by
 have h6:= @run_callFunc_extern Tryz.prog 111 _ (fun args=>ReflectliteValue.unpack (args.getD 0 (.tuple #[]))) Tryz.func111 (by kernel_rfl) (by kernel_rfl) (by kernel_rfl) (by kernel_rfl)
 have h7:= @run_callFunc_extern Tryz.prog 112 _ (ReflectliteValue.methodAny (ReflectliteValue.valueError "reflectlite.Value.Type" 0) (fun t _ _ _=>ReflectliteType.toType t)) Tryz.func112 (by kernel_rfl) (by kernel_rfl) (by kernel_rfl) (by kernel_rfl)
 have h8:= @run_callFunc_extern Tryz.prog 113 _ (ReflectliteValue.method (ReflectliteValue.valueError "reflectlite.Value.IsNil" 0) ReflectliteValue.isNil) Tryz.func113 (by kernel_rfl) (by kernel_rfl) (by kernel_rfl) (by kernel_rfl)
 have h27:= @run_callFunc_extern Tryz.prog 315 _ (ReflectliteType.abiMethod fun t=>do pure (.int .u8 (←Rtype.kind t))) Tryz.func315 (by kernel_rfl) (by kernel_rfl) (by kernel_rfl) (by kernel_rfl)
 have h37:= @run_callFunc_extern Tryz.prog 328 _ (ReflectliteType.method ReflectliteType.elem) Tryz.func328 (by kernel_rfl) (by kernel_rfl) (by kernel_rfl) (by kernel_rfl)
 have h38:= @run_callFunc_extern Tryz.prog 329 _ (ReflectliteType.relation "Implements" ReflectliteType.implements_) Tryz.func329 (by kernel_rfl) (by kernel_rfl) (by kernel_rfl) (by kernel_rfl)
 have h10:= @run_callFunc_extern Tryz.prog 115 _ ReflectliteType.typeOf Tryz.func115 (by kernel_rfl) (by kernel_rfl) (by kernel_rfl) (by kernel_rfl)
 have h35:= @run_callFunc_extern Tryz.prog 326 _ (ReflectliteType.relation "AssignableTo" ReflectliteType.assignableTo) Tryz.func326 (by kernel_rfl) (by kernel_rfl) (by kernel_rfl) (by kernel_rfl)
 have h11:= @run_callFunc_extern Tryz.prog 160 _ (ReflectliteValue.method (ReflectliteValue.valueError "reflectlite.Value.Elem" 0) ReflectliteValue.elem) Tryz.func160 (by kernel_rfl) (by kernel_rfl) (by kernel_rfl) (by kernel_rfl)
 have h12:= @run_callFunc_extern Tryz.prog 161 _ ReflectliteValue.set Tryz.func161 (by kernel_rfl) (by kernel_rfl) (by kernel_rfl) (by kernel_rfl)
 have tO:=as_typeOf25
 have mA:=zcF
 have a25:=as_assignable25
 have v25:=as_valueOf25
 have f6:=as_valueOf27
 have f7:=as_type27
 have mK:=zfr
 have mE:=zf6
 have mI:=zc2
 have k27:=as_kind27
 have k25:=as_kind25
 have e27:=as_elem27
 have i25:=zeu
 have n8:=as_isNil27 ⟨w.heap.size,0,none⟩ t ((w.alloc (.cells #[.pointer (some t)] 123)).alloc (.cells #[.pointer (some ⟨23,123,none⟩),.pointer (some ⟨w.heap.size,0,none⟩),.int .u64 150] 174)) (by simp)
 have hlt:9<w.heap.size:=lt_of_cell hg
 have hg2:((w.alloc (.cells #[.pointer (some t)] 123)).alloc (.cells #[.pointer (some ⟨23,123,none⟩),.pointer (some ⟨w.heap.size,0,none⟩),.int .u64 150] 174)).cell? ⟨9,0,none⟩=some (.iface 229 (.agg #[.pointer (some ⟨23,37,none⟩)])):=by
  rw [World.cell?_alloc_lt _ _ ⟨9,0,none⟩ (by simp;omega),World.cell?_alloc_lt _ _ ⟨9,0,none⟩ hlt];exact hg
 have htl:t.block<w.heap.size:=by
  rcases Nat.lt_or_ge t.block w.heap.size with h|h
  ·exact h
  ·simp [World.cell?,Array.getElem?_eq_none h] at ht0
 have el:=as_elemV27 ⟨w.heap.size,0,none⟩ t (((w.alloc (.cells #[.pointer (some t)] 123)).alloc (.cells #[.pointer (some ⟨23,123,none⟩),.pointer (some ⟨w.heap.size,0,none⟩),.int .u64 150] 174)).alloc (.cells #[.pointer (some ⟨23,123,none⟩),.pointer (some ⟨w.heap.size,0,none⟩),.int .u64 150] 174)) (by rw [World.cell?_alloc_lt _ _ ⟨w.heap.size,0,none⟩ (by simp;omega)];simp)
 have st:=as_set25 t ⟨w.heap.size+1+1+1,0,none⟩ e old ((((w.alloc (.cells #[.pointer (some t)] 123)).alloc (.cells #[.pointer (some ⟨23,123,none⟩),.pointer (some ⟨w.heap.size,0,none⟩),.int .u64 150] 174)).alloc (.cells #[.pointer (some ⟨23,123,none⟩),.pointer (some ⟨w.heap.size,0,none⟩),.int .u64 150] 174)).alloc (.cells #[.pointer (some e)] 121))
  (by rw [World.cell?_alloc_at _ _ _ _ (by simp)];rfl)
  (by rw [World.cell?_alloc_lt _ _ t (by simp;omega),World.cell?_alloc_lt _ _ t (by simp;omega),World.cell?_alloc_lt _ _ t (by simp;omega),World.cell?_alloc_lt _ _ t htl];exact ht0)
  (by rw [World.frozen?_alloc_old _ _ t (by simp;omega),World.frozen?_alloc_old _ _ t (by simp;omega),World.frozen?_alloc_old _ _ t (by simp;omega),World.frozen?_alloc_old _ _ t (Nat.ne_of_lt htl)];exact hf0)
 go_enter Tryz.func60,Tryz.ntmps60
 go_wp2
 refine wp_loop_rounds 1 ?_
 rw [rounds_succ]
 go_wp2
 go_ret
 exact ⟨rfl,rfl⟩
theorem as_typeOfS (v:Value) (w:World):(ReflectliteType.typeOf #[.iface 355 v]).run Tryz.prog w= .ok (.iface 229 (.agg #[.pointer (some ⟨23,355,none⟩)])) w:=by kernel_rfl
theorem as_assignableS (w:World):(ReflectliteType.relation "AssignableTo" ReflectliteType.assignableTo #[.agg #[.pointer (some ⟨23,355,none⟩)],.iface 229 (.agg #[.pointer (some ⟨23,121,none⟩)])]).run Tryz.prog w= .ok (.bool false) w:=by kernel_rfl
theorem as_noAs (v:Value) (w:World):(Instr.typeAssert (.iface 355 v) 37 233 true).run Tryz.prog w= .ok (.tuple #[.nilIface,.bool false]) w:=run_typeAssert_lacksB Tryz.underlying233 (by kernel_rfl) (by kernel_rfl) v 37 w
theorem as_noUnwrap (v:Value) (w:World):(Instr.typeAssert (.iface 355 v) 37 236 true).run Tryz.prog w= .ok (.tuple #[.nilIface,.bool false]) w:=run_typeAssert_lacksB Tryz.underlying236 (by kernel_rfl) (by kernel_rfl) v 37 w
theorem as_noUnwraps (v:Value) (w:World):(Instr.typeAssert (.iface 355 v) 37 238 true).run Tryz.prog w= .ok (.tuple #[.nilIface,.bool false]) w:=run_typeAssert_lacksB Tryz.underlying238 (by kernel_rfl) (by kernel_rfl) v 37 w
set_option maxRecDepth 100000 in
theorem as_miss (e t:Addr) (old:Value) (w:World) (hg:w.cell? ⟨9,0,none⟩=some (.iface 229 (.agg #[.pointer (some ⟨23,37,none⟩)]))) (ht0:w.cell? t=some old):
 Calls Tryz.prog 60 #[.iface 355 (.pointer (some e)),.iface 123 (.pointer (some t))] w fun ev w'=>ev= .returned (.bool false)∧w'=(((w.alloc (.cells #[.pointer (some t)] 123)).alloc (.cells #[.pointer (some ⟨23,123,none⟩),.pointer (some ⟨w.heap.size,0,none⟩),.int .u64 150] 174)).alloc (.cells #[.pointer (some ⟨23,123,none⟩),.pointer (some ⟨w.heap.size,0,none⟩),.int .u64 150] 174)):=by
 have h6:= @run_callFunc_extern Tryz.prog 111 _ (fun args=>ReflectliteValue.unpack (args.getD 0 (.tuple #[]))) Tryz.func111 (by kernel_rfl) (by kernel_rfl) (by kernel_rfl) (by kernel_rfl)
 have h7:= @run_callFunc_extern Tryz.prog 112 _ (ReflectliteValue.methodAny (ReflectliteValue.valueError "reflectlite.Value.Type" 0) (fun t _ _ _=>ReflectliteType.toType t)) Tryz.func112 (by kernel_rfl) (by kernel_rfl) (by kernel_rfl) (by kernel_rfl)
 have h8:= @run_callFunc_extern Tryz.prog 113 _ (ReflectliteValue.method (ReflectliteValue.valueError "reflectlite.Value.IsNil" 0) ReflectliteValue.isNil) Tryz.func113 (by kernel_rfl) (by kernel_rfl) (by kernel_rfl) (by kernel_rfl)
 have h27:= @run_callFunc_extern Tryz.prog 315 _ (ReflectliteType.abiMethod fun t=>do pure (.int .u8 (←Rtype.kind t))) Tryz.func315 (by kernel_rfl) (by kernel_rfl) (by kernel_rfl) (by kernel_rfl)
 have h37:= @run_callFunc_extern Tryz.prog 328 _ (ReflectliteType.method ReflectliteType.elem) Tryz.func328 (by kernel_rfl) (by kernel_rfl) (by kernel_rfl) (by kernel_rfl)
 have h38:= @run_callFunc_extern Tryz.prog 329 _ (ReflectliteType.relation "Implements" ReflectliteType.implements_) Tryz.func329 (by kernel_rfl) (by kernel_rfl) (by kernel_rfl) (by kernel_rfl)
 have h10:= @run_callFunc_extern Tryz.prog 115 _ ReflectliteType.typeOf Tryz.func115 (by kernel_rfl) (by kernel_rfl) (by kernel_rfl) (by kernel_rfl)
 have h35:= @run_callFunc_extern Tryz.prog 326 _ (ReflectliteType.relation "AssignableTo" ReflectliteType.assignableTo) Tryz.func326 (by kernel_rfl) (by kernel_rfl) (by kernel_rfl) (by kernel_rfl)
 have h11:= @run_callFunc_extern Tryz.prog 160 _ (ReflectliteValue.method (ReflectliteValue.valueError "reflectlite.Value.Elem" 0) ReflectliteValue.elem) Tryz.func160 (by kernel_rfl) (by kernel_rfl) (by kernel_rfl) (by kernel_rfl)
 have h12:= @run_callFunc_extern Tryz.prog 161 _ ReflectliteValue.set Tryz.func161 (by kernel_rfl) (by kernel_rfl) (by kernel_rfl) (by kernel_rfl)
 have tO:=as_typeOfS
 have mA:=zcF
 have a25:=as_assignableS
 have n1:=fun v W=>as_noAs v W
 have n2:=fun v W=>as_noUnwrap v W
 have n3:=fun v W=>as_noUnwraps v W
 have f6:=as_valueOf27
 have f7:=as_type27
 have mK:=zfr
 have mE:=zf6
 have mI:=zc2
 have k27:=as_kind27
 have k25:=as_kind25
 have e27:=as_elem27
 have i25:=zeu
 have n8:=as_isNil27 ⟨w.heap.size,0,none⟩ t ((w.alloc (.cells #[.pointer (some t)] 123)).alloc (.cells #[.pointer (some ⟨23,123,none⟩),.pointer (some ⟨w.heap.size,0,none⟩),.int .u64 150] 174)) (by simp)
 have hlt:9<w.heap.size:=lt_of_cell hg
 have hg2:((w.alloc (.cells #[.pointer (some t)] 123)).alloc (.cells #[.pointer (some ⟨23,123,none⟩),.pointer (some ⟨w.heap.size,0,none⟩),.int .u64 150] 174)).cell? ⟨9,0,none⟩=some (.iface 229 (.agg #[.pointer (some ⟨23,37,none⟩)])):=by
  rw [World.cell?_alloc_lt _ _ ⟨9,0,none⟩ (by simp;omega),World.cell?_alloc_lt _ _ ⟨9,0,none⟩ hlt];exact hg
 have htl:t.block<w.heap.size:=by
  rcases Nat.lt_or_ge t.block w.heap.size with h|h
  ·exact h
  ·simp [World.cell?,Array.getElem?_eq_none h] at ht0
 have el:=as_elemV27 ⟨w.heap.size,0,none⟩ t (((w.alloc (.cells #[.pointer (some t)] 123)).alloc (.cells #[.pointer (some ⟨23,123,none⟩),.pointer (some ⟨w.heap.size,0,none⟩),.int .u64 150] 174)).alloc (.cells #[.pointer (some ⟨23,123,none⟩),.pointer (some ⟨w.heap.size,0,none⟩),.int .u64 150] 174)) (by rw [World.cell?_alloc_lt _ _ ⟨w.heap.size,0,none⟩ (by simp;omega)];simp)
 go_enter Tryz.func60,Tryz.ntmps60
 go_wp2
 refine wp_loop_rounds 1 ?_
 rw [rounds_succ]
 go_wp2
 go_ret
 exact ⟨rfl,rfl⟩
end Go.Proofs.YthkfhfldoniolaaGreatDoor
namespace Go.Proofs.YthkfhfldoniolaaGreatDoor
open Go.RowKit Go.Extern.Stop Go.Stop Go.Extern
structure ErrsW (ea:Nat→Addr) (w:World):Prop where
 row:∀c,1≤c→c≤9→SentAt w (gv c,ea (gv c))
 ne:∀c d,1≤c→c≤9→1≤d→d≤9→c≠d→ea (gv c)≠ea (gv d)
end Go.Proofs.YthkfhfldoniolaaGreatDoor
namespace Go.Proofs.YthkfhfldoniolaaGreatDoor
open Go.RowKit Go.Extern.Stop Go.Stop Go.Extern
def zbK (w:World):Prop:=w.cell? ⟨9,0,none⟩=some (.iface 229 (.agg #[.pointer (some ⟨23,37,none⟩)]))
theorem zbK.below {w w':World} (h:zbK w) (hb:Below w.heap.size w w'):zbK w':=(hb.cell (p:=⟨9,0,none⟩) (lt_of_cell h)).trans h
theorem as_no (e t:Addr) (old:Value) (w:World) (hg:zbK w) (ht:w.cell? t=some old):
 Calls Tryz.prog 60 #[.iface 355 (.pointer (some e)),.iface 123 (.pointer (some t))] w fun ev w'=>ev= .returned (.bool false)∧Below w.heap.size w w':=
 (as_miss e t old w hg ht).mono fun ev w' h=>⟨h.1,by rw [h.2];exact (((Below.refl _ _).alloc (Nat.le_refl _) _).alloc (by simp) _).alloc (by simp;omega) _⟩
theorem as_yes (e t:Addr) (old:Value) (w:World) (hg:zbK w) (ht:w.cell? t=some old) (hf:w.frozen? t=false):
 Calls Tryz.prog 60 #[.iface 121 (.pointer (some e)),.iface 123 (.pointer (some t))] w fun ev w'=>ev= .returned (.bool true)∧w'.cell? t=some (.pointer (some e))∧Below t.block w w':=
 (as_hit e t old w hg ht hf).mono fun ev w' h=>by
   have htl:t.block<w.heap.size:=by
    rcases Nat.lt_or_ge t.block w.heap.size with h|h
    ·exact h
    ·simp [World.cell?,Array.getElem?_eq_none h] at ht
   refine ⟨h.1, ?_, ?_⟩
   ·rw [h.2]
    refine World.cell?_setCell_same (u:=old) _ _ _ ?_
    rw [World.cell?_alloc_lt _ _ t (by simp;omega),World.cell?_alloc_lt _ _ t (by simp;omega),World.cell?_alloc_lt _ _ t (by simp;omega),World.cell?_alloc_lt _ _ t htl,ht]
   ·rw [h.2]
    exact (((((Below.refl _ _).alloc (Nat.le_of_lt htl) _).alloc (by simp;omega) _).alloc (by simp;omega) _).alloc (by simp;omega) _).setCell (Nat.le_refl _) _
end Go.Proofs.YthkfhfldoniolaaGreatDoor
namespace Go.Proofs.YthkfhfldoniolaaGreatDoor
open Go.RowKit
def zby (ea:Nat→Addr) (l:List ByteArray) (w:World) (e:Ending) (w':World):Prop:=
 match zaf l with
 |none=>e= .returned .nilIface∧Below w.heap.size w w'
 |some f=>zfa ea f w e w'
theorem checkPost_ok {ea:Nat→Addr} {l:List ByteArray} {w w':World} (h:zaf l=none) (hb:Below w.heap.size w w'):zby ea l w (.returned .nilIface) w':=by
 unfold zby;rw [h];exact ⟨rfl,hb⟩
theorem zdR {ea:Nat→Addr} {l:List ByteArray} {w w':World} {f:Flt} {e:Ending} (h:zaf l=some f) (hb:zfa ea f w e w'):zby ea l w e w':=by
 unfold zby;rw [h];exact hb
structure zfo (ea:Nat→Addr) (w:World):Prop where
 c2:w.cell? ⟨gv 2,0,none⟩=some (.iface 355 (.pointer (some (ea (gv 2)))))
 c4:w.cell? ⟨gv 4,0,none⟩=some (.iface 355 (.pointer (some (ea (gv 4)))))
 c6:w.cell? ⟨gv 6,0,none⟩=some (.iface 355 (.pointer (some (ea (gv 6)))))
theorem zfo.below {ea:Nat→Addr} {w w':World} (h:zfo ea w) (hb:Below w.heap.size w w'):zfo ea w':=
 ⟨(hb.cell (p:=⟨gv 2,0,none⟩) (lt_of_cell h.c2)).trans h.c2,(hb.cell (p:=⟨gv 4,0,none⟩) (lt_of_cell h.c4)).trans h.c4,(hb.cell (p:=⟨gv 6,0,none⟩) (lt_of_cell h.c6)).trans h.c6⟩
theorem reads_take {w:World} {B n k:Nat} {A:Option Addr} {xs:List Value} (h:Reads w B 1 A n xs) (hk:k≤n):Reads w B 1 A k (xs.take k):=by
 refine ⟨by rw [List.length_take,h.1];omega,fun h0=> ?_⟩
 obtain ⟨ad,e,hb,hc⟩:=h.2 (by omega)
 refine ⟨ad,e,hb,fun j u hu=>hc j u ?_⟩
 rw [List.getElem?_take] at hu
 split at hu
 ·exact hu
 ·cases hu
theorem strV_take (l:List ByteArray) (k:Nat):zak (l.take k)=(zak l).take k:=by simp [zak,List.map_take]
theorem name_is (s:ByteArray) (hs:s.size≤maxLen) (b:Bool) (h:isName s=b):∀w,Calls Tryz.prog 81 #[.string s] w fun e w'=>e= .returned (.bool b)∧Below w.heap.size w w':=by
 intro w
 have:=name_any s w hs
 rw [h] at this
 exact this
theorem check_long (ea:Nat→Addr) (A:Option Addr) (c:Nat) (l:List ByteArray) (w:World) (hE:zfo ea w) (hl:l.length≤maxLen) (h:12<l.length):
 Calls Tryz.prog 137 #[.slice A l.length c] w (zby ea l w):=by
 unfold maxLen at hl
 have hf:Hid (zaf l=some ⟨2,none⟩):=Lib.hid (by unfold zaf;rw [if_pos h])
 have e1:decide ((l.length:Int)>12)=true:=by simp;omega
 have hc:=hE.c2
 dsimp only [gv] at hc
 go_enter Tryz.func137,Tryz.ntmps137
 go_wp2
 go_ret
 exact zdR hf.out ⟨_,_,rfl,⟨rfl,rfl⟩,Below.refl _ _⟩
theorem check_short (ea:Nat→Addr) (A:Option Addr) (c B:Nat) (l:List ByteArray) (w:World) (hE:zfo ea w) (hr:Reads w B 1 A l.length (zak l)) (hB:B≤w.heap.size) (hlc:l.length≤c) (hs:∀s∈l,s.size≤maxLen) (h:l.length≤12):
 Calls Tryz.prog 137 #[.slice A l.length c] w (zby ea l w):=by
 have hf:Hid (zaf l=zbc l l.length 0):=Lib.hid (by unfold zaf;rw [if_neg (by omega)])
 have e1:decide ((l.length:Int)>12)=false:=by simp;omega
 go_enter Tryz.func137,Tryz.ntmps137
 go_wp2_with fail
 go_loopw [3,4,11] (fun _ _ kv wr=>∃k:Nat,k≤l.length∧kv= .int .i64 (k:Int)∧Hid (zbc l (l.length-k) k=zbc l l.length 0)∧Below w.heap.size w wr) (fun _ _ kv _=>l.length- (intOf kv).toNat)
 case atStart=>exact ⟨0,Nat.zero_le _,rfl,Lib.hid rfl,Below.refl _ _⟩
 case round=>
  obtain ⟨k,hk,rfl,ht,hb⟩:=hrel
  by_cases hlt:k<l.length
  ·have hrr:Reads wr B 1 A l.length (zak l):=hr.keep fun p hp=>hb.cell (by omega)
   obtain ⟨ad,rfl,hc⟩:=zcq hrr hlt
   have hlt2:(k:Int)<l.length:=by omega
   have hkc:(k:Int)≤c:=by omega
   have hsz:=hs l[k] (List.getElem_mem hlt)
   cases hn:isName l[k] with
   |false=>
    have HN:=Lib.hid (name_is _ hsz _ hn)
    have HF:=Lib.hid (faultGo_name hlt hn)
    clear hn hsz
    go_wp2_with (go_at_call 81;refine (HN.out _).mono ?_;rintro e w1 ⟨rfl,hb1⟩;have hc4:=(hE.below (zaa hb hb1)).c4;dsimp only [gv] at hc4)
    go_ret
    exact zdR (hf.out.trans (ht.out.symm.trans HF.out)) ⟨_,_,rfl,⟨rfl,_,rfl,Blk.new _ _ _⟩,(zaa hb hb1).alloc (zaa hb hb1).size _⟩
   |true=>
    have HN:=Lib.hid (name_is _ hsz _ hn)
    have hlen:(l.take k).length=k:=by rw [List.length_take];omega
    have hcon:∀W,Below wr.heap.size wr W→Calls Tryz.prog 154 #[.slice (some ad) k c,.string l[k]] W fun e w'=>e= .returned (.bool (has (l.take k) l[k]))∧W=w':=by
     intro W hW
     have h1:Reads W B 1 (some ad) (l.take k).length (zak (l.take k)):=by
      rw [hlen,strV_take]
      exact reads_take (hrr.keep fun p hp=>hW.cell (by have:=hb.size;omega)) hk
     have:=zef (some ad) c B (l.take k) l[k] W h1 (by rw [hlen];unfold maxLen;omega)
     rw [hlen] at this
     exact this
    cases hh:has (l.take k) l[k] with
    |false=>
     rw [hh] at hcon
     have HC:=Lib.hid hcon
     have HF:=Lib.hid (faultGo_step hlt hn hh)
     clear hcon hlen hn hh hsz
     go_wp2_with (first
      |(go_at_call 81;refine (HN.out _).mono ?_;rintro e w1 ⟨rfl,hb1⟩)
      |(go_at_call 154;refine (HC.out _ hb1).mono ?_;rintro e w2 ⟨rfl,rfl⟩))
     go_roundw
     case rel=>exact ⟨k+1,by omega,by go_num,Lib.hid (HF.out.symm.trans ht.out),zaa hb hb1⟩
     case measure=>simp [intOf];omega
    |true=>
     rw [hh] at hcon
     have HC:=Lib.hid hcon
     have HF:=Lib.hid (zfE hlt hn hh)
     clear hcon hlen hn hh hsz
     go_wp2_with (first
      |(go_at_call 81;refine (HN.out _).mono ?_;rintro e w1 ⟨rfl,hb1⟩;have hc6:=(hE.below (zaa hb hb1)).c6;dsimp only [gv] at hc6)
      |(go_at_call 154;refine (HC.out _ hb1).mono ?_;rintro e w2 ⟨rfl,rfl⟩))
     go_ret
     exact zdR (hf.out.trans (ht.out.symm.trans HF.out)) ⟨_,_,rfl,⟨rfl,_,rfl,Blk.new _ _ _⟩,(zaa hb hb1).alloc (zaa hb hb1).size _⟩
  ·have hge:(l.length:Int)≤k:=by omega
   have HF:=Lib.hid (faultGo_end (l:=l) (k:=k) (by omega))
   go_wp2
   go_ret
   exact checkPost_ok (hf.out.trans (ht.out.symm.trans HF.out)) hb
theorem zdD (ea:Nat→Addr) (A:Option Addr) (c B:Nat) (l:List ByteArray) (w:World) (hE:zfo ea w) (hr:Reads w B 1 A l.length (zak l)) (hB:B≤w.heap.size) (hlc:l.length≤c) (hl:l.length≤maxLen) (hs:∀s∈l,s.size≤maxLen):
 Calls Tryz.prog 137 #[.slice A l.length c] w (zby ea l w):=by
 by_cases h:12<l.length
 ·exact check_long ea A c l w hE hl h
 ·exact check_short ea A c B l w hE hr hB hlc hs (by omega)
end Go.Proofs.YthkfhfldoniolaaGreatDoor
