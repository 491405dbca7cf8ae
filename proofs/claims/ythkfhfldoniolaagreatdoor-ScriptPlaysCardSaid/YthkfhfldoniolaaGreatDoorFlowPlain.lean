/-
  Flows in plain words: a list that rises by key; a datum for a map's block. The cells of a flow in memory. Flows in memory: the map of flows; its laws at the operations. maps.Values at flows, and slices.AppendSeq, slices.Collect over it: a new slice of the flows, in some order. The walks of cmp.Compare at numbers.
-/
import Derived.Test.YthkfhfldoniolaaGreatDoorBaseA
import Derived.Maps.OwnSet
import Derived.Maps.OwnOps
import Derived.Maps.Views
import Derived.Maps.Ext
import Derived.Maps.RangeWalk
import Derived.Test.YthkfhfldoniolaaGreatDoorTexts
import Derived.Laws.ResultCell
import Derived.RangeFuncNested
import Derived.RangeFuncBound
import Derived.RangeFuncCalls
import Derived.RangeFuncLeaves
import Derived.RangeFuncBox
import Derived.RangeFuncSeq
import Derived.Sort.MapsRangeIn
import Derived.Shelf.Abstract
import Derived.Shelf.RegionOpen
import Derived.WalkKit
import Derived.OwnWalkIn
import Derived.TacticsInMore
import Derived.LoopNIn
import Derived.LoopIn
import Derived.RegionIn
import Derived.Maps.AppendAt
set_option maxHeartbeats 4000000
namespace Go.Proofs.YthkfhfldoniolaaGreatDoor
open Go.RowKit Go.Maps Go.WideMaps
structure Fl where
 key:Nat
 host:ByteArray
 til:Int
theorem Fl.ext3 {x y:Fl} (h1:x.key=y.key) (h2:x.host=y.host) (h3:x.til=y.til):x=y:=by cases x;cases y;simp_all
def flV (x:Fl):Value:= .agg #[.int .u64 (x.key:Int),.string x.host,.int .i64 x.til]
def flC (x:Fl):List Value:=[.int .u64 (x.key:Int),.string x.host,.int .i64 x.til]
def zbr:List Fl→List Value
 |[]=>[]
 |x::r=>flC x++zbr r
theorem zbj (l:List Fl):(zbr l).length=l.length*3:=by
 induction l with
 |nil=>rfl
 |cons x r ih=>simp [zbr,flC,ih];omega
theorem zfi (a b:List Fl):zbr (a++b)=zbr a++zbr b:=by
 induction a with
 |nil=>rfl
 |cons x r ih=>simp [zbr,ih]
theorem flsC_get {l:List Fl} {k:Nat} (h:k<l.length):(zbr l)[k*3]? =some (.int .u64 (l[k].key:Int))∧(zbr l)[k*3+1]? =some (.string l[k].host)∧(zbr l)[k*3+2]? =some (.int .i64 l[k].til):=by
 induction l generalizing k with
 |nil=>simp at h
 |cons x r ih=>
  cases k with
  |zero=>exact ⟨rfl,rfl,rfl⟩
  |succ k=>
   have hk:k<r.length:=by simpa using h
   obtain ⟨h1,h2,h3⟩:=ih hk
   have e:∀j,(zbr (x::r))[(k+1)*3+j]? =(zbr r)[k*3+j]? :=fun j=>by
    show (flC x++zbr r)[(k+1)*3+j]? =_
    rw [List.getElem?_append_right (by simp [flC];omega)]
    congr 1
    simp [flC];omega
   exact ⟨(e 0).trans h1,(e 1).trans h2,(e 2).trans h3⟩
theorem flsC_take (l:List Fl) (k:Nat):(zbr l).take (k*3)=zbr (l.take k):=by
 induction l generalizing k with
 |nil=>simp [zbr]
 |cons x r ih=>
  cases k with
  |zero=>simp [zbr]
  |succ k=>
   show (flC x++zbr r).take ((k+1)*3)=flC x++zbr (r.take k)
   rw [List.take_append,List.take_of_length_le (by simp [flC];omega),show (k+1)*3- (flC x).length=k*3 by simp [flC];omega,ih]
theorem flsC_drop (l:List Fl) (k:Nat):(zbr l).drop (k*3)=zbr (l.drop k):=by
 induction l generalizing k with
 |nil=>simp [zbr]
 |cons x r ih=>
  cases k with
  |zero=>simp [zbr]
  |succ k=>
   show (flC x++zbr r).drop ((k+1)*3)=zbr (r.drop k)
   rw [List.drop_append,List.drop_eq_nil_of_le (by simp [flC];omega),show (k+1)*3- (flC x).length=k*3 by simp [flC];omega,ih]
   rfl
theorem zeD (l:List Fl):∀u∈zbr l,u.oneCell'=true:=by
 induction l with
 |nil=>simp [zbr]
 |cons x r ih=>
  intro u hu
  rcases List.mem_append.1 (show u∈flC x++zbr r from hu) with h|h
  ·simp [flC] at h
   rcases h with rfl|rfl|rfl<;>rfl
  ·exact ih u h
def zde (l:List Fl):Prop:=l.Pairwise fun x y=>x.key<y.key
def insF (x:Fl):List Fl→List Fl
 |[]=>[x]
 |y::r=>if x.key<y.key then x::y::r else y::insF x r
def zed (k:Nat) (l:List Fl):List Fl:=l.filter fun y=> !decide (y.key=k)
def findF (l:List Fl) (k:Nat):Option Fl:=l.find? fun y=>decide (y.key=k)
theorem mem_insF {x y:Fl} {l:List Fl}:y∈insF x l↔y=x∨y∈l:=by
 induction l with
 |nil=>simp [insF]
 |cons z r ih=>
  unfold insF
  split
  ·simp
  ·simp [ih];constructor
   ·rintro (h|h|h)<;>simp [h]
   ·rintro (h|h|h)<;>simp [h]
theorem zde.ins {x:Fl} {l:List Fl} (h:zde l) (hx:∀y∈l,y.key≠x.key):zde (insF x l):=by
 induction l with
 |nil=>exact List.pairwise_singleton _ _
 |cons z r ih=>
  obtain ⟨h1,h2⟩:=List.pairwise_cons.1 h
  unfold insF
  split
  ·rename_i hlt
   refine List.pairwise_cons.2 ⟨fun y hy=> ?_,h⟩
   rcases List.mem_cons.1 hy with rfl|hy
   ·exact hlt
   ·have:=h1 y hy;omega
  ·rename_i hlt
   refine List.pairwise_cons.2 ⟨fun y hy=> ?_,ih h2 fun y hy=>hx y (List.mem_cons_of_mem _ hy)⟩
   have hz:=hx z (List.mem_cons_self ..)
   rcases mem_insF.1 hy with rfl|hy
   ·omega
   ·exact h1 y hy
theorem zde.filter {l:List Fl} (h:zde l) (p:Fl→Bool):zde (l.filter p):=List.Pairwise.filter p h
theorem zde.del {l:List Fl} (h:zde l) (k:Nat):zde (zed k l):=h.filter _
theorem delF_key {k:Nat} {l:List Fl} {y:Fl} (h:y∈zed k l):y.key≠k:=by
 have:=(List.mem_filter.1 h).2
 simpa using this
theorem zeL {k:Nat} {l:List Fl} {y:Fl} (h:y∈zed k l):y∈l:=(List.mem_filter.1 h).1
theorem zde.put {x:Fl} {l:List Fl} (h:zde l):zde (insF x (zed x.key l)):=(h.del x.key).ins fun _ hy=>delF_key hy
theorem zfh (x:Fl) (l:List Fl):(insF x l).length=l.length+1:=by
 induction l with
 |nil=>rfl
 |cons z r ih=>unfold insF;split<;>simp [ih]
theorem zde.inj {l:List Fl} (h:zde l) {x y:Fl} (hx:x∈l) (hy:y∈l) (hk:x.key=y.key):x=y:=by
 induction l with
 |nil=>cases hx
 |cons z r ih=>
  obtain ⟨h1,h2⟩:=List.pairwise_cons.1 h
  rcases List.mem_cons.1 hx with e1|hx1<;>rcases List.mem_cons.1 hy with e2|hy1
  ·rw [e1,e2]
  ·have:=h1 y hy1;rw [e1] at hk;omega
  ·have:=h1 x hx1;rw [e2] at hk;omega
  ·exact ih h2 hx1 hy1
theorem zcZ {l:List Fl} {k:Nat} {x:Fl} (h:findF l k=some x):x∈l∧x.key=k:=⟨List.mem_of_find?_eq_some h,by simpa using List.find?_some h⟩
theorem findF_none {l:List Fl} {k:Nat} (h:findF l k=none):∀x∈l,x.key≠k:=fun x hx=>by simpa using List.find?_eq_none.1 h x hx
theorem findF_mem {l:List Fl} (h:zde l) {x:Fl} (hx:x∈l):findF l x.key=some x:=by
 cases hf:findF l x.key with
 |none=>exact absurd rfl (findF_none hf x hx)
 |some y=>rw [h.inj (zcZ hf).1 hx (zcZ hf).2]
theorem zfL {l:List Fl} {k:Nat} (h:∀x∈l,x.key≠k):zed k l=l:=List.filter_eq_self.2 fun x hx=>by simpa using h x hx
theorem delF_length {l:List Fl} (hr:zde l) {x:Fl} (hx:x∈l):(zed x.key l).length+1=l.length:=by
 induction l with
 |nil=>cases hx
 |cons z r ih=>
  obtain ⟨h1,h2⟩:=List.pairwise_cons.1 hr
  rcases List.mem_cons.1 hx with rfl|hx
  ·have:zed x.key (x::r)=r:=by
    unfold zed
    rw [List.filter_cons_of_neg (by simp)]
    exact zfL fun y hy=>by have:=h1 y hy;omega
   rw [this];rfl
  ·have hne:z.key≠x.key:=by have:=h1 x hx;omega
   have:zed x.key (z::r)=z::zed x.key r:=by unfold zed;rw [List.filter_cons_of_pos (by simpa using hne)]
   rw [this,List.length_cons,ih h2 hx,List.length_cons]
theorem zfZ {l:List Fl} (h:zde l):l.Nodup:=h.imp fun hlt e=>by rw [e] at hlt;omega
theorem rise_unique {a b:List Fl} (ha:zde a) (hb:zde b) (hp:a.Perm b):a=b:=
 List.Perm.eq_of_pairwise (le:=fun (x y:Fl)=>x.key<y.key) (fun _ _ _ _ h1 h2=>by omega) ha hb hp
def flD (x:Fl):DataW Unit:= .agg [.lit (.int .u64 (x.key:Int)),.lit (.string x.host.data.toList),.lit (.int .i64 x.til)]
theorem ba_ext2 {a b:ByteArray} (h:a.data.toList=b.data.toList):a=b:=by
 cases a;cases b;simp at h;rw [h]
theorem flD_inj {x y:Fl} (h:flD x=flD y):x=y:=by
 unfold flD at h
 injection h with h
 simp only [List.cons.injEq,and_true] at h
 obtain ⟨h1,h2,h3⟩:=h
 injection h1 with h1;injection h2 with h2;injection h3 with h3
 injection h1 with _ h1;injection h2 with h2;injection h3 with _ h3
 exact Fl.ext3 (by omega) (ba_ext2 h2) h3
def rFl:Value→Option (DataW Unit×List MemPlace)
 | .agg cs=>match cs.toList with
   |[.int .u64 (.ofNat k),.string s,.int .i64 t]=>some (flD ⟨k,s,t⟩,[])
   |_=>none
 |_=>none
theorem rFl_mk (x:Fl):rFl (flV x)=some (flD x,[]):=rfl
theorem rFl_some {v:Value} {z:DataW Unit×List MemPlace} (h:rFl v=some z):∃x,v=flV x∧z=(flD x,[]):=by
 unfold rFl at h
 split at h
 ·rename_i cs
  split at h
  ·rename_i k s t hcs
   refine ⟨⟨k,s,t⟩, ?_,(Option.some.inj h).symm⟩
   unfold flV
   congr 1
   apply Array.toList_inj.1
   rw [hcs];rfl
  ·cases h
 ·cases h
def lk (k:Nat):Lit:= .int .u64 (k:Int)
def flM (l:List Fl):DataW Unit:= .map (l.map fun x=>(lk x.key,flD x))
theorem lk_same (a b:Nat):(lk a).sameKey (lk b)=decide (a=b):=by
 show decide (IntKind.u64=IntKind.u64∧(a:Int)=(b:Int))=_
 exact decide_eq_decide.2 ⟨fun h=>by have:=h.2;omega,fun h=>⟨rfl,by omega⟩⟩
theorem flM_insert (x:Fl) (l:List Fl):DataW.insert (lk x.key,flD x) (l.map fun x=>(lk x.key,flD x))=(insF x l).map fun x=>(lk x.key,flD x):=by
 induction l with
 |nil=>rfl
 |cons y r ih=>
  have e:(lk x.key).before (lk y.key)=decide (x.key<y.key):=by
   show decide ((x.key:Int)<(y.key:Int))=_
   simp
  unfold insF
  rw [List.map_cons]
  show (if (lk x.key).before (lk y.key)=true then _ else _)=_
  rw [e]
  by_cases h:x.key<y.key
  ·simp [h]
  ·simp only [h,decide_false,if_false,Bool.false_eq_true,List.map_cons]
   rw [←ih]
theorem flM_strike (k:Nat) (l:List Fl):(l.map fun x=>(lk x.key,flD x)).filter (fun p=> !p.1.sameKey (lk k))=(zed k l).map fun x=>(lk x.key,flD x):=by
 rw [List.filter_map]
 unfold zed
 congr 1
 refine List.filter_congr fun x _=> ?_
 show (!(lk x.key).sameKey (lk k))=_
 rw [lk_same]
theorem flM_put (x:Fl) (l:List Fl):(flM l).put (lk x.key) (flD x)=flM (insF x (zed x.key l)):=by
 show DataW.map _=_
 rw [flM_strike,flM_insert];rfl
theorem flM_del (k:Nat) (l:List Fl):(flM l).del (lk k)=flM (zed k l):=by
 show DataW.map _=_
 rw [flM_strike];rfl
theorem flM_has (l:List Fl) (k:Nat):Go.Maps.has (flM l) (lk k)=(findF l k).isSome:=by
 unfold flM findF
 rw [has_eq,List.any_map]
 induction l with
 |nil=>rfl
 |cons x r ih=>
  rw [List.any_cons,List.find?_cons,ih]
  show ((lk x.key).sameKey (lk k)||_)=_
  rw [lk_same]
  by_cases h:x.key=k<;>simp [h]
theorem flM_at (l:List Fl) (k:Nat) (z:DataW Unit):(flM l).atKey (lk k) z=match findF l k with|some x=>flD x|none=>z:=by
 unfold flM findF
 dsimp only [DataW.atKey]
 induction l with
 |nil=>rfl
 |cons x r ih=>
  rw [List.map_cons,List.find?_cons,List.find?_cons]
  dsimp only
  rw [lk_same]
  by_cases h:x.key=k
  ·simp [h]
  ·simp only [h,decide_false]
   exact ih
theorem flM_size (l:List Fl):Maps.size (flM l)=l.length:=by
 unfold flM
 rw [size_eq,List.length_map]
theorem flM_filter (p:Fl→Bool) (pd:Lit→DataW Unit→Bool) (hp:∀x,pd (lk x.key) (flD x)=p x) (l:List Fl):(l.map fun x=>(lk x.key,flD x)).filter (fun e=> !pd e.1 e.2)=(l.filter fun x=> !p x).map fun x=>(lk x.key,flD x):=by
 rw [List.filter_map]
 congr 1
 refine List.filter_congr fun x _=> ?_
 show (!pd (lk x.key) (flD x))=_
 rw [hp]
end Go.Proofs.YthkfhfldoniolaaGreatDoor
namespace Go.Proofs.YthkfhfldoniolaaGreatDoor
open Go.RowKit
def flZ:Fl:=⟨0,⟨#[]⟩,0⟩
theorem info_flow:(Tryz.prog.info? 72).map (fun i=>(i.zero,i.size,i.bytes))=some (some (flV flZ),3,32):=by kernel_rfl
structure zdM (w:World) (g i:Nat) (x:Fl):Prop where
 c0:w.cell? ⟨g,i,none⟩=some (.int .u64 (x.key:Int))
 c1:w.cell? ⟨g,i+1,none⟩=some (.string x.host)
 c2:w.cell? ⟨g,i+2,none⟩=some (.int .i64 x.til)
theorem fl_name (s:ByteArray) (hs:s.size≤maxLen) (b:Bool) (hb:isName s=b) (w:World):Calls Tryz.prog 81 #[.string s] w fun e w'=>e= .returned (.bool b)∧Below w.heap.size w w':=by
 subst hb
 exact name_any s w hs
theorem add_zero_ (g j:Nat):(⟨g,0,none⟩:Addr).add j=⟨g,j,none⟩:=by
 by_cases h:j=0
 ·subst h;rfl
 ·simp [Addr.add,h]
theorem cells3_reads {w:World} {g B k:Nat} {L:List Fl} (h:Reads w B 3 (some ⟨g,0,none⟩) L.length (zbr L)) (hk:k<L.length):zdM w g (k*3) L[k]:=by
 obtain ⟨ad,hA,_,hc⟩:=h.2 (by omega)
 cases hA
 obtain ⟨h0,h1,h2⟩:=flsC_get hk
 have e0:=hc _ _ h0
 have e1:=hc _ _ h1
 have e2:=hc _ _ h2
 rw [add_zero_] at e0 e1 e2
 exact ⟨e0,e1,e2⟩
theorem cellsA {w:World} {A:Option Addr} {B k:Nat} {L:List Fl} (h:Reads w B 3 A L.length (zbr L)) (hk:k<L.length):∃ad,A=some ad∧w.cell? (ad.add (k*3))=some (.int .u64 (L[k].key:Int))∧w.cell? ⟨(ad.add (k*3)).block,(ad.add (k*3)).off+1,none⟩=some (.string L[k].host)∧w.cell? ⟨(ad.add (k*3)).block,(ad.add (k*3)).off+2,none⟩=some (.int .i64 L[k].til):=by
 obtain ⟨ad,rfl,_,hc⟩:=h.2 (by omega)
 obtain ⟨h0,h1,h2⟩:=flsC_get hk
 have e:∀i,0<i→ad.add (k*3+i)=⟨(ad.add (k*3)).block,(ad.add (k*3)).off+i,none⟩:=fun i hi=>by
  rw [←add_of_add]
  conv=>lhs;unfold Addr.add
  rw [if_neg (by omega)]
  rfl
 refine ⟨ad,rfl,hc _ _ h0, ?_, ?_⟩
 ·rw [←e 1 (by omega)];exact hc _ _ h1
 ·rw [←e 2 (by omega)];exact hc _ _ h2
end Go.Proofs.YthkfhfldoniolaaGreatDoor
namespace Go.Proofs.YthkfhfldoniolaaGreatDoor
open Go.RowKit Go.Maps
theorem u64_wf2 {k:Nat} (h:U64 k):(Lit.int .u64 (k:Int)).wf=true:=by
 unfold U64 at h
 have h1:IntKind.u64.min=0:=by decide+kernel
 have h2:IntKind.u64.max=18446744073709551615:=by decide+kernel
 simp only [Lit.wf,h1,h2,Bool.and_eq_true,decide_eq_true_eq]
 omega
theorem zero_flow (w:World):(zeroValue 72).run Tryz.prog w= .ok (flV flZ) w:=by
 have h:Tryz.t72.zero=some (flV flZ):=by kernel_rfl
 simp [zeroValue,h]
theorem key64 {k:Nat} (h:U64 k):keyOf Tryz.prog 55 (.int .u64 (k:Int))=some (lk k):=keyOf_int_mk Tryz.underlying55 (u64_wf2 h)
structure zbo (w:World) (b:Nat) (L:List Fl):Prop where
 own:w.ownsMap Tryz.prog 55 rFl b L.length (flM L)
 rise:zde L
 u64:∀x∈L,U64 x.key
theorem zbo.lt {w:World} {b:Nat} {L:List Fl} (h:zbo w b L):b<w.heap.size:=h.own.lt
theorem zd1 {w:World} {b n:Nat} {L:List Fl} (h:w.ownsMap Tryz.prog 55 rFl b n (flM L)):w.ownsMap Tryz.prog 55 rFl b L.length (flM L):=by
 obtain ⟨es,clock,hb,F,hs,hD⟩:=h
 refine ⟨es,clock,hb,F, ?_,hD⟩
 have h1:=flM_size L
 rw [hD] at h1
 simp [Maps.size,length_sorted] at h1
 omega
theorem zbo.made (w:World):zbo (w.alloc (.map #[] 0)) w.heap.size []:=⟨World.ownsMap_made w _ _ _,List.Pairwise.nil,fun _ h=>by cases h⟩
theorem zbo.turn {w w':World} {b:Nat} {L:List Fl} {bs:List Nat} (h:zbo w b L) (ht:zam bs w w') (hb:b∉bs):zbo w' b L:=⟨ht.map h.own hb,h.rise,h.u64⟩
theorem zbo.below {w w':World} {b:Nat} {L:List Fl} (h:zbo w b L) (hb:Below w.heap.size w w'):zbo w' b L:=h.turn (zam.of_below (bs:=[]) hb) (by simp)
theorem zbo.look {w:World} {b k:Nat} {L:List Fl} (h:zbo w b L) (hk:U64 k):
 (Instr.lookup 255 (.map (some b)) (.int .u64 (k:Int)) true).run Tryz.prog w= .ok (.tuple #[flV ((findF L k).getD flZ),.bool (findF L k).isSome]) w:=by
 obtain ⟨v,ps,hrun,hv⟩:=h.own.look_ok (int_keyed Tryz.underlying55) Tryz.underlying255 (zero_flow w) (rFl_mk flZ) (key64 hk)
 obtain ⟨x,rfl,hx⟩:=rFl_some hv
 rw [flM_at] at hx
 rw [flM_has] at hrun
 have e:x=(findF L k).getD flZ:=by
  apply flD_inj
  have hx2:=(congrArg Prod.fst hx).symm
  refine hx2.trans ?_
  dsimp only
  generalize findF L k=o
  cases o<;>rfl
 rw [←e]
 exact hrun
theorem zbo.len {w:World} {b:Nat} {L:List Fl} (h:zbo w b L) (ty:TypeId):(Builtin.len_ #[255] ty #[.map (some b)]).run Tryz.prog w= .ok (.int .i64 (L.length:Int)) w:=by
 have:=h.own.len Tryz.underlying255 ty
 rwa [flM_size] at this
theorem zbo.put {w:World} {b:Nat} {L:List Fl} (h:zbo w b L) (x:Fl) (hk:U64 x.key) (hl:L.length≤1000):
 ∃w',(Instr.mapUpdate 255 (.map (some b)) (.int .u64 (x.key:Int)) (flV x)).run Tryz.prog w= .ok () w'∧zbo w' b (insF x (zed x.key L))∧w.grownBy w' (some b):=by
 obtain ⟨w',hrun,ho,hg⟩:=h.own.update (int_keyed Tryz.underlying55) Tryz.underlying255 (by unfold maxLen;omega) (key64 hk) (rFl_mk x)
 rw [flM_put] at ho
 refine ⟨w',hrun,⟨zd1 ho,h.rise.put,fun y hy=> ?_⟩,hg⟩
 rcases mem_insF.1 hy with rfl|hy
 ·exact hk
 ·exact h.u64 y (zeL hy)
theorem zbo.del {w:World} {b k:Nat} {L:List Fl} (h:zbo w b L) (hk:U64 k) (ty:TypeId):
 ∃w',(Builtin.delete_ #[255,55] ty #[.map (some b),.int .u64 (k:Int)]).run Tryz.prog w= .ok (.tuple #[]) w'∧zbo w' b (zed k L)∧w.grownBy w' (some b):=by
 obtain ⟨w',hrun,ho,hg⟩:=h.own.drop (int_keyed Tryz.underlying55) Tryz.underlying255 (key64 hk) ty
 rw [flM_del] at ho
 exact ⟨w',hrun,⟨zd1 ho,h.rise.del k,fun y hy=>h.u64 y (zeL hy)⟩,hg.grown⟩
section
variable {w:World} {ops:Array Oper} {rest:List Oper} {o:Oper} {a:Act} {Q:Exit→Act→World→Prop} {b:Nat} {L:List Fl}
theorem zeN (hg:o.guard=none) (m x:Operand) (hop:o.op=Op.lookup 255 m x true) (hm:a.eval m= .map (some b)) (h:zbo w b L) (k:Nat) (hx:a.eval x= .int .u64 (k:Int)) (hk:U64 k) (y:Fl) (hy:(findF L k).getD flZ=y) (bs:Bool) (hbs:(findF L k).isSome=bs)
 (hK:wpList Tryz.prog ops Q rest (a.put o.dst (.tuple #[.agg #[.int .u64 (y.key:Int),.string y.host,.int .i64 y.til],.bool bs])) w):wpList Tryz.prog ops Q (o::rest) a w:=by
 refine wpList_plain hg fun K' hK'=> ?_
 have hrun:=h.look hk
 rw [hy,hbs] at hrun
 unfold flV at hrun
 unfold Oper.wp
 simp [execOp,hop,hm,hx,hrun,Result.andThen]
 exact hK' _ _ hK
theorem wp_fl_len (hg:o.guard=none) (m:Operand) (hop:o.op=Op.call { callee:=Callee.builtin Builtin.len,args:= #[m],argTypes:= #[255] }) (hm:a.eval m= .map (some b)) (h:zbo w b L)
 (hK:wpList Tryz.prog ops Q rest (a.put o.dst (.int .i64 (L.length:Int))) w):wpList Tryz.prog ops Q (o::rest) a w:=by
 refine wpList_plain hg fun K' hK'=> ?_
 have hrun:=h.len o.type
 unfold Oper.wp
 simp [execOp,hop,resolve,invoke,builtin,hm,hrun,Result.andThen]
 exact hK' _ _ hK
theorem wp_fl_lenG (hw:Region.wanted o (yielded ops a.tmps)=true) (m:Operand) (hop:o.op=Op.call { callee:=Callee.builtin Builtin.len,args:= #[m],argTypes:= #[255] }) (hm:a.eval m= .map (some b)) (h:zbo w b L)
 (hK:wpList Tryz.prog ops Q rest (a.put o.dst (.int .i64 (L.length:Int))) w):wpList Tryz.prog ops Q (o::rest) a w:=by
 refine wpList_step fun K' hK'=> ?_
 rw [if_pos hw]
 have hrun:=h.len o.type
 unfold Oper.wp
 simp [execOp,hop,resolve,invoke,builtin,hm,hrun,Result.andThen]
 exact hK' _ _ hK
theorem step_fl_del {K:Act→World→Prop} {E:Prop} (hg:o.guard=none) (m x:Operand) (hop:o.op=Op.call { callee:=Callee.builtin Builtin.delete,args:= #[m,x],argTypes:= #[255,55] }) (hm:a.eval m= .map (some b)) (h:zbo w b L) (k:Nat) (hx:a.eval x= .int .u64 (k:Int)) (hk:U64 k)
 (hK:∀w',zbo w' b (zed k L)→w.grownBy w' (some b)→K (a.put o.dst (.tuple #[])) w'):if Region.wanted o (yielded ops a.tmps)=true then Oper.wp Tryz.prog o a w K Q else E:=by
 have hw:Region.wanted o (yielded ops a.tmps)=true:=by simp [Region.wanted,hg]
 rw [if_pos hw]
 obtain ⟨w',hrun,r1,r2⟩:=h.del hk o.type
 unfold Oper.wp
 simp [execOp,hop,resolve,invoke,builtin,hm,hx,hrun,Result.andThen]
 exact hK w' r1 r2
end
end Go.Proofs.YthkfhfldoniolaaGreatDoor
namespace Go.Proofs.YthkfhfldoniolaaGreatDoor
open Go.RowKit Go.Shelf Go.Maps
attribute [local go_sem] Oper.semAt_some
theorem flcells_new (w:World) (x:Fl):∀(j:Nat) (u:Value),(flC x)[j]? =some u→(w.alloc (.cells (flC x).toArray 72)).cell? ((⟨w.heap.size,0,none⟩:Addr).add j)=some u:=by
 intro j u hu
 have hB:=Blk.new w 72 (flC x).toArray
 have e:((⟨w.heap.size,0,none⟩:Addr).add j)=⟨w.heap.size,j,none⟩:=by
  by_cases h0:j=0
  ·subst h0;rfl
  ·simp [Addr.add,h0]
 rw [e,hB.cell j]
 simpa using hu
theorem blk_own {β:Type} (B:Nat) (t:TypeId) (f:β→Array Value):Own (fun s W=>Blk W B t (f s)):=fun s X Y row hs hg hrow=>
 hs.grown hg (fun e'=>by obtain ⟨o,ho,hc⟩:=hrow B e'.symm;rw [show X.heap[B]? =_ from hs] at ho;cases ho;cases hc)
def zf5 (L:List Fl) (left:Lit→Bool) (ss:List Fl):Prop:=ss.Nodup∧∀x,x∈ss↔x∈L∧left (lk x.key)=false
theorem zf5.start {L:List Fl} (hr:zde L):zf5 L (Go.Maps.has (flM L)) []:=⟨List.nodup_nil,fun x=>⟨fun h=>(List.not_mem_nil h).elim,fun ⟨h1,h2⟩=>by
 rw [flM_has,findF_mem hr h1] at h2
 cases h2⟩⟩
theorem fl_came {L:List Fl} {k:Nat} {v:Value} {y:DataW Unit×List MemPlace} (hv:rFl v=some y) (hat:∀zd,(flM L).atKey (lk k) zd=y.1):∃x,x∈L∧x.key=k∧v=flV x:=by
 cases hf:findF L k with
 |none=>
  have h1:=hat .nil
  have h2:=hat (.lit (.bool true))
  rw [flM_at,hf] at h1 h2
  dsimp only at h1 h2
  rw [←h2] at h1
  cases h1
 |some x=>
  have h1:=hat .nil
  rw [flM_at,hf] at h1
  obtain ⟨x',rfl,rfl⟩:=rFl_some hv
  obtain rfl:=flD_inj h1
  exact ⟨x,(zcZ hf).1,(zcZ hf).2,rfl⟩
theorem zf5.step {L:List Fl} {left:Lit→Bool} {ss:List Fl} (h:zf5 L left ss) (hr:zde L) {x:Fl} (hx:x∈L) (hl:left (lk x.key)=true):zf5 L (fun z=>left z&& !z.sameKey (lk x.key)) (ss++[x]):=by
 refine ⟨?_,fun y=> ?_⟩
 ·rw [List.nodup_append]
  refine ⟨h.1,by simp,fun a ha b hb=> ?_⟩
  rw [List.mem_singleton] at hb
  subst hb
  rintro rfl
  have:=((h.2 a).1 ha).2
  rw [hl] at this;cases this
 ·dsimp only
  rw [List.mem_append,List.mem_singleton,h.2,lk_same]
  constructor
  ·rintro (⟨h1,h2⟩|rfl)
   ·exact ⟨h1,by simp [h2]⟩
   ·exact ⟨hx,by simp⟩
  ·rintro ⟨h1,h2⟩
   by_cases hk:y.key=x.key
   ·exact .inr (hr.inj h1 hx hk)
   ·exact .inl ⟨h1,by simpa [hk] using h2⟩
theorem zf5.perm {L:List Fl} {left:Lit→Bool} {ss:List Fl} (h:zf5 L left ss) (hr:zde L) (hl:∀kl,left kl=false):ss.Perm L:=
 (List.perm_ext_iff_of_nodup h.1 (zfZ hr)).2 fun x=>by rw [h.2];simp [hl]
set_option maxRecDepth 100000 in
theorem flvalues1_in (F:Fence) (n:Nat) (h7:F.fn 242) (hro:F.round=none) (hn:1≤n) (l Bm b:Nat) (L:List Fl) (J Jx:List Fl→World→Prop)
 (hY:∀pre x W,J pre W→pre.length<L.length→YieldAt F (n-1) Tryz.prog l #[flV x] W fun e W'=>
   (e= .returned (.bool true)∧J (pre++[x]) W'∧KeepsWalks W W')∨(e= .returned (.bool false)∧Jx (pre++[x]) W'))
 (W:World) (hJ:AbidesFrom W.heap.size J) (hm:W.cell? ⟨Bm,0,none⟩=some (.map (some b))) (hM:zbo W b L) (h0:J [] W):
 CallsIn F n Tryz.prog 242 #[.func (.yield l) #[] #[],.pointer (some ⟨Bm,0,none⟩)] W fun e W'=>(∃v,e= .returned v)∧
  ((∃ys,ys.Perm L∧J ys W')∨(∃pre:List Fl,True∧Jx pre W')):=by
 have hr:=hM.rise
 have K:=int_keyed Tryz.underlying55
 have hown:=hM.own
 have HY:=Lib.hid hY
 have HJ:=Lib.hid hJ
 clear hY hJ
 refine callsIn_of_wp Tryz.func242 rfl h7 ?_ hro
 simp only [Tryz.ntmps242,List.size_toArray,List.length_cons,List.length_nil,Nat.reduceAdd,Nat.reduceSub,Array.replicate_succ,Array.replicate_zero,List.push_toArray,List.append_toArray,List.nil_append,List.cons_append]
 gi_wp2_with (first
  |(gi_at_range;refine wpListIn_range_own _ rfl _ 255 rfl 55 72 K Tryz.underlying255 _ b L.length _ rfl hown ?_;intro w0 hrg0 hg0 hs0)
  |gi_in)
 go_frame
 gi_loopw [4] (fun _ wr=>∃(left:Lit→Bool) (cnt:Nat) (ss:List Fl),wr.ranges Tryz.prog 55 rFl b W.heap.size L.length (flM L) left cnt∧ss.length+cnt≤L.length∧zf5 L left ss∧J ss wr)
  (fun _ wr=>wr.rangeLeft b W.heap.size)
 case atStart=>
  exact ⟨_,_,[],hrg0,by rw [flM_size];simp,zf5.start hr,HJ.out [] W w0 none h0 hg0 (fun r e=>by cases e)⟩
 case round=>
  obtain ⟨left,cnt,ss,hrg,hcs,hC,hJs⟩:=hrel
  gi_wp2_with (first
   |(gi_at_next;refine wpListIn_next_ranges _ rfl _ rfl 55 K rFl id flV (fun key kl _=>⟨key,rfl⟩) (fun v y hv=>by obtain ⟨x,hx,_⟩:=rFl_some hv;exact ⟨x,hx⟩) b W.heap.size L.length _ _ _ rfl hrg ?_ ?_)
   |gi_in)
  ·intro hc0 hl0
   gi_wp2
   go_end0
   exact ⟨⟨_,rfl⟩,.inl ⟨ss,hC.perm hr hl0,hJs⟩⟩
  ·intro key c kl yd yp w2 cnt2 hkey hlk hv hat hrg2 hlt hg2 hs2 hen
   obtain ⟨kz,rfl,rfl,hwf⟩:=Maps.keyOf_int_inv Tryz.underlying55 hkey
   obtain ⟨k,rfl,hU⟩:=u64_of_wf hwf
   obtain ⟨x,hx,rfl,hcx⟩:=fl_came hv hat
   have hxc:c=x:=by
    have h1:=rFl_mk c
    rw [hcx,rFl_mk] at h1
    exact (flD_inj (by injection h1 with h1;injection h1)).symm
   subst hxc
   have hJ2:J ss w2:=HJ.out ss wr w2 (some W.heap.size) hJs hg2 (fun r e=>by cases e;exact ⟨Nat.le_refl _,hrg.iter_walk⟩)
   have hJ3:J ss (w2.alloc (.cells #[.int .u64 (c.key:Int),.string c.host,.int .i64 c.til] 72)):=HJ.out ss w2 _ none hJ2 (World.grownBy_alloc w2 _ none) (fun r e=>by cases e)
   have hrg3:=hrg2.alloc (.cells #[.int .u64 (c.key:Int),.string c.host,.int .i64 c.til] 72)
   obtain ⟨fn,tmps,assign,body,hy,hR⟩:=HY.out ss c _ hJ3 (by omega)
   have hC2:=Lib.hid (hC.step hr hx hlk)
   clear hs2 hC hcx hkey hv hat
   unfold flV at hy hen
   gi_wp2
   refine hR.mono ?_
   rintro e W3 (⟨rfl,hJ4,hk3⟩|⟨rfl,hJx4⟩)
   ·gi_wp2
    have hrg4:=hrg3.of_walks hk3
    go_roundw
    case rel=>exact ⟨_,cnt2,ss++[c],hrg4,by simp;omega,hC2.out,hJ4⟩
    case measure=>rw [hrg4.left_eq,hrg.left_eq];exact hlt
   ·gi_wp2
    refine bodyPost_ret (results_none rfl _ _ _) rfl ?_
    exact ⟨⟨_,rfl⟩,.inr ⟨_,trivial,hJx4⟩⟩
theorem flvalues_any (mb:Option Nat) (w:World):
 Calls Tryz.prog 193 #[.map mb] w fun e w'=>e= .returned (.func (.func 242) #[] #[.pointer (some ⟨w.heap.size,0,none⟩)])∧w.alloc (.cells #[.map mb] 255)=w':=by
 go_enter Tryz.func193,Tryz.ntmps193
 go_wp2
 go_ret
 exact ⟨rfl,rfl⟩
theorem flvalues_stops (F:Fence) (n:Nat) (h7:F.fn 242) (hro:F.round=none) (hn:1≤n) (Bm b:Nat) (L:List Fl) (w:World) (hBm:Bm<w.heap.size)
 (hc:w.cell? ⟨Bm,0,none⟩=some (.map (some b))) (hM:zbo w b L):
 SeqStopsK F n Tryz.prog 242 #[.pointer (some ⟨Bm,0,none⟩)] (fun x:Fl=> #[flV x]) KeepsWalks (fun ys=>ys.Perm L) (fun _=>True) L.length w:=fun l J Jx W hW hJ _ hY h0=>by
 have hc':=(hW.cell (p:=⟨Bm,0,none⟩) hBm).trans hc
 exact flvalues1_in F n h7 hro hn l Bm b L J Jx hY W hJ hc' (hM.below hW) h0
theorem app_walks {W w1:World} {n₀ B:Nat} {e:TypeId} {size k:Nat} {v v':Value} {xs:List Value} {tmp:Obj} (hrow:W.ownsRow n₀ e size v k xs) (hgrow:(W.alloc tmp).grownBy w1 v.ownBlock):KeepsWalks W (w1.setCell ⟨B,0,none⟩ v'):=by
 refine ((KeepsWalks.alloc W tmp).trans (KeepsWalks.of_grownBy hgrow ?_)).trans (KeepsWalks.setCell _ _ _)
 intro j o hj ho
 rcases (hrow.alloc tmp).2 with ⟨rfl,_⟩|⟨g,cap,cur,rfl,_,hgb,_⟩
 ·simp [Value.ownBlock] at hj
 ·obtain rfl:g=j:=by simpa [Value.ownBlock] using hj
  rw [ho] at hgb
  cases hgb
  rfl
set_option maxRecDepth 100000 in
theorem flAppendSeq_in (F:Fence) (n:Nat) (h3:F.fn 265) (h5:F.fn 242) (hro:F.round=none) (hn:3≤n) (Bm b:Nat) (L:List Fl) (hlen:L.length≤1000) (w:World)
 (hBm:Bm<w.heap.size) (hc:w.cell? ⟨Bm,0,none⟩=some (.map (some b))) (hM:zbo w b L):
 CallsIn F n Tryz.prog 265 #[.slice none 0 0,.func (.func 242) #[] #[.pointer (some ⟨Bm,0,none⟩)]] w fun e W'=>∃v ys,e= .returned v∧ys.Perm L∧W'.ownsRow w.heap.size 72 3 v ys.length (zbr ys)∧Below w.heap.size w W':=by
 have h1:1≤n:=by omega
 obtain ⟨i0,hi,hz0,hz1,hz2⟩:=info_parts info_flow
 refine callsIn_of_wp_marks Tryz.func265 rfl h3 ?_ hro
 simp only [Tryz.ntmps265,List.size_toArray,List.length_cons,List.length_nil,Nat.reduceAdd,Nat.reduceSub,Array.replicate_succ,Array.replicate_zero,List.push_toArray,List.append_toArray,List.nil_append,List.cons_append]
 gi_wp2
 have bO:=Boxed.new w 68 (.slice none 0 0)
 have hB0:Below w.heap.size w (w.alloc (.cells #[.slice none 0 0] 68)):=(Below.refl _ w).alloc (Nat.le_refl _) _
 refine wpIn_rangeFunc_ownH hro h1 (gf:=242) (lb:= #[.pointer (some ⟨Bm,0,none⟩)]) rfl h5 (enters_of Tryz.func242 (by kernel_rfl) rfl)
  (flvalues_stops F (n-1) h5 hro (by omega) Bm b L _ (by simp;omega) ((hB0.cell (p:=⟨Bm,0,none⟩) hBm).trans hc) (hM.below hB0)) walksK_t walksK_b (Below.refl _ _) (fun _=>rfl)
  (fun pre W=>(∃v,Boxed W w.heap.size 68 v∧W.ownsRow w.heap.size 72 3 v pre.length (zbr pre)∧True)∧Below w.heap.size w W)
  (fun _ _ _=>False)
  (OwnFrom.and (Own.from (holdsRow_own w.heap.size w.heap.size 68 72 3 (fun pre=>pre.length) (fun pre=>zbr pre) (fun pre v=>True)) _) (ownFrom_below (Nat.le_refl _) (by simp)))
  (fun _ _ _ _ _ hs _ _=>hs)
  ⟨⟨_,bO,World.ownsRow_nil _ _ _ _,trivial⟩,hB0⟩
  (fun x a' W=>∃c,a'={ tmps:= #[.slice none 0 0,.func (.func 242) #[] #[.pointer (some ⟨Bm,0,none⟩)],.pointer (some ⟨w.heap.size,0,none⟩),undef,.slice none 0 0,.pointer (some ⟨c,0,none⟩),.func (.func 242) #[] #[.pointer (some ⟨Bm,0,none⟩)],flV x,undef,undef,undef,undef,undef],defers:=[] }∧Blk W c 72 (flC x).toArray) (fun x a'=> ?axown) ?assign ?body ?done ?stop
 case axown=>
  rintro ⟨⟩ X Y row ⟨c,ha,hb⟩ hg hrow
  exact ⟨c,ha,(blk_own c 72 (fun _:Unit=>(flC x).toArray)) () X Y row hb hg fun r e=>(hrow r e).2⟩
 case assign=>
  rintro l pre x W K ⟨⟨v,hv,hrow,_⟩,hB⟩ hK
  have hK2:=hK _ (W.alloc (.cells (flC x).toArray 72)) (KeepsFrom.of_grownBy (World.grownBy_alloc W _ none) (fun j e=>by cases e)) (KeepsWalks.alloc W _) ⟨⟨v,hv.alloc _,hrow.alloc _,trivial⟩,hB.alloc hB.size _⟩ ⟨_,rfl,Blk.new W _ _⟩
  unfold flV flC at*
  gi_wp2
  exact hK2
 case body=>
  rintro l pre x a' W _ _ ⟨⟨v,hv,hrow,_⟩,hB⟩ ⟨c,rfl,hb⟩ hlt
  have hcv:=hv.cell
  have c0:W.cell? ⟨c,0,none⟩=some (.int .u64 (x.key:Int)):=hb.cell 0
  have c1:W.cell? ⟨c,1,none⟩=some (.string x.host):=hb.cell 1
  have c2:W.cell? ⟨c,2,none⟩=some (.int .i64 x.til):=hb.cell 2
  unfold flV
  gi_wp2_with (gi_at_builtin;refine wpListIn_append_own _ rfl _ _ 68 rfl w.heap.size 72 i0 (flV flZ) 3 32 Tryz.underlying68 hi hz0 hz1 hz2 rfl (by decide) _ _ _ rfl (hrow.alloc _) ⟨W.heap.size,0,none⟩ 1 1 (flC x) rfl rfl (flcells_new W x) (fun u hu=>zeD [x] u (by simpa [zbr] using hu)) (by unfold maxLen;omega) (by omega) (by have:=hB.size;simp;omega) ?_;intro v' w1 hown' hgrow _;obtain ⟨g',cap',rfl⟩:=ownsRow_succ hown';obtain ⟨hv1,hv2,hr2,hk2,hb2⟩:=hv.appended (by decide) hrow hB.size (Nat.le_refl _) hown' hgrow;have hc1:=hv1.cell;have hf1:=hv1.frozen;have hw2:=app_walks (B:=w.heap.size) (v':= .slice (some ⟨g',0,none⟩) (pre.length+1) cap') hrow hgrow)
  exact ⟨hk2.from _,hw2,⟨_,hv2,by simpa [zfi,zbr] using hr2,trivial⟩,hB.trans hb2⟩
 case done=>
  rintro D ys W hD hS ⟨⟨v,hv,hrow,_⟩,hB⟩ hK
  have hc:=hv.cell
  gi_wp2
  refine ⟨by simp,.inl ⟨_,_,rfl,run_takeDeferred hK, ?_⟩⟩
  exact ⟨_,results_tmp rfl _ _ _,v,ys,rfl,hS,ownsRow_putObj hrow _ hK rfl,hB.trans (belowK_b (w:=w) (Nat.le_refl _) W D _ _ (by simp at hD;omega) hK rfl rfl)⟩
 case stop=>
  rintro D c pre W _ _ h _
  exact h.elim
theorem flCollect_any (Bm b:Nat) (L:List Fl) (hlen:L.length≤1000) (w:World) (hBm:Bm<w.heap.size) (hc:w.cell? ⟨Bm,0,none⟩=some (.map (some b))) (hM:zbo w b L):
 Calls Tryz.prog 240 #[.func (.func 242) #[] #[.pointer (some ⟨Bm,0,none⟩)]] w fun e W'=>∃v ys,e= .returned v∧ys.Perm L∧W'.ownsRow w.heap.size 72 3 v ys.length (zbr ys)∧Below w.heap.size w W':=by
 have HA:=Lib.hid ((callsIn_wide (n:=6)).1 (flAppendSeq_in Fence.wide 6 trivial trivial rfl (by omega) Bm b L hlen w hBm hc hM))
 clear hc hM hBm
 go_enter Tryz.func240,Tryz.ntmps240
 go_wp2_with fail
 refine HA.out.mono ?_
 rintro e w1 ⟨v,ys,rfl,hp,ho,hb⟩
 go_wp2
 go_ret
 exact ⟨v,ys,rfl,hp,ho,hb⟩
end Go.Proofs.YthkfhfldoniolaaGreatDoor
namespace Go.Proofs.YthkfhfldoniolaaGreatDoor
open Go.RowKit
def cmpN (a b:Nat):Int:=if a<b then -1 else if b<a then 1 else 0
def IntQ (v:Int) (w:World) (e:Ending) (w':World):Prop:=e= .returned (.int .i64 v)∧w=w'
theorem isNaN_u64 (a:Int) (w:World):Calls Tryz.prog 179 #[.int .u64 a] w fun e w'=>e= .returned (.bool false)∧w=w':=by
 go_enter Tryz.func179,Tryz.ntmps179
 go_wp2
 go_ret
 exact ⟨rfl,rfl⟩
theorem cmp_u64 (a b:Nat) (w:World):Calls Tryz.prog 142 #[.int .u64 (a:Int),.int .u64 (b:Int)] w (IntQ (cmpN a b) w):=by
 unfold IntQ cmpN
 by_cases h1:a<b
 ·have t1:decide (a<b)=true:=by simpa using h1
  rw [if_pos h1]
  clear h1
  go_enter Tryz.func142,Tryz.ntmps142
  go_wp2_with (go_at_call 179;refine (isNaN_u64 _ _).mono ?_;rintro e w1 ⟨rfl,rfl⟩)
  go_ret
  exact ⟨rfl,rfl⟩
 ·have t1:decide (a<b)=false:=by simpa using h1
  rw [if_neg h1]
  by_cases h2:b<a
  ·have t2:decide (b<a)=true:=by simpa using h2
   rw [if_pos h2]
   clear h1 h2
   go_enter Tryz.func142,Tryz.ntmps142
   go_wp2_with (go_at_call 179;refine (isNaN_u64 _ _).mono ?_;rintro e w1 ⟨rfl,rfl⟩)
   go_ret
   exact ⟨rfl,rfl⟩
  ·have t2:decide (b<a)=false:=by simpa using h2
   rw [if_neg h2]
   clear h1 h2
   go_enter Tryz.func142,Tryz.ntmps142
   go_wp2_with (go_at_call 179;refine (isNaN_u64 _ _).mono ?_;rintro e w1 ⟨rfl,rfl⟩)
   go_ret
   exact ⟨rfl,rfl⟩
def cmpI (a b:Int):Int:=if a<b then -1 else if b<a then 1 else 0
theorem isNaN_int (a:Int) (w:World):Calls Tryz.prog 264 #[.int .i64 a] w fun e w'=>e= .returned (.bool false)∧w=w':=by
 go_enter Tryz.func264,Tryz.ntmps264
 go_wp2
 go_ret
 exact ⟨rfl,rfl⟩
theorem cmp_int (a b:Int) (w:World):Calls Tryz.prog 237 #[.int .i64 a,.int .i64 b] w (IntQ (cmpI a b) w):=by
 unfold IntQ cmpI
 by_cases h1:a<b
 ·have t1:decide (a<b)=true:=by simpa using h1
  rw [if_pos h1]
  clear h1
  go_enter Tryz.func237,Tryz.ntmps237
  go_wp2_with (go_at_call 264;refine (isNaN_int _ _).mono ?_;rintro e w1 ⟨rfl,rfl⟩)
  go_ret
  exact ⟨rfl,rfl⟩
 ·have t1:decide (a<b)=false:=by simpa using h1
  rw [if_neg h1]
  by_cases h2:b<a
  ·have t2:decide (b<a)=true:=by simpa using h2
   rw [if_pos h2]
   clear h1 h2
   go_enter Tryz.func237,Tryz.ntmps237
   go_wp2_with (go_at_call 264;refine (isNaN_int _ _).mono ?_;rintro e w1 ⟨rfl,rfl⟩)
   go_ret
   exact ⟨rfl,rfl⟩
  ·have t2:decide (b<a)=false:=by simpa using h2
   rw [if_neg h2]
   clear h1 h2
   go_enter Tryz.func237,Tryz.ntmps237
   go_wp2_with (go_at_call 264;refine (isNaN_int _ _).mono ?_;rintro e w1 ⟨rfl,rfl⟩)
   go_ret
   exact ⟨rfl,rfl⟩
end Go.Proofs.YthkfhfldoniolaaGreatDoor
