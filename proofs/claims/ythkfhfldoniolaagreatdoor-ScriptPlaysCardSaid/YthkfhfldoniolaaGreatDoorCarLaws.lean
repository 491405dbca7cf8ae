/-
  The walk of carry's head; what carry reads of the library's variables. The walk of carry's flow: one line. What carry writes and reads, in plain words. The laws of what carry writes and reads: what is written is read; what is read is so written. A set of keys in memory (map[uint64]bool): its laws at the operations. The walk of carry's check. What the listed variables and the world's shape give carry's walks.
-/
import Derived.Test.YthkfhfldoniolaaGreatDoorHexNum
import Derived.Laws.ResultCell
import Derived.Test.YthkfhfldoniolaaGreatDoorFlowPlain
import Derived.Test.YthkfhfldoniolaaGreatDoorLists
import Derived.Test.YthkfhfldoniolaaGreatDoorTexts
import Derived.Test.YthkfhfldoniolaaGreatDoorBaseA
import Derived.Lib.LaidU8
import Derived.Shelf.Vars
import Derived.LaidSub
set_option maxHeartbeats 1000000
namespace Go.Proofs.YthkfhfldoniolaaGreatDoor
open Go.RowKit
structure zdz (w:World):Prop where
 num:NumW w
 tab:w.cell? ⟨17,15,none⟩=some (.int .u8 4)
 mx:∃m,w.cell? ⟨10,0,none⟩=some (.int .i64 m)
 lo:23≤w.heap.size
theorem zdz.below {w w':World} (h:zdz w) (hb:Below w.heap.size w w'):zdz w':=by
 obtain ⟨m,hm⟩:=h.mx
 have hl:=h.lo
 exact ⟨h.num.below hb hl,(hb.cell (show 17<w.heap.size by omega)).trans h.tab,⟨m,(hb.cell (show 10<w.heap.size by omega)).trans hm⟩,Nat.le_trans hl hb.size⟩
theorem zdz.hex {w:World} (h:zdz w):HexW w:=by
 obtain ⟨t1,p1,h1⟩:=h.num.syn
 obtain ⟨t2,p2,h2⟩:=h.num.ran
 have g1:Tryz.prog.globalNamed "strconv.ErrSyntax"=some 14:=by kernel_rfl
 have g2:Tryz.prog.globalNamed "strconv.ErrRange"=some 15:=by kernel_rfl
 exact ⟨h.tab,⟨t1,p1,by simpa using World.var?_cell g1 h1 0⟩,⟨t2,p2,by simpa using World.var?_cell g2 h2 0⟩⟩
def ze7:List UInt8:=[102,108,111,119,115]
def headOf (l:List UInt8):Option (Nat×Nat):=
 match cuts 32 l with
 |[a,b,c]=>if a=ze7 then (match numOf b,numOf c with|some x,some y=>some (x,y)|_,_=>none) else none
 |_=>none
end Go.Proofs.YthkfhfldoniolaaGreatDoor
namespace Go.Proofs.YthkfhfldoniolaaGreatDoor
open Go.RowKit
theorem zaU {P:Program} {fn:Func} {q p:Tmp} {ty:TypeId} (h:fn.results= #[.cell p ty,.tmp q]) (tmps:Array Value) (w:World) (g:Nat) (t:TypeId) (cs:Array Value) (fr:Nat×Nat) (d:TypeDesc)
 (hp:tmps.getD p undef= .pointer (some ⟨g,0,none⟩)) (hg:w.heap[g]? =some (.cells cs t fr))
 (hu:P.underlying ty=some d) (hd:(match d with| .struct _| .array _ _=>true|_=>false)=true) (hi:(P.info? ty).map (·.size)=some cs.size):
 (results fn tmps).run P w= .ok (.tuple #[.agg cs,tmps.getD q undef]) w:=by
 have hp':tmps[p]?.getD undef= .pointer (some ⟨g,0,none⟩):=by simpa using hp
 simp [results,h,hp',asAddr,run_loadVar_row w g t ty cs fr d hg hu hd hi]
def flowOf (l:List UInt8):Option (Nat×List UInt8×Nat):=
 match cuts 32 l with
 |[a,b,c]=>if b=[] then none else (match Hex.keyOf a 16,numOf c with|some k,some n=>some (k,b,n)|_,_=>none)
 |_=>none
end Go.Proofs.YthkfhfldoniolaaGreatDoor
namespace Go.Proofs.YthkfhfldoniolaaGreatDoor
def zau (e:Int) (m:Nat):List UInt8:=ze7++32::(Lib.itoa e++32::Lib.itoa (m:Int))
def zan (x:Fl):List UInt8:=Hex.text x.key 16++32::(x.host.data.toList++32::Lib.itoa x.til)
def wSum:List UInt8:=[115,117,109,32]
def za5 (n:Nat):List UInt8:=wSum++Hex.text n 8
def za4 (e:Int) (L:List Fl):List UInt8:=(zau e L.length::L.map zan).flatMap fun l=>l++[10]
def textOf (e:Int) (L:List Fl):List UInt8:=za4 e L++(za5 (Crc.sum (za4 e L))++[10])
def zfy (seen:List Nat) (x:Fl):Nat:=if isName x.host=false then 4 else if x.til<0∨1099511628776<x.til then 2 else if x.key∈seen then 6 else 0
def ckGo (seen:List Nat) (i:Nat):List Fl→Option Flt
 |[]=>none
 |x::r=>if zfy seen x=0 then ckGo (x.key::seen) (i+1) r else some ⟨zfy seen x,some i⟩
def zbJ (e:Int) (L:List Fl):Option Flt:=if e<0∨1099511627776<e∨200<L.length then some ⟨2,none⟩ else ckGo [] 0 L
def flowsOf:List (List UInt8)→Option (List Fl)
 |[]=>some []
 |t::r=>match flowOf t with
  |none=>none
  |some p=>match flowsOf r with
   |none=>none
   |some L=>some (⟨p.1,⟨p.2.1.toArray⟩,(p.2.2:Int)⟩::L)
def sumOf (l:List UInt8):Option Nat:=if l.take 4=wSum then Hex.keyOf (l.drop 4) 8 else none
inductive Rd where
 |bad (f:Flt)
 |good (e:Nat) (L:List Fl)
def readOf (s:List UInt8):Rd:=
 if 20000<s.length then .bad ⟨2,none⟩ else
 match headOf ((cuts 10 s).headD []) with
 |none=> .bad ⟨1,none⟩
 |some (e,m)=>
  if (cuts 10 s).length=m+3∧(cuts 10 s).getLastD []=[] then
   match flowsOf (((cuts 10 s).drop 1).take m) with
   |none=> .bad ⟨1,none⟩
   |some L=>match sumOf ((cuts 10 s).getD (m+1) []) with
    |none=> .bad ⟨1,none⟩
    |some n=>if n=Crc.sum (s.take (s.length- ((cuts 10 s).getD (m+1) []).length-1)) then
      (match zbJ e L with
      |some f=> .bad f
      |none=> .good e L) else .bad ⟨9,none⟩
  else .bad ⟨1,none⟩
theorem dec_byte:∀(n:Nat) (c:UInt8),c∈Lib.decDigits n→48≤c.toNat∧c.toNat≤57
 |n,c,h=>by
  by_cases hn:n<10
  ·rw [Lib.decDigits,dif_pos hn] at h
   have:=List.mem_singleton.1 h
   subst this
   rw [tenth n hn];omega
  ·rw [Lib.decDigits,dif_neg hn,List.mem_append] at h
   rcases h with h|h
   ·exact dec_byte (n/10) c h
   ·have:=List.mem_singleton.1 h
    subst this
    rw [tenth _ (by omega)];omega
termination_by n=>n
theorem zdL {n:Int} (h0:0≤n) {c:UInt8} (h:c∈Lib.itoa n):48≤c.toNat∧c.toNat≤57:=by
 rw [show n=((n.toNat:Nat):Int) by omega,Lib.itoa_nonneg] at h
 exact dec_byte _ c h
theorem hd_byte:∀m:Fin 16,48≤(Hex.hd m.val).toNat:=by decide
theorem wr_byte:∀(n:Nat) (c:UInt8),c∈Hex.wr n→48≤c.toNat
 |n,c,h=>by
  by_cases hn:n<16
  ·rw [Hex.wr_lo hn] at h
   have:=List.mem_singleton.1 h
   subst this
   exact hd_byte ⟨n,hn⟩
  ·rw [Hex.wr_hi hn,List.mem_append] at h
   rcases h with h|h
   ·exact wr_byte (n/16) c h
   ·have:=List.mem_singleton.1 h
    subst this
    exact hd_byte ⟨n%16,by omega⟩
termination_by n=>n
theorem hex_byte {n d:Nat} {c:UInt8} (h:c∈Hex.text n d):48≤c.toNat:=by
 unfold Hex.text at h
 rw [List.mem_append] at h
 rcases h with h|h
 ·have:=(List.mem_replicate.1 h).2
  subst this
  decide
 ·exact wr_byte n c h
theorem name_byte {s:ByteArray} (h:isName s=true) {c:UInt8} (hc:c∈s.data.toList):45≤c.toNat:=by
 unfold isName at h
 simp only [Bool.and_eq_true] at h
 have h2:=h.2
 rw [Bool.not_eq_true',List.any_eq_false] at h2
 have h3:=h2 c.toNat (by unfold nums;exact List.mem_map_of_mem hc)
 simp [nb] at h3
 omega
theorem dec_len:∀(d n:Nat),n<10^(d+1)→(Lib.decDigits n).length≤d+1
 |0,n,h=>by rw [Lib.decDigits,dif_pos (by omega)];simp
 |d+1,n,h=>by
  by_cases hn:n<10
  ·rw [Lib.decDigits,dif_pos hn];simp
  ·rw [Lib.decDigits,dif_neg hn,List.length_append,List.length_singleton]
   have:=dec_len d (n/10) (by rw [Nat.pow_succ] at h;omega)
   omega
theorem numOf_itoa {n:Int} (h0:0≤n) (h1:n<10000000000000):numOf (Lib.itoa n)=some n.toNat:=by
 rw [show n=((n.toNat:Nat):Int) by omega,Lib.itoa_nonneg]
 have:=dec_len 12 n.toNat (by omega)
 rw [numOf_digits _ (by omega) (by omega)]
 simp only [Int.toNat_natCast]
end Go.Proofs.YthkfhfldoniolaaGreatDoor
namespace Go.Proofs.YthkfhfldoniolaaGreatDoor
def FlOk (x:Fl):Prop:=isName x.host=true∧0≤x.til∧x.til≤1099511628776
theorem ckOne_zero {seen:List Nat} {x:Fl} (h:zfy seen x=0):FlOk x∧x.key∉seen:=by
 unfold zfy at h
 split at h
 ·cases h
 ·split at h
  ·cases h
  ·split at h
   ·cases h
   ·rename_i h1 h2 h3
    exact ⟨⟨by simpa using h1,by omega,by omega⟩,h3⟩
theorem ckGo_none:∀{L:List Fl} {seen:List Nat} {i:Nat},ckGo seen i L=none→∀x∈L,FlOk x
 |[],_,_,_,x,hx=>by cases hx
 |y::r,seen,i,h,x,hx=>by
  unfold ckGo at h
  split at h
  ·rename_i h0
   rcases List.mem_cons.1 hx with rfl|hx
   ·exact (ckOne_zero h0).1
   ·exact ckGo_none h x hx
  ·cases h
structure COk (e:Int) (L:List Fl):Prop where
 e0:0≤e
 e1:e≤1099511627776
 n:L.length≤200
 l:∀x∈L,FlOk x
theorem zdn {e:Int} {L:List Fl} (h:zbJ e L=none):COk e L:=by
 unfold zbJ at h
 split at h
 ·cases h
 ·exact ⟨by omega,by omega,by omega,ckGo_none h⟩
theorem headLine_10 {e:Int} {m:Nat} (h0:0≤e):(10:UInt8)∉zau e m:=by
 unfold zau
 rw [List.mem_append,List.mem_cons,List.mem_append,List.mem_cons]
 rintro (h|h|h|h|h)
 ·revert h;decide
 ·revert h;decide
 ·have:=zdL h0 h;revert this;decide
 ·revert h;decide
 ·have:=zdL (by omega) h;revert this;decide
theorem flowLine_10 {x:Fl} (hx:FlOk x):(10:UInt8)∉zan x:=by
 unfold zan
 rw [List.mem_append,List.mem_cons,List.mem_append,List.mem_cons]
 rintro (h|h|h|h|h)
 ·have:=hex_byte h;revert this;decide
 ·revert h;decide
 ·have:=name_byte hx.1 h;revert this;decide
 ·revert h;decide
 ·have:=zdL hx.2.1 h;revert this;decide
theorem sumLine_10 {n:Nat}:(10:UInt8)∉za5 n:=by
 unfold za5
 rw [List.mem_append]
 rintro (h|h)
 ·revert h;decide
 ·have:=hex_byte h;revert this;decide
theorem not32 {l:List UInt8} {k:Nat} (h:∀b∈l,k≤b.toNat) (hk:32<k):(32:UInt8)∉l:=fun m=>by
 have:=h 32 m
 have e:(32:UInt8).toNat=32:=by decide
 omega
theorem headOf_line {e:Int} {m:Nat} (h0:0≤e) (h1:e≤1099511627776) (hm:m≤1000):headOf (zau e m)=some (e.toNat,m):=by
 have c1:cuts 32 (zau e m)=[ze7,Lib.itoa e,Lib.itoa (m:Int)]:=by
  unfold zau
  rw [zda 32 _ _ (by decide),zda 32 _ _ (not32 (fun b hb=>(zdL h0 hb).1) (by omega)),zfN 32 _ (not32 (fun b hb=>(zdL (by omega) hb).1) (by omega))]
 unfold headOf
 rw [c1]
 simp only [if_true]
 rw [numOf_itoa h0 (by omega),numOf_itoa (by omega) (by omega)]
 simp
theorem flowOf_line {x:Fl} (hx:FlOk x) (hk:x.key<18446744073709551616):flowOf (zan x)=some (x.key,x.host.data.toList,x.til.toNat):=by
 have c1:cuts 32 (zan x)=[Hex.text x.key 16,x.host.data.toList,Lib.itoa x.til]:=by
  unfold zan
  rw [zda 32 _ _ (not32 (fun b hb=>hex_byte hb) (by omega)),zda 32 _ _ (not32 (fun b hb=>name_byte hx.1 hb) (by omega)),zfN 32 _ (not32 (fun b hb=>(zdL hx.2.1 hb).1) (by omega))]
 have hne:x.host.data.toList≠[]:=by
  intro h
  have:=hx.1
  unfold isName nums at this
  rw [h] at this
  simp at this
 have h2:=hx.2.2
 unfold flowOf
 rw [c1]
 simp only
 rw [if_neg hne,Hex.keyOf_text _ _ hk (Hex.zeY 15 _ (by omega)),numOf_itoa hx.2.1 (by omega)]
theorem zf4:∀{L:List Fl},(∀x∈L,FlOk x)→(∀x∈L,x.key<18446744073709551616)→flowsOf (L.map zan)=some L
 |[],_,_=>rfl
 |x::r,h,hk=>by
  have hx:=h x List.mem_cons_self
  rw [List.map_cons,flowsOf,flowOf_line hx (hk x List.mem_cons_self),zf4 (fun y hy=>h y (List.mem_cons_of_mem _ hy)) (fun y hy=>hk y (List.mem_cons_of_mem _ hy))]
  simp only
  congr 2
  obtain ⟨k,ho,t⟩:=x
  have:=hx.2.1
  simp only at this ⊢
  congr 1
  omega
theorem cuts_text {e:Int} {L:List Fl} (h:COk e L) (n:Nat):cuts 10 (za4 e L++(za5 n++[10]))=(zau e L.length::L.map zan)++[za5 n]++[[]]:=by
 have e1:za4 e L++(za5 n++[10])=((zau e L.length::L.map zan)++[za5 n]).flatMap fun l=>l++[10]:=by
  rw [List.flatMap_append]
  simp [za4]
 rw [e1,cuts_lines]
 intro l hl
 rw [List.mem_append,List.mem_cons,List.mem_map,List.mem_singleton] at hl
 rcases hl with (rfl|⟨x,hx,rfl⟩)|rfl
 ·exact headLine_10 h.e0
 ·exact flowLine_10 (h.l x hx)
 ·exact sumLine_10
theorem ze9 {n:Nat} (hn:n<4294967296):(za5 n).length=12:=by
 unfold za5
 rw [List.length_append,Hex.zeS _ _ (Hex.zeY 7 _ (by omega))]
 rfl
theorem name_len {s:ByteArray} (h:isName s=true):s.data.toList.length≤12:=by
 unfold isName at h
 simp only [Bool.and_eq_true,decide_eq_true_eq] at h
 have:=h.1.1.1.2
 simpa [nums] using this
theorem zcA {n:Int} (h0:0≤n) (h1:n<10000000000000):(Lib.itoa n).length≤13:=by
 rw [show n=((n.toNat:Nat):Int) by omega,Lib.itoa_nonneg]
 exact dec_len 12 n.toNat (by omega)
theorem flowLine_len {x:Fl} (hx:FlOk x) (hk:x.key<18446744073709551616):(zan x).length≤44:=by
 have h1:=name_len hx.1
 have h2:=zcA hx.2.1 (by have:=hx.2.2;omega)
 have h3:=Hex.zeS x.key 16 (Hex.zeY 15 _ (by omega))
 unfold zan
 simp only [List.length_append,List.length_cons]
 omega
theorem zfq:∀{L:List Fl},(∀x∈L,FlOk x)→(∀x∈L,x.key<18446744073709551616)→((L.map zan).flatMap fun l=>l++[10]).length≤45*L.length
 |[],_,_=>by simp
 |x::r,h,hk=>by
  have h1:=flowLine_len (h x List.mem_cons_self) (hk x List.mem_cons_self)
  have h2:=zfq (fun y hy=>h y (List.mem_cons_of_mem _ hy)) (fun y hy=>hk y (List.mem_cons_of_mem _ hy))
  rw [List.map_cons,List.flatMap_cons,List.length_append,List.length_append,List.length_singleton,List.length_cons]
  omega
theorem body_len {e:Int} {L:List Fl} (h:COk e L) (hk:∀x∈L,x.key<18446744073709551616):(za4 e L).length≤9100:=by
 have h1:=zfq h.l hk
 have h2:=zcA h.e0 (by have:=h.e1;omega)
 have hn:=h.n
 have h3:=zcA (n:=(L.length:Int)) (by omega) (by omega)
 have h4:(zau e L.length).length≤33:=by
  unfold zau ze7
  simp only [List.length_append,List.length_cons,List.length_nil]
  omega
 unfold za4
 rw [List.flatMap_cons,List.length_append,List.length_append,List.length_singleton]
 omega
theorem getLastD_end (ls:List (List UInt8)) (x:List UInt8):(ls++[x]).getLastD []=x:=by
 rw [List.getLastD_eq_getLast?]
 simp
theorem read_text {e:Int} {L:List Fl} (hc:zbJ e L=none) (hk:∀x∈L,x.key<18446744073709551616):readOf (textOf e L)= .good e.toNat L:=by
 have h:=zdn hc
 have hs:=Crc.sum_lt (za4 e L)
 have hl:=ze9 hs
 have hb:=body_len h hk
 have hn:=h.n
 unfold textOf
 have hC:=cuts_text h (Crc.sum (za4 e L))
 obtain ⟨n,hnq⟩:∃n,n=Crc.sum (za4 e L):=⟨_,rfl⟩
 rw [←hnq] at hs hl hC ⊢
 unfold readOf
 rw [hC]
 have hlen:(za4 e L++(za5 n++[10])).length=(za4 e L).length+13:=by
  rw [List.length_append,List.length_append,hl];rfl
 rw [if_neg (by rw [hlen];omega)]
 simp only [List.cons_append,List.headD_cons]
 rw [headOf_line h.e0 h.e1 (by omega)]
 have g1:(zau e L.length::(L.map zan++[za5 n]++[[]])).getD (L.length+1) []=za5 n:=by
  simp [List.getD]
 have g2:(zau e L.length::(L.map zan++[za5 n]++[[]])).getLastD []=[]:=by
  rw [←List.cons_append]
  exact getLastD_end _ _
 have g3:((zau e L.length::(L.map zan++[za5 n]++[[]])).drop 1).take L.length=L.map zan:=by
  simp
 simp only [g1,g2,g3]
 rw [if_pos ⟨by simp,trivial⟩,zf4 h.l hk]
 have hsum:sumOf (za5 n)=some n:=by
  unfold sumOf za5
  rw [show (wSum++Hex.text n 8).take 4=wSum from List.take_left' rfl,if_pos rfl,show (wSum++Hex.text n 8).drop 4=Hex.text n 8 from List.drop_left' rfl]
  exact Hex.keyOf_text n 8 (by omega) (Hex.zeY 7 _ (by omega))
 simp only [hsum]
 have htk:(za4 e L++(za5 n++[10])).take ((za4 e L++(za5 n++[10])).length- (za5 n).length-1)=za4 e L:=by
  rw [hlen,hl]
  exact List.take_left' (by omega)
 rw [htk]
 have hce:zbJ ((e.toNat:Nat):Int) L=none:=by
  have:((e.toNat:Nat):Int)=e:=by have:=h.e0;omega
  rw [this];exact hc
 rw [hce,if_pos hnq]
end Go.Proofs.YthkfhfldoniolaaGreatDoor
namespace Go.Proofs.YthkfhfldoniolaaGreatDoor
open Go.RowKit Go.Maps Go.WideMaps
theorem u64_wfS {k:Nat} (h:U64 k):(Lit.int .u64 (k:Int)).wf=true:=by
 unfold U64 at h
 have h1:IntKind.u64.min=0:=by decide+kernel
 have h2:IntKind.u64.max=18446744073709551615:=by decide+kernel
 simp only [Lit.wf,h1,h2,Bool.and_eq_true,decide_eq_true_eq]
 omega
theorem zero_boolS (w:World):(zeroValue 4).run Tryz.prog w= .ok (.bool false) w:=by
 have h:Tryz.t4.zero=some (.bool false):=by kernel_rfl
 simp [zeroValue,h]
theorem plainS_inv {v:Value} {b:Bool} {ps:List MemPlace} (h:plainElem (H:=Unit) Tryz.prog 4 v=some (.lit (.bool b),ps)):v= .bool b:=by
 have hu:=Tryz.underlying4
 generalize Tryz.prog=P at h hu
 unfold plainElem at h
 rw [hu] at h
 cases v with
 |bool x=>simp at h;rw [h.1]
 |_=>simp at h
def zei (b n:Nat) (S:List Nat) (w:World):Prop:=∃D:DataW Unit,w.ownsMap Tryz.prog 55 (plainElem Tryz.prog 4) b n D∧∀k,U64 k→D.atKey (.int .u64 (k:Int)) (.lit (.bool false))= .lit (.bool (decide (k∈S)))
theorem zei.made (w:World):zei w.heap.size 0 [] (w.alloc (.map #[] 0)):=⟨_,World.ownsMap_made w _ _ _,fun k _=>by simp [DataW.atKey]⟩
theorem zei.look {b n:Nat} {S:List Nat} {w:World} {k:Nat} (h:zei b n S w) (hk:U64 k):(Instr.lookup 323 (.map (some b)) (.int .u64 (k:Int)) false).run Tryz.prog w= .ok (.bool (decide (k∈S))) w:=by
 obtain ⟨D,ho,hD⟩:=h
 obtain ⟨v,ps,hrun,hv⟩:=ho.lookup (int_keyed Tryz.underlying55) Tryz.underlying323 (zero_boolS w) (plainElem_bool Tryz.underlying4 false) (keyOf_int_mk Tryz.underlying55 (u64_wfS hk))
 rw [hD k hk] at hv
 obtain rfl:=plainS_inv hv
 exact hrun
theorem zei.put {b n:Nat} {S:List Nat} {w:World} {k:Nat} (h:zei b n S w) (hk:U64 k) (hn:n<maxLen):∃w',(Instr.mapUpdate 323 (.map (some b)) (.int .u64 (k:Int)) (.bool true)).run Tryz.prog w= .ok () w'∧zei b (n+1) (k::S) w'∧w.grownBy w' (some b):=by
 obtain ⟨D,ho,hD⟩:=h
 obtain ⟨w',hrun,ho',hg⟩:=ho.update (int_keyed Tryz.underlying55) Tryz.underlying323 hn (keyOf_int_mk Tryz.underlying55 (u64_wfS hk)) (plainElem_bool Tryz.underlying4 true)
 refine ⟨w',hrun,⟨_,ho',fun j hj=> ?_⟩,hg⟩
 by_cases hjk:j=k
 ·subst hjk
  rw [atKey_put_same (k:= .int .u64 (j:Int)) ho.isMap trivial];simp
 ·rw [atKey_put_other (k:= .int .u64 (k:Int)) (k':= .int .u64 (j:Int)) (by intro e;injection e with _ e;omega),hD j hj]
  simp [hjk]
theorem zei.turn {b n:Nat} {S:List Nat} {w w':World} {bs:List Nat} (h:zei b n S w) (ht:zam bs w w') (hb:b∉bs):zei b n S w':=by
 obtain ⟨D,ho,hD⟩:=h
 exact ⟨D,ht.map ho hb,hD⟩
theorem zei.below {b n:Nat} {S:List Nat} {w w':World} (h:zei b n S w) (hb:Below w.heap.size w w'):zei b n S w':=h.turn (zam.of_below (bs:=[]) hb) (by simp)
section
variable {w:World} {ops:Array Oper} {rest:List Oper} {o:Oper} {a:Act} {Q:Exit→Act→World→Prop} {b n:Nat}
theorem wp_keys_look {S:List Nat} (hg:o.guard=none) (m x:Operand) (hop:o.op=Op.lookup 323 m x false) (hm:a.eval m= .map (some b)) (h:zei b n S w) (k:Nat) (hx:a.eval x= .int .u64 (k:Int)) (hk:U64 k)
 (hK:wpList Tryz.prog ops Q rest (a.put o.dst (.bool (decide (k∈S)))) w):wpList Tryz.prog ops Q (o::rest) a w:=by
 refine wpList_plain hg fun K' hK'=> ?_
 have hrun:=h.look hk
 unfold Oper.wp
 simp [execOp,hop,hm,hx,hrun,Result.andThen]
 exact hK' _ _ hK
theorem wp_keys_put {S:List Nat} (hg:o.guard=none) (m x v:Operand) (hop:o.op=Op.mapUpdate 323 m x v) (hm:a.eval m= .map (some b)) (h:zei b n S w) (k:Nat) (hx:a.eval x= .int .u64 (k:Int)) (hv:a.eval v= .bool true) (hk:U64 k) (hn:n<maxLen)
 (hK:∀w',zei b (n+1) (k::S) w'→w.grownBy w' (some b)→wpList Tryz.prog ops Q rest (a.put o.dst undef) w'):wpList Tryz.prog ops Q (o::rest) a w:=by
 refine wpList_plain hg fun K' hK'=> ?_
 obtain ⟨w',hrun,r1,r2⟩:=h.put hk hn
 unfold Oper.wp
 simp [execOp,hop,hm,hx,hv,hrun,Result.andThen]
 exact hK' _ _ (hK w' r1 r2)
end
end Go.Proofs.YthkfhfldoniolaaGreatDoor
namespace Go.Proofs.YthkfhfldoniolaaGreatDoor
open Go.RowKit
structure zcp (ea:Nat→Addr) (w:World):Prop where
 c1:w.cell? ⟨gv 1,0,none⟩=some (.iface 355 (.pointer (some (ea (gv 1)))))
 c2:w.cell? ⟨gv 2,0,none⟩=some (.iface 355 (.pointer (some (ea (gv 2)))))
 c4:w.cell? ⟨gv 4,0,none⟩=some (.iface 355 (.pointer (some (ea (gv 4)))))
 c6:w.cell? ⟨gv 6,0,none⟩=some (.iface 355 (.pointer (some (ea (gv 6)))))
theorem zcp.below {ea:Nat→Addr} {w w':World} (h:zcp ea w) (hb:Below w.heap.size w w'):zcp ea w':=
 ⟨(hb.cell (p:=⟨gv 1,0,none⟩) (lt_of_cell h.c1)).trans h.c1,(hb.cell (p:=⟨gv 2,0,none⟩) (lt_of_cell h.c2)).trans h.c2,(hb.cell (p:=⟨gv 4,0,none⟩) (lt_of_cell h.c4)).trans h.c4,(hb.cell (p:=⟨gv 6,0,none⟩) (lt_of_cell h.c6)).trans h.c6⟩
def CkPost (ea:Nat→Addr) (o:Option Flt) (w:World) (e:Ending) (w':World):Prop:=
 match o with
 |none=>e= .returned .nilIface∧Below w.heap.size w w'
 |some f=>zfa ea f w e w'
theorem ckPost_ok {ea:Nat→Addr} {o:Option Flt} {w w':World} (h:o=none) (hb:Below w.heap.size w w'):CkPost ea o w (.returned .nilIface) w':=by
 subst h;exact ⟨rfl,hb⟩
theorem ckPost_bad {ea:Nat→Addr} {o:Option Flt} {w w':World} {f:Flt} {e:Ending} (h:o=some f) (hb:zfa ea f w e w'):CkPost ea o w e w':=by
 subst h;exact hb
theorem ck_ways {e:Int} {n:Nat} (h:e<0∨1099511627776<e∨200<n):decide (e<0)=true∨(decide (e<0)=false∧decide (e>1099511627776)=true)∨(decide (e<0)=false∧decide (e>1099511627776)=false∧decide ((n:Int)>200)=true):=by
 simp only [decide_eq_true_eq,decide_eq_false_iff_not];omega
theorem ckGo_hit {S:List Nat} {xs:List Fl} {i c:Nat} (h:i<xs.length) (hc:zfy S xs[i]=c) (h0:c≠0):ckGo S i (xs.drop i)=some ⟨c,some i⟩:=by
 rw [List.drop_eq_getElem_cons h,ckGo,hc,if_neg h0]
theorem ckGo_step {S:List Nat} {xs:List Fl} {i:Nat} (h:i<xs.length) (hc:zfy S xs[i]=0):ckGo S i (xs.drop i)=ckGo (xs[i].key::S) (i+1) (xs.drop (i+1)):=by
 rw [List.drop_eq_getElem_cons h,ckGo,if_pos hc]
theorem ckGo_end {S:List Nat} {xs:List Fl}:ckGo S xs.length (xs.drop xs.length)=none:=by
 rw [List.drop_length];rfl
theorem ckOne_ways (S:List Nat) (x:Fl):(isName x.host=false∧zfy S x=4)∨
 (isName x.host=true∧decide (x.til<0)=true∧zfy S x=2)∨
 (isName x.host=true∧decide (x.til<0)=false∧decide (x.til>1099511628776)=true∧zfy S x=2)∨
 (isName x.host=true∧decide (x.til<0)=false∧decide (x.til>1099511628776)=false∧decide (x.key∈S)=true∧zfy S x=6)∨
 (isName x.host=true∧decide (x.til<0)=false∧decide (x.til>1099511628776)=false∧decide (x.key∈S)=false∧zfy S x=0):=by
 unfold zfy
 simp only [decide_eq_true_eq,decide_eq_false_iff_not]
 cases isName x.host with
 |false=>exact .inl ⟨rfl,rfl⟩
 |true=>
  simp only [Bool.true_eq_false,if_false]
  by_cases h1:x.til<0
  ·exact .inr (.inl ⟨trivial,h1,if_pos (.inl h1)⟩)
  ·by_cases h2:x.til>1099511628776
   ·exact .inr (.inr (.inl ⟨trivial,h1,h2,if_pos (.inr h2)⟩))
   ·rw [if_neg (by omega)]
    by_cases h3:x.key∈S
    ·exact .inr (.inr (.inr (.inl ⟨trivial,h1,h2,h3,if_pos h3⟩)))
    ·exact .inr (.inr (.inr (.inr ⟨trivial,h1,h2,h3,if_neg h3⟩)))
theorem check_bound (ea:Nat→Addr) (ep:Int) (A:Option Addr) (n c:Nat) (o:Option Flt) (w:World) (hE:zcp ea w) (ho:o=some ⟨2,none⟩) (h:ep<0∨1099511627776<ep∨200<n):
 Calls Tryz.prog 199 #[.int .i64 ep,.slice A n c] w (CkPost ea o w):=by
 have c2:=hE.c2
 dsimp only [gv] at c2
 rcases ck_ways h with d1|⟨d1,d2⟩|⟨d1,d2,d3⟩
 all_goals
  clear h
  go_enter Tryz.func199,Tryz.ntmps199
  go_wp2
  go_ret
  exact ckPost_bad ho ⟨_,_,rfl,⟨rfl,rfl⟩,Below.refl _ _⟩
set_option maxRecDepth 100000 in
theorem check_list (ea:Nat→Addr) (ep:Int) (A:Option Addr) (c B:Nat) (xs:List Fl) (o:Option Flt) (w:World) (hE:zcp ea w) (hr:Reads w B 3 A xs.length (zbr xs)) (hB:B≤w.heap.size) (hs:∀x∈xs,x.host.size≤maxLen) (hu:∀x∈xs,U64 x.key) (ho:o=ckGo [] 0 xs) (h:¬(ep<0∨1099511627776<ep∨200<xs.length)):
 Calls Tryz.prog 199 #[.int .i64 ep,.slice A xs.length c] w (CkPost ea o w):=by
 have d1:decide (ep<0)=false:=by simp;omega
 have d2:decide (ep>1099511627776)=false:=by simp;omega
 have d3:decide ((xs.length:Int)>200)=false:=by simp;omega
 have hn:xs.length≤200:=by omega
 have HE:=Lib.hid hE
 have HR:=Lib.hid hr
 have HS:=Lib.hid hs
 have HU:=Lib.hid hu
 have HO:=Lib.hid ho
 clear h hE hr hs hu ho
 have hmm:= @run_makeMap Tryz.prog
 go_enter Tryz.func199,Tryz.ntmps199
 go_wp2_with fail
 go_loopw [6,23] (fun _ iv wr=>∃(i:Nat) (S:List Nat),i≤xs.length∧iv= .int .i64 (i:Int)∧Hid (zei w.heap.size i S wr)∧Hid (o=ckGo S i (xs.drop i))∧Hid (Below w.heap.size w wr)) (fun _ iv _=>xs.length+1- (intOf iv).toNat)
 case atStart=>exact ⟨0,[],Nat.zero_le _,rfl,Lib.hid (zei.made w),HO,Lib.hid ((Below.refl _ _).alloc (Nat.le_refl _) _)⟩
 case round=>
  obtain ⟨i,S,hi,rfl,hS,hG,hb⟩:=hrel
  by_cases hil:i<xs.length
  ·have hil2:(i:Int)<xs.length:=by omega
   obtain ⟨ad,rfl,a0,a1,a2⟩:=cellsA (HR.out.keep fun p hp=>hb.out.cell (by omega)) hil
   have hsz:=HS.out _ (List.getElem_mem hil)
   have hU:=HU.out _ (List.getElem_mem hil)
   have HH:=Lib.hid (fun c=>ckGo_hit (S:=S) (c:=c) hil)
   have HT:=Lib.hid (ckGo_step (S:=S) hil)
   have hway:=ckOne_ways S xs[i]
   generalize xs[i]=x at*
   have hB1:=Blk.new wr 72 #[.int .u64 (x.key:Int),.string x.host,.int .i64 x.til]
   have hb1:=(Below.refl wr.heap.size wr).alloc (Nat.le_refl _) (.cells #[.int .u64 (x.key:Int),.string x.host,.int .i64 x.til] 72)
   have HN:=Lib.hid (fun b hb W=>fl_name x.host hsz b hb W)
   obtain ⟨W2,hW2⟩:∃W2,W2=wr.alloc (.cells #[.int .u64 (x.key:Int),.string x.host,.int .i64 x.til] 72):=⟨_,rfl⟩
   rw [←hW2] at hB1 hb1
   have HB1:=Lib.hid hB1
   have HK2:=Lib.hid (hS.out.below hb1)
   have HW2:=Lib.hid (hb.out.trans (hb1.mono hb.out.size))
   have q0:W2.cell? ⟨wr.heap.size,0,none⟩=some (.int .u64 (x.key:Int)):=hB1.cell 0
   have q1:W2.cell? ⟨wr.heap.size,1,none⟩=some (.string x.host):=hB1.cell 1
   have q2:W2.cell? ⟨wr.heap.size,2,none⟩=some (.int .i64 x.til):=hB1.cell 2
   have HF:Hid (∀W (v:Nat),Below W2.heap.size W2 W→o=some ⟨v,some i⟩→CkPost ea o w (.returned (.iface 121 (.pointer (some ⟨W.heap.size,0,none⟩)))) (W.alloc (.cells #[.int .i64 (i:Int),.iface 355 (.pointer (some (ea (gv v))))] 125))):=Lib.hid fun W v hW h=>
    ckPost_bad h ⟨_,_,rfl,⟨rfl,_,rfl,Blk.new _ _ _⟩,(HW2.out.trans (hW.mono HW2.out.size)).alloc (HW2.out.trans (hW.mono HW2.out.size)).size _⟩
   clear hB1 hb1 hS
   rcases hway with ⟨h1,hk⟩|⟨h1,d4,hk⟩|⟨h1,d4,d5,hk⟩|⟨h1,d4,d5,d6,hk⟩|⟨h1,d4,d5,d6,hk⟩
   ·have HX:=Lib.hid (HN.out _ h1)
    have HQ:=Lib.hid (hG.out.trans (HH.out _ hk (by decide)))
    clear h1 hk HN HH HT
    go_wp2_with fail
    rw [←hW2]
    refine (HX.out _).mono ?_
    rintro e w1 ⟨rfl,hb2⟩
    have e4:=(HE.out.below (HW2.out.trans (hb2.mono HW2.out.size))).c4
    dsimp only [gv] at e4
    go_wp2
    go_ret
    exact HF.out _ 4 hb2 HQ.out
   ·have HX:=Lib.hid (HN.out _ h1)
    have HQ:=Lib.hid (hG.out.trans (HH.out _ hk (by decide)))
    clear h1 hk HN HH HT
    go_wp2_with fail
    rw [←hW2]
    refine (HX.out _).mono ?_
    rintro e w1 ⟨rfl,hb2⟩
    have hB2:=HB1.out.below hb2 HB1.out.lt
    have r0:w1.cell? ⟨wr.heap.size,0,none⟩=some (.int .u64 (x.key:Int)):=hB2.cell 0
    have r2:w1.cell? ⟨wr.heap.size,2,none⟩=some (.int .i64 x.til):=hB2.cell 2
    have e2:=(HE.out.below (HW2.out.trans (hb2.mono HW2.out.size))).c2
    dsimp only [gv] at e2
    clear hB2 q0 q1 q2
    go_wp2
    go_ret
    exact HF.out _ 2 hb2 HQ.out
   ·have HX:=Lib.hid (HN.out _ h1)
    have HQ:=Lib.hid (hG.out.trans (HH.out _ hk (by decide)))
    clear h1 hk HN HH HT
    go_wp2_with fail
    rw [←hW2]
    refine (HX.out _).mono ?_
    rintro e w1 ⟨rfl,hb2⟩
    have hB2:=HB1.out.below hb2 HB1.out.lt
    have r0:w1.cell? ⟨wr.heap.size,0,none⟩=some (.int .u64 (x.key:Int)):=hB2.cell 0
    have r2:w1.cell? ⟨wr.heap.size,2,none⟩=some (.int .i64 x.til):=hB2.cell 2
    have e2:=(HE.out.below (HW2.out.trans (hb2.mono HW2.out.size))).c2
    dsimp only [gv] at e2
    clear hB2 q0 q1 q2
    go_wp2
    go_ret
    exact HF.out _ 2 hb2 HQ.out
   ·have HX:=Lib.hid (HN.out _ h1)
    have HQ:=Lib.hid (hG.out.trans (HH.out _ hk (by decide)))
    clear h1 hk HN HH HT
    go_wp2_with fail
    rw [←hW2]
    refine (HX.out _).mono ?_
    rintro e w1 ⟨rfl,hb2⟩
    have hB2:=HB1.out.below hb2 HB1.out.lt
    have r0:w1.cell? ⟨wr.heap.size,0,none⟩=some (.int .u64 (x.key:Int)):=hB2.cell 0
    have r2:w1.cell? ⟨wr.heap.size,2,none⟩=some (.int .i64 x.til):=hB2.cell 2
    have e6:=(HE.out.below (HW2.out.trans (hb2.mono HW2.out.size))).c6
    dsimp only [gv] at e6
    have hK1:=HK2.out.below hb2
    clear hB2 q0 q1 q2
    go_wp2_with (first
     |(at_lookup
       go_must (refine wp_keys_look rfl _ _ rfl rfl hK1 x.key rfl hU ?_)
       rw [d6])
     |fail)
    go_ret
    exact HF.out _ 6 hb2 HQ.out
   ·have HX:=Lib.hid (HN.out _ h1)
    have HQ:=Lib.hid (hG.out.trans (HT.out hk))
    clear h1 hk HN HH HT
    go_wp2_with fail
    rw [←hW2]
    refine (HX.out _).mono ?_
    rintro e w1 ⟨rfl,hb2⟩
    have hB2:=HB1.out.below hb2 HB1.out.lt
    have r0:w1.cell? ⟨wr.heap.size,0,none⟩=some (.int .u64 (x.key:Int)):=hB2.cell 0
    have r2:w1.cell? ⟨wr.heap.size,2,none⟩=some (.int .i64 x.til):=hB2.cell 2
    have hmx:i<maxLen:=by unfold maxLen;omega
    have hK1:=HK2.out.below hb2
    clear hB2 q0 q1 q2
    go_wp2_with (first
     |(at_lookup
       go_must (refine wp_keys_look rfl _ _ rfl rfl hK1 x.key rfl hU ?_)
       rw [d6])
     |(at_mapUpdate
       refine wp_keys_put rfl _ _ _ rfl rfl hK1 x.key rfl rfl hU hmx ?_
       intro w2 hS2 hg2)
     |fail)
    go_roundw
    case rel=>exact ⟨i+1,x.key::S,by omega,by go_num,Lib.hid hS2,HQ,Lib.hid (((HW2.out.trans (hb2.mono HW2.out.size))).grown hg2 (HW2.out.trans (hb2.mono HW2.out.size)).size (fun g e=>by cases e;exact Nat.le_refl _))⟩
    case measure=>simp [intOf];omega
  ·obtain rfl:i=xs.length:=by omega
   have hge:¬(xs.length:Int)<xs.length:=by omega
   have HQ:=Lib.hid (hG.out.trans ckGo_end)
   clear hG hS
   go_wp2
   go_ret
   exact ckPost_ok HQ.out hb.out
theorem carCheck_any (ea:Nat→Addr) (ep:Int) (A:Option Addr) (c B:Nat) (xs:List Fl) (w:World) (hE:zcp ea w) (hr:Reads w B 3 A xs.length (zbr xs)) (hB:B≤w.heap.size) (hs:∀x∈xs,x.host.size≤maxLen) (hu:∀x∈xs,U64 x.key):
 Calls Tryz.prog 199 #[.int .i64 ep,.slice A xs.length c] w (CkPost ea (zbJ ep xs) w):=by
 by_cases h:ep<0∨1099511627776<ep∨200<xs.length
 ·exact check_bound ea ep A _ c _ w hE (by unfold zbJ;rw [if_pos h]) h
 ·exact check_list ea ep A c B xs _ w hE hr hB hs hu (by unfold zbJ;rw [if_neg h]) h
end Go.Proofs.YthkfhfldoniolaaGreatDoor
namespace Go.Proofs.YthkfhfldoniolaaGreatDoor
open Go.RowKit
theorem tab_of_laid {W:World} {l:List (String×DataW Unit)} {name:String} {k:IntKind} {zs:List Int} {g:Nat} {t e:TypeId} {n:Nat} (h:laidMet Tryz.prog l W) (hm:(name,Lib.tabData k zs)∈l)
 (hg:Tryz.prog.globalNamed name=some g) (hty:(Tryz.prog.globals[g]?).map (·.type)=some t) (ht:Tryz.prog.underlying t=some (.array n e)) (he:Tryz.prog.underlying e=some (.int k)) (hce:Tryz.prog.cellsOf e=1) (hct:Tryz.prog.cellsOf t=n):
 Lib.TabIs Tryz.prog W name k zs:=by
 obtain ⟨g',t',cs,fuel,p,hg',ht',hvar,hd⟩:=Lib.laidMet.reads h hm
 obtain rfl:=Option.some.inj (hg.symm.trans hg')
 obtain rfl:=Option.some.inj (hty.symm.trans ht')
 unfold Lib.TabIs
 rw [hvar,←Lib.cells_of_tab ht he hce hct hd]
theorem zfv {W:World} {l:List (String×DataW Unit)} {name:String} {s:String} {d:DataW Unit} (h:laidMet Tryz.prog l W) (hm:(name,.iface s d)∈l) {g:Nat} (hg:Tryz.prog.globalNamed name=some g) (hty:(Tryz.prog.globals[g]?).map (·.type)=some 37):
 ∃te pe,W.var? Tryz.prog name=some #[.iface te pe]:=by
 obtain ⟨g',t',cs,fuel,p,hg',ht',hvar,hd⟩:=Lib.laidMet.reads h hm
 obtain rfl:=Option.some.inj (hg.symm.trans hg')
 obtain rfl:=Option.some.inj (hty.symm.trans ht')
 obtain ⟨f1,u,v,hc,_⟩:=iface_of_trod Tryz.underlying37 hd
 exact ⟨u,v,by rw [hvar];congr 1;exact Array.ext' (by rw [hc])⟩
theorem carW_of {W:World} {l:List (String×DataW Unit)} (h:laidMet Tryz.prog l W) (hsh:W.ShapedOpen Tryz.prog)
 (h1:("math/bits.deBruijn64tab",Rows.laid_math_bits_deBruijn64tab)∈l) (h2:("internal/strconv.uint64pow10",Rows.laid_internal_strconv_uint64pow10)∈l)
 (h3:("strconv.ErrSyntax",Rows.laid_strconv_ErrSyntax)∈l) (h4:("strconv.ErrRange",Rows.laid_strconv_ErrRange)∈l):zdz W:=by
 refine ⟨⟨?_, ?_, ?_⟩, ?_, ?_, ?_⟩
 ·exact tab_of_laid (g:=11) h h2 (by kernel_rfl) (by kernel_rfl) Tryz.underlying321 Tryz.underlying55 (by kernel_rfl) (by kernel_rfl)
 ·exact zfv (g:=14) h h3 (by kernel_rfl) (by kernel_rfl)
 ·exact zfv (g:=15) h h4 (by kernel_rfl) (by kernel_rfl)
 ·have:=tab_of_laid (g:=17) (zs:=[0,1,56,2,57,49,28,3,61,58,42,50,38,29,17,4,62,47,59,36,45,43,51,22,53,39,33,30,24,18,12,5,63,55,48,27,60,41,37,16,46,35,44,21,52,32,23,11,54,26,40,15,34,20,31,10,25,14,19,9,13,8,7,6]) h h1 (by kernel_rfl) (by kernel_rfl) Tryz.underlying366 Tryz.underlying5 (by kernel_rfl) (by kernel_rfl)
  exact this.cell (g:=17) (by kernel_rfl) 15 (by decide)
 ·exact cell_of_shapedOpen_int (zero:= #[.int .i64 0]) (t:=3) hsh (of_decide_eq_true (by kernel_rfl)) (by kernel_rfl) rfl (by kernel_rfl) (by kernel_rfl) Tryz.underlying3
 ·obtain ⟨o,_,ho,_⟩:=hsh.2 23 (of_decide_eq_true (by kernel_rfl)) (of_decide_eq_true (by kernel_rfl))
  have:=(Array.getElem?_eq_some_iff.1 ho).1
  omega
theorem errsK_of {W:World} {ea:Nat→Addr} {gs:List Nat} (h:ErrsAt W ea gs) (h1:gv 1∈gs) (h2:gv 2∈gs) (h4:gv 4∈gs) (h6:gv 6∈gs):zcp ea W:=⟨h.cell h1,h.cell h2,h.cell h4,h.cell h6⟩
end Go.Proofs.YthkfhfldoniolaaGreatDoor
