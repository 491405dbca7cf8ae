/-
  Scripts in plain words: what a line does to a player. Package script: numbers, and words by a form. Package script: words by a form. Package script: the maps of commands. Package script: read. Package script: a player in memory.
-/
import Derived.Test.YthkfhfldoniolaaGreatDoorBalNow
import Derived.Test.YthkfhfldoniolaaGreatDoorBalCarry
import Derived.Test.YthkfhfldoniolaaGreatDoorRefTables
import Derived.Test.YthkfhfldoniolaaGreatDoorRinged
import Derived.Test.YthkfhfldoniolaaGreatDoorRival
import Derived.Test.YthkfhfldoniolaaGreatDoorJump
import Derived.Lib.Join
import Derived.Lib.Replace
import Derived.Laws.Rows
set_option maxHeartbeats 1000000
namespace Go.Proofs.YthkfhfldoniolaaGreatDoor
open Go.RowKit
def numS (l:List UInt8):Option Nat:=if l.length≤7 then numOf l else none
structure Wd where
 h:List ByteArray
 n:List Nat
def zba:List UInt8→List ByteArray→Wd→Option Wd
 |[],[],w=>some w
 |[],_::_,_=>none
 |_::_,[],_=>none
 |f::fs,x::xs,w=>
  if f=43∧fs=[] then some { w with h:=x::xs }
  else if f=104 then zba fs xs { w with h:=w.h++[x] }
  else match numS x.data.toList with
   |none=>none
   |some n=>zba fs xs { w with n:=w.n++[n] }
def zaY (form:List UInt8) (l:List ByteArray):Option Wd:=match zba form l ⟨[],[]⟩ with
 |some w=>if w.h.all isName=true then some w else none
 |none=>none
def bt (l:List UInt8):ByteArray:=⟨l.toArray⟩
def zav:ByteArray:=bt [104,111,115,116,115]
def zaP:ByteArray:=bt [106,117,109,112]
def cmTable:ByteArray:=bt [116,97,98,108,101]
def zco:ByteArray:=bt [109,111,118,101,115]
def cmRing:ByteArray:=bt [114,105,110,103]
def cmRival:ByteArray:=bt [114,105,118,97,108]
def zfU:ByteArray:=bt [112,105,99,107]
def cmLook:ByteArray:=bt [108,111,111,107]
def zeo:ByteArray:=bt [100,114,97,105,110]
def cmTick:ByteArray:=bt [116,105,99,107]
def cmUp:ByteArray:=bt [117,112]
def zez:ByteArray:=bt [102,108,111,119,115]
def zds:ByteArray:=bt [101,120,112,111,114,116]
inductive Cmd|table|moves|ring|rival|pick|look|drain|tick|up|flows|exprt
deriving DecidableEq
def zfV (w:ByteArray):Option Cmd:=
 if w=cmTable then some .table else if w=zco then some .moves else if w=cmRing then some .ring else if w=cmRival then some .rival
 else if w=zfU then some .pick else if w=cmLook then some .look else if w=zeo then some .drain else if w=cmTick then some .tick
 else if w=cmUp then some .up else if w=zez then some .flows else if w=zds then some .exprt else none
def Cmd.form:Cmd→List UInt8
 | .table=>[110]
 | .moves=>[110,43]
 | .ring=>[110,110]
 | .rival=>[110]
 | .pick=>[110]
 | .look=>[104,110]
 | .drain=>[104,110]
 | .tick=>[110]
 | .up=>[]
 | .flows=>[]
 | .exprt=>[]
def sNothing:ByteArray:=bt [110,111,116,104,105,110,103]
def sOk:ByteArray:=bt [111,107]
def zbA (l:List ByteArray) (by_:List UInt8):ByteArray:=if l=[] then sNothing else bt (Lib.join (l.map fun x=>x.data.toList) by_)
structure PlS where
 b:Option (List ByteArray×BS)
 now:Nat
def cS (hs:List ByteArray):zb7:=⟨hs,31,20,2,2⟩
def zbT (hs:List ByteArray) (v:Int):ByteArray:=hs.getD v.toNat ⟨#[]⟩
def codeOf:Option Flt→Nat
 |some f=>f.code
 |none=>0
def zaz (a b:List ByteArray) (n:Int):Option Flt:=match zah a n with
 |some f=>some f
 |none=>zah b n
def zeb (a b:List ByteArray) (n:Nat):Nat:=movN a b (za2 a n) (za2 b n) n
def zaq (x:Fl):ByteArray:=bt (Lib.decDigits x.key++32::x.host.data.toList)
def zd8 (s:BS):ByteArray:=bt (Lib.replaceAll (Lib.trimSuffix (textOf ((s.epoch:Int)+1) s.fs.2) [10]) [10] [59,32])
noncomputable def zaJ (c:Cmd) (w:Wd) (hs:List ByteArray) (s:BS) (now:Nat):(Nat×ByteArray)×PlS:=
 match c with
 | .table=>match zah hs (w.n.getD 0 0:Nat) with
   |some f=>((f.code,⟨#[]⟩),⟨some (hs,s),now⟩)
   |none=>((0,zbA ((za2 hs (w.n.getD 0 0)).map (zbT hs)) [32]),⟨some (hs,s),now⟩)
 | .moves=>match zaz hs w.h (w.n.getD 0 0:Nat) with
   |some f=>((f.code,⟨#[]⟩),⟨some (hs,s),now⟩)
   |none=>((0,bt (Lib.decDigits (zeb hs w.h (w.n.getD 0 0)))),⟨some (hs,s),now⟩)
 | .ring=>match zaH hs (w.n.getD 0 0:Nat) with
   |some f=>((f.code,⟨#[]⟩),⟨some (hs,s),now⟩)
   |none=>((0,(zcI hs (w.n.getD 0 0) (w.n.getD 1 0)).headD ⟨#[]⟩),⟨some (hs,s),now⟩)
 | .rival=>((0,zbA (zbm (w.n.getD 0 0) hs) [32]),⟨some (hs,s),now⟩)
 | .pick=>(((zbz (cS hs) s (w.n.getD 0 0) now).1.2.2,bt ((zbz (cS hs) s (w.n.getD 0 0) now).1.1.data.toList++if (zbz (cS hs) s (w.n.getD 0 0) now).1.2.1=true then [32,107,101,112,116] else [32,110,101,119])),⟨some (hs,(zbz (cS hs) s (w.n.getD 0 0) now).2),now⟩)
 | .look=>(((zcl (cS hs) s (w.h.getD 0 ⟨#[]⟩) (decide (w.n.getD 0 0=1))).1.2,if (zcl (cS hs) s (w.h.getD 0 ⟨#[]⟩) (decide (w.n.getD 0 0=1))).1.1=true then bt [116,117,114,110,101,100] else bt [115,97,109,101]),⟨some (hs,(zcl (cS hs) s (w.h.getD 0 ⟨#[]⟩) (decide (w.n.getD 0 0=1))).2),now⟩)
 | .drain=>if has hs (w.h.getD 0 ⟨#[]⟩)=true then ((0,sOk),⟨some (hs,{ s with dr:=fun y=>if y=w.h.getD 0 ⟨#[]⟩ then decide (w.n.getD 0 0=1) else s.dr y,nd:=s.nd+1 }),now⟩) else ((5,sOk),⟨some (hs,s),now⟩)
 | .tick=>((0,sOk),⟨some (hs,s),now+w.n.getD 0 0⟩)
 | .up=>((0,zbA (ups s.st) [32]),⟨some (hs,s),now⟩)
 | .flows=>((0,zbA (s.fs.2.map zaq) [44,32]),⟨some (hs,s),now⟩)
 | .exprt=>((0,zd8 s),⟨some (hs,{ s with epoch:=s.epoch+1 }),now⟩)
def zaM (hs:List ByteArray):Option Flt:=if hs=[] then some ⟨5,none⟩ else zaf hs
def zbt (s:PlS) (hs:List ByteArray):(Nat×ByteArray)×PlS:=match zaM hs with
 |some f=>((f.code,sOk),s)
 |none=>((0,sOk),⟨some (hs,newS (cS hs)),0⟩)
def zdv (w:Wd):Nat×ByteArray:=if 1≤w.n.getD 1 0∧w.n.getD 1 0≤1048576 then (0,bt (Lib.decDigits (Jp.B (w.n.getD 0 0) (w.n.getD 1 0)))) else (2,⟨#[]⟩)
def zaI (line:ByteArray):List ByteArray:=(cuts 32 line.data.toList).map bt
noncomputable def zch (s:PlS) (c:ByteArray) (l:List ByteArray):(Nat×ByteArray)×PlS:=
 if c=zav then match zaY [43] l with
  |none=>((1,⟨#[]⟩),s)
  |some w=>zbt s w.h
 else if c=zaP then match zaY [110,110] l with
  |none=>((1,⟨#[]⟩),s)
  |some w=>(zdv w,s)
 else match zfV c with
  |none=>((1,⟨#[]⟩),s)
  |some k=>match zaY k.form l with
   |none=>((1,⟨#[]⟩),s)
   |some w=>if k.form=[104,110]∧1<w.n.getD 0 0 then ((1,⟨#[]⟩),s)
    else match s.b with
     |none=>((5,⟨#[]⟩),s)
     |some hb=>zaJ k w hb.1 hb.2 s.now
noncomputable def zcu (s:PlS) (line:ByteArray):(Nat×ByteArray)×PlS:=zch s ((zaI line).headD ⟨#[]⟩) (zaI line).tail
def errWords:List (List UInt8):=[[116,101,120,116],[98,111,117,110,100],[115,104,97,112,101],[110,97,109,101],[110,111,110,101],[101,120,105,115,116],[102,117,108,108],[111,108,100],[115,117,109]]
def ze8 (c:Nat):ByteArray:=bt ([108,101,118,101,108,104,97,110,100,58,32]++errWords.getD (c-1) [])
def zbX (r:Nat×ByteArray):ByteArray:=if r.1=0 then r.2 else ze8 r.1
noncomputable def scrStep (a:List ByteArray×PlS) (line:ByteArray):List ByteArray×PlS:=(a.1++[zbX (zcu a.2 line).1],(zcu a.2 line).2)
noncomputable def zcH (l:List ByteArray):List ByteArray×PlS:=l.foldl scrStep ([],⟨none,0⟩)
theorem zfR {l:List ByteArray} {i:Nat} (h:i<l.length):zcH (l.take (i+1))=scrStep (zcH (l.take i)) l[i]:=by
 unfold zcH
 rw [List.take_succ_eq_append_getElem h,List.foldl_append]
 rfl
theorem scrS_len (l:List ByteArray):∀i,i≤l.length→(zcH (l.take i)).1.length=i
 |0,_=>by simp [zcH]
 |i+1,h=>by rw [zfR h];simp [scrStep,scrS_len l i (by omega)]
theorem scrS_append (a b:List ByteArray):zcH (a++b)=b.foldl scrStep (zcH a):=by
 unfold zcH
 rw [List.foldl_append]
end Go.Proofs.YthkfhfldoniolaaGreatDoor
namespace Go.Proofs.YthkfhfldoniolaaGreatDoor
open Go.RowKit
theorem dec_lt:∀(d n:Nat),(Lib.decDigits n).length≤d+1→n<10^(d+1)
 |0,n,h=>by
  by_cases h1:n<10
  ·simpa using h1
  ·rw [Lib.decDigits,dif_neg h1,List.length_append] at h
   obtain ⟨c,r,e,_⟩:=zfd (n/10)
   rw [e] at h
   simp at h
 |d+1,n,h=>by
  by_cases h1:n<10
  ·exact Nat.lt_of_lt_of_le h1 (by rw [Nat.pow_succ];have:0<10^(d+1):=Nat.pow_pos (by omega);omega)
  ·rw [Lib.decDigits,dif_neg h1,List.length_append] at h
   have:=dec_lt d (n/10) (by simp at h;omega)
   rw [Nat.pow_succ]
   omega
theorem zdb (n:Nat) (hn:n≤9999999):numS (Lib.decDigits n)=some n:=by
 have hl:(Lib.decDigits n).length≤7:=dec_len 6 n (by omega)
 unfold numS
 rw [if_pos hl]
 exact numOf_digits n (by omega) (by omega)
theorem numS_some {l:List UInt8} {n:Nat} (h:numS l=some n):l=Lib.decDigits n∧n≤9999999:=by
 unfold numS at h
 split at h
 ·rename_i hl
  obtain ⟨e,_⟩:=numOf_some h
  refine ⟨e, ?_⟩
  rw [e] at hl
  have:=dec_lt 6 n hl
  omega
 ·cases h
theorem numberS_any (s:ByteArray) (hmax:s.size≤281474976710656) (w:World) (hw:NumW w) (hG:23≤w.heap.size):
 Calls Tryz.prog 78 #[.string s] w fun e w'=>∃v:Int,e= .returned (.tuple #[.int .i64 v,.bool (numS s.data.toList).isSome])∧Below w.heap.size w w'∧∀n,numS s.data.toList=some n→v=n:=by
 have hl:s.data.toList.length=s.size:=by simp
 go_enter Tryz.func78,Tryz.ntmps78
 go_wp2_with (refine (atoi_any s hmax _ hw).mono ?_)
 rintro e w1 ⟨v,x,rfl,hb1,hx⟩
 have hw1:=Lib.hid (hw.below hb1 hG)
 rcases hx with ⟨n,hr,rfl,rfl⟩|⟨hr,T,p,rfl⟩
 ·by_cases h14:s.size≤7
  ·have h14':(s.size:Int)≤7:=by omega
   by_cases h0:0≤v
   ·have HK:Hid (numS s.data.toList=if Lib.itoa v=s.data.toList then some v.toNat else none):=Lib.hid (by
     have h2:s.size≤14:=by omega
     simp [numS,numOf,hr,hl,h14,h0,h2])
    have HI:=zeH v (by omega) (Lib.atoiAll_bounds hr).2 w1 hw1.out
    clear hr
    go_wp2_with (refine HI.mono ?_;rintro e w2 ⟨rfl,hb2⟩)
    go_ret2
    have hT:(Lib.itoa v==s.toList)=(numS s.data.toList).isSome:=by
     rw [HK.out,ByteArray.toList_eq]
     by_cases h:Lib.itoa v=s.data.toList<;>simp [h]
    refine ⟨v,by rw [←hT];rfl,hb1.trans (hb2.mono hb1.size),fun n h=> ?_⟩
    rw [HK.out] at h
    split at h
    ·have:=Option.some.inj h;omega
    ·cases h
   ·have HK:Hid (numS s.data.toList=none):=Lib.hid (by simp [numS,numOf,hr,h0])
    clear hr
    go_wp2
    go_ret2
    exact ⟨v,by rw [HK.out];rfl,hb1,fun n h=>by rw [HK.out] at h;cases h⟩
  ·have h14':¬(s.size:Int)≤7:=by omega
   have HK:Hid (numS s.data.toList=none):=Lib.hid (by simp [numS,hl,h14])
   clear hr
   go_wp2
   go_ret2
   exact ⟨v,by rw [HK.out];rfl,hb1,fun n h=>by rw [HK.out] at h;cases h⟩
 ·have HK:Hid (numS s.data.toList=none):=Lib.hid (by
   unfold numS
   split
   ·unfold numOf
    split
    ·rename_i n h;exact absurd h (hr n)
    ·rfl
   ·rfl)
  clear hr
  go_wp2
  go_ret2
  exact ⟨v,by rw [HK.out];rfl,hb1,fun n h=>by rw [HK.out] at h;cases h⟩
theorem nameNot_any (s:ByteArray) (w:World) (hs:s.size≤maxLen):Calls Tryz.prog 80 #[.string s] w fun e w'=>e= .returned (.bool (!isName s))∧Below w.heap.size w w':=by
 have HN:=Lib.hid (name_any s w hs)
 unfold NameIs at HN
 generalize isName s=b at*
 go_enter Tryz.func80,Tryz.ntmps80
 go_wp2_with fail
 refine HN.out.mono ?_
 rintro e w1 ⟨rfl,hb⟩
 have HB:=Lib.hid hb
 clear hb HN
 go_wp2
 go_ret
 exact ⟨rfl,HB.out⟩
theorem allN_step {l:List ByteArray} {k:Nat} (hk:k<l.length) (h:(l.take k).all isName=true) (hf:isName l[k]=true):(l.take (k+1)).all isName=true:=by
 rw [List.take_succ_eq_append_getElem hk,List.all_append,h];simp [hf]
theorem allN_hit {l:List ByteArray} {k:Nat} (hk:k<l.length) (hf:isName l[k]=false):l.all isName=false:=List.all_eq_false.2 ⟨_,List.getElem_mem hk,by rw [hf];simp⟩
theorem indexName_any (A:Option Addr) (c:Nat) (l:List ByteArray) (w:World) (hr:Reads w w.heap.size 1 A l.length (zak l)) (hl:l.length≤maxLen) (hs:∀s∈l,s.size≤maxLen):
 Calls Tryz.prog 129 #[.slice A l.length c,.func (.func 80) #[] #[]] w fun e w'=>(∃i:Int,e= .returned (.int .i64 i)∧(decide (0≤i)= !(l.all isName)))∧Below w.heap.size w w':=by
 unfold maxLen at hl
 have HRd:=Lib.hid (fun W (hb:Below w.heap.size w W) i (hi:i<l.length)=>(show∃ad,A=some ad∧W.cell? (ad.add i)=some (.string l[i]) from by
  obtain ⟨ad,u,hA,_,hu,hc⟩:=((hr.below hb).more hb.size).at_ hi
  refine ⟨ad,hA, ?_⟩
  rw [hc,←hu]
  simp [hi,zak]))
 have HS:=Lib.hid hs
 clear hr hs
 go_enter Tryz.func129,Tryz.ntmps129
 go_wp2_with fail
 go_loopw [5,8] (fun _ iv wr=>∃k:Nat,k≤l.length∧iv= .int .i64 (k:Int)∧Hid ((l.take k).all isName=true)∧Hid (Below w.heap.size w wr)) (fun _ iv _=>l.length- (intOf iv).toNat)
 case atStart=>exact ⟨0,Nat.zero_le _,rfl,Lib.hid (by simp),Lib.hid (Below.refl _ _)⟩
 case round=>
  obtain ⟨k,hk,rfl,ht,hB⟩:=hrel
  by_cases hlt:k<l.length
  ·obtain ⟨ad,rfl,hc⟩:=HRd.out wr hB.out k hlt
   have hlt2:(k:Int)<l.length:=by omega
   have HO:=Lib.hid (nameNot_any l[k] wr (HS.out _ (List.getElem_mem hlt)))
   cases hnb:isName l[k] with
   |true=>
    have Hnb:=Lib.hid hnb
    rw [hnb] at HO
    have hst:=Lib.hid (allN_step hlt ht.out hnb)
    clear hnb ht
    go_wp2_with (go_at_call 80;refine HO.out.mono ?_;rintro e w1 ⟨rfl,hb1⟩)
    go_roundw
    case rel=>exact ⟨k+1,by omega,by go_num,hst,Lib.hid (zaa hB.out hb1)⟩
    case measure=>simp [intOf];omega
   |false=>
    have hal:=Lib.hid (allN_hit hlt hnb)
    rw [hnb] at HO
    clear hnb ht
    go_wp2_with (go_at_call 80;refine HO.out.mono ?_;rintro e w1 ⟨rfl,hb1⟩)
    go_ret
    exact ⟨⟨_,rfl,by rw [hal.out];simp⟩,zaa hB.out hb1⟩
  ·have hge:(l.length:Int)≤k:=by omega
   have hal:Hid (l.all isName=true):=Lib.hid (by
    have h:=ht.out
    rwa [List.take_of_length_le (by omega)] at h)
   clear ht
   go_wp2
   go_ret
   exact ⟨⟨_,rfl,by rw [hal.out];rfl⟩,hB.out⟩
theorem containsName_any (A:Option Addr) (c:Nat) (l:List ByteArray) (w:World) (hr:Reads w w.heap.size 1 A l.length (zak l)) (hl:l.length≤maxLen) (hs:∀s∈l,s.size≤maxLen):
 Calls Tryz.prog 79 #[.slice A l.length c,.func (.func 80) #[] #[]] w fun e w'=>e= .returned (.bool (!(l.all isName)))∧Below w.heap.size w w':=by
 have H:=Lib.hid (indexName_any A c l w hr hl hs)
 clear hr hl hs
 go_enter Tryz.func79,Tryz.ntmps79
 go_wp2_with fail
 refine H.out.mono ?_
 rintro e w1 ⟨⟨i,rfl,hi⟩,hb⟩
 have HI:=Lib.hid hi
 have HB:=Lib.hid hb
 clear hi hb H
 go_wp2
 go_ret
 exact ⟨zeI (by rw [←HI.out]),HB.out⟩
end Go.Proofs.YthkfhfldoniolaaGreatDoor
namespace Go.Proofs.YthkfhfldoniolaaGreatDoor
open Go.RowKit
def natsV (l:List Nat):List Value:=l.map fun n:Nat=>Value.int .i64 (n:Int)
theorem info_intF:(Tryz.prog.info? 3).map (fun i=>(i.zero,i.size,i.bytes))=some (some (.int .i64 0),1,8):=by kernel_rfl
theorem zc6:(Tryz.prog.info? 9).map (fun i=>(i.zero,i.size,i.bytes))=some (some (.string ⟨#[]⟩),1,16):=by kernel_rfl
structure zcJ (w:World) (v:Value) (x:Wd):Prop where
 is:∃A c A2 c2,v= .agg #[.slice A x.h.length c,.slice A2 x.n.length c2]∧Reads w w.heap.size 1 A x.h.length (zak x.h)∧Reads w w.heap.size 1 A2 x.n.length (natsV x.n)∧x.h.length≤c∧(∀ad,A=some ad→0<x.h.length→∃cs,Blk w ad.block 9 cs)∧(∀ad,A2=some ad→0<x.n.length→∃cs,Blk w ad.block 3 cs)
def zaW (r:Option Wd) (W:World) (e:Ending) (w':World):Prop:=
 ∃A n c A2 n2 c2,e= .returned (.tuple #[.agg #[.slice A n c,.slice A2 n2 c2],.bool r.isSome])∧Below W.heap.size W w'∧∀x,r=some x→n=x.h.length∧n2=x.n.length∧zcJ w' (.agg #[.slice A n c,.slice A2 n2 c2]) x
structure RdW (W wr:World) (hs:List ByteArray) (ns:List Nat) (hv nv:Value):Prop where
 blk:Blk wr W.heap.size 110 #[hv,nv]
 h:wr.ownsRow (W.heap.size+1) 9 1 hv hs.length (zak hs)
 n:wr.ownsRow (W.heap.size+1) 3 1 nv ns.length (natsV ns)
 b:Below W.heap.size W wr
 z:W.heap.size+1≤wr.heap.size
section
variable {W wr w4 w5:World} {hs:List ByteArray} {ns:List Nat} {hv nv v':Value} {x:ByteArray} {n:Nat}
theorem RdW.new (W:World):RdW W (W.alloc (.cells #[.slice none 0 0,.slice none 0 0] 110)) [] [] (.slice none 0 0) (.slice none 0 0):=
 ⟨Blk.new _ _ _,World.ownsRow_nil _ _ _ _,World.ownsRow_nil _ _ _ _,(Below.refl _ _).alloc (Nat.le_refl _) _,by simp⟩
theorem RdW.below (h:RdW W wr hs ns hv nv) (hb:Below wr.heap.size wr w4):RdW W w4 hs ns hv nv:=
 ⟨h.blk.below hb h.blk.lt,own_below h.h hb,own_below h.n hb,zaa h.b hb,Nat.le_trans h.z hb.size⟩
theorem zbE {w:World} {B n size:Nat} {e:TypeId} {v:Value} {xs:List Value} (h:w.ownsRow B e size v n xs) {g:Nat} (hg:v.ownBlock=some g):∃cs,Blk w g e cs:=by
 rcases h.2 with ⟨rfl,_⟩|⟨g',cap,cur,rfl,_,hh,_⟩
 ·simp [Value.ownBlock] at hg
 ·have:g'=g:=by simpa [Value.ownBlock] using hg
  subst this
  exact ⟨cur,hh⟩
theorem row_blk {w:World} {B n cap:Nat} {A:Option Addr} {e:TypeId} {xs:List Value} (h:w.ownsRow B e 1 (.slice A n cap) n xs) {ad:Addr} (hA:A=some ad) (h0:0<n):∃cs,Blk w ad.block e cs:=by
 obtain ⟨g,c,hv,_,_⟩:=h.form h0
 subst hA
 injection hv with h1 _ _
 obtain rfl:=Option.some.inj h1
 exact zbE (g:=g) h rfl
theorem RdW.addH (h:RdW W wr hs ns hv nv) (ho:w4.ownsRow (W.heap.size+1) 9 1 v' (hs.length+1) (zak hs++[.string x])) (hg:(wr.alloc (.cells #[.string x] 9)).grownBy w4 hv.ownBlock):
 RdW W (w4.setCell ⟨W.heap.size,0,none⟩ v') (hs++[x]) ns v' nv∧w4.cell? ⟨W.heap.size,0,none⟩=some hv∧w4.frozen? ⟨W.heap.size,0,none⟩=false:=by
 have h1:=h.below ((Below.refl wr.heap.size wr).alloc (Nat.le_refl _) (.cells #[.string x] 9))
 have ht:zam hv.ownBlock.toList (wr.alloc (.cells #[.string x] 9)) w4:=zam.zaE hg fun g hg=>by simpa using hg
 have hbk:Blk w4 W.heap.size 110 #[hv,nv]:=ht.blk h1.blk fun hm=>by have:=(h1.h.lt W.heap.size (by simpa using hm)).1;omega
 have hs1:zam [W.heap.size] w4 (w4.setCell ⟨W.heap.size,0,none⟩ v'):=(zam.refl _ _).setCell (p:=⟨W.heap.size,0,none⟩) (.inl (by simp)) _
 have hn4:w4.ownsRow (W.heap.size+1) 3 1 nv ns.length (natsV ns):=ht.own h1.n fun g hg hm=>by
  obtain ⟨cs,hC⟩:=zbE h1.n hg
  obtain ⟨cs',hD⟩:=zbE h1.h (g:=g) (by simpa using hm)
  exact hC.ne_ hD (by decide) rfl
 refine ⟨⟨hbk.zbk 0 v',hs1.own (by rw [zak,List.map_append,List.length_append];exact ho) fun g hg hm=> ?_,hs1.own hn4 fun g hg hm=> ?_, ?_, ?_⟩,hbk.cell 0,hbk.frozen 0⟩
 ·have:=(ho.lt g hg).1
  rw [List.mem_singleton] at hm
  omega
 ·have:=(hn4.lt g hg).1
  rw [List.mem_singleton] at hm
  omega
 ·exact (h1.b.trans (ht.below (B:=W.heap.size) h1.b.size fun g hg=>by have:=(h1.h.lt g (by simpa using hg)).1;omega)).setCell (p:=⟨W.heap.size,0,none⟩) (Nat.le_refl _) _
 ·exact Nat.le_trans h1.z (Nat.le_trans ht.size hs1.size)
theorem RdW.addN (h:RdW W wr hs ns hv nv) (ho:w4.ownsRow (W.heap.size+1) 3 1 v' (ns.length+1) (natsV ns++[.int .i64 (n:Int)])) (hg:(wr.alloc (.cells #[.int .i64 (n:Int)] 3)).grownBy w4 nv.ownBlock):
 RdW W (w4.setCell ⟨W.heap.size,1,none⟩ v') hs (ns++[n]) hv v'∧w4.cell? ⟨W.heap.size,1,none⟩=some nv∧w4.frozen? ⟨W.heap.size,1,none⟩=false:=by
 have h1:=h.below ((Below.refl wr.heap.size wr).alloc (Nat.le_refl _) (.cells #[.int .i64 (n:Int)] 3))
 have ht:zam nv.ownBlock.toList (wr.alloc (.cells #[.int .i64 (n:Int)] 3)) w4:=zam.zaE hg fun g hg=>by simpa using hg
 have hbk:Blk w4 W.heap.size 110 #[hv,nv]:=ht.blk h1.blk fun hm=>by have:=(h1.n.lt W.heap.size (by simpa using hm)).1;omega
 have hs1:zam [W.heap.size] w4 (w4.setCell ⟨W.heap.size,1,none⟩ v'):=(zam.refl _ _).setCell (p:=⟨W.heap.size,1,none⟩) (.inl (by simp)) _
 have hn4:w4.ownsRow (W.heap.size+1) 9 1 hv hs.length (zak hs):=ht.own h1.h fun g hg hm=>by
  obtain ⟨cs,hC⟩:=zbE h1.h hg
  obtain ⟨cs',hD⟩:=zbE h1.n (g:=g) (by simpa using hm)
  exact hC.ne_ hD (by decide) rfl
 refine ⟨⟨hbk.zbk 1 v',hs1.own hn4 fun g hg hm=> ?_,hs1.own (by rw [natsV,List.map_append,List.length_append];exact ho) fun g hg hm=> ?_, ?_, ?_⟩,hbk.cell 1,hbk.frozen 1⟩
 ·have:=(hn4.lt g hg).1
  rw [List.mem_singleton] at hm
  omega
 ·have:=(ho.lt g hg).1
  rw [List.mem_singleton] at hm
  omega
 ·exact (h1.b.trans (ht.below (B:=W.heap.size) h1.b.size fun g hg=>by have:=(h1.n.lt g (by simpa using hg)).1;omega)).setCell (p:=⟨W.heap.size,1,none⟩) (Nat.le_refl _) _
 ·exact Nat.le_trans h1.z (Nat.le_trans ht.size hs1.size)
theorem RdW.is (h:RdW W wr hs ns hv nv):zcJ wr (.agg #[hv,nv]) ⟨hs,ns⟩:=by
 obtain ⟨A,c,rfl,r1,h1,_⟩:=zai h.h
 obtain ⟨A2,c2,rfl,r2,_,_⟩:=zai h.n
 exact ⟨A,c,A2,c2,rfl,r1,r2,h1,fun ad e h0=>row_blk h.h e h0,fun ad e h0=>row_blk h.n e h0⟩
end
end Go.Proofs.YthkfhfldoniolaaGreatDoor
namespace Go.Proofs.YthkfhfldoniolaaGreatDoor
open Go.RowKit Go.Maps Go.WideMaps
def Cmd.fn:Cmd→Nat
 | .table=>86
 | .moves=>88
 | .ring=>89
 | .rival=>92
 | .pick=>94
 | .look=>97
 | .drain=>99
 | .tick=>101
 | .up=>102
 | .flows=>104
 | .exprt=>107
def zdk:Option Cmd→Value
 |none=> .agg #[.string ⟨#[]⟩,.nilFunc]
 |some c=> .agg #[.string ⟨c.form.toArray⟩,.func (.func c.fn) #[] #[]]
theorem fn_inj {a b:Cmd} (h:a.fn=b.fn):a=b:=by
 cases a<;>cases b<;>first|rfl|exact absurd h (by decide)
theorem cmdVal_inj {a b:Option Cmd} (h:zdk a=zdk b):a=b:=by
 cases a with
 |none=>cases b with
  |none=>rfl
  |some b=>simp [zdk] at h
 |some a=>cases b with
  |none=>simp [zdk] at h
  |some b=>
   simp only [zdk,Value.agg.injEq,Array.mk.injEq,List.cons.injEq,Value.func.injEq,Fn.func.injEq,and_true] at h
   exact congrArg some (fn_inj h.2)
def zeZ:Option Cmd→DataW Unit
 |none=> .lit (.int .i64 0)
 |some c=> .lit (.int .i64 (c.fn:Int))
theorem encCmd_inj {a b:Option Cmd} (h:zeZ a=zeZ b):a=b:=by
 cases a with
 |none=>cases b with
  |none=>rfl
  |some b=>cases b<;>simp [zeZ,Cmd.fn] at h
 |some a=>cases b with
  |none=>cases a<;>simp [zeZ,Cmd.fn] at h
  |some b=>
   simp only [zeZ,DataW.lit.injEq,Lit.int.injEq,true_and,Int.natCast_inj] at h
   exact congrArg some (fn_inj h)
open Classical in
noncomputable def cmdR (v:Value):Option (DataW Unit×List MemPlace):=if h:∃o,zdk o=v then some (zeZ h.choose,[]) else none
theorem cmdR_of (o:Option Cmd):cmdR (zdk o)=some (zeZ o,[]):=by
 unfold cmdR
 have h:∃o',zdk o'=zdk o:=⟨o,rfl⟩
 rw [dif_pos h,cmdVal_inj h.choose_spec]
theorem cmdR_inv {v:Value} {o:Option Cmd} {ps:List MemPlace} (h:cmdR v=some (zeZ o,ps)):v=zdk o:=by
 unfold cmdR at h
 split at h
 ·rename_i h2
  simp only [Option.some.injEq,Prod.mk.injEq] at h
  rw [←encCmd_inj h.1]
  exact h2.choose_spec.symm
 ·cases h
theorem zero_cmd (w:World):(zeroValue 117).run Tryz.prog w= .ok (zdk none) w:=by
 have h:Tryz.t117.zero=some (.agg #[.string ⟨#[]⟩,.nilFunc]):=by kernel_rfl
 simp [zeroValue,h,zdk]
theorem zft {a b:ByteArray} (h:a.data.toList=b.data.toList):a=b:=by
 cases a;cases b;simp at h;rw [h]
def za0 (b n:Nat) (f:ByteArray→Option Cmd) (w:World):Prop:=∃D:DataW Unit,w.ownsMap Tryz.prog 9 cmdR b n D∧∀s:ByteArray,s.size≤maxLen→Maps.has D (.string s.data.toList)=(f s).isSome∧D.atKey (.string s.data.toList) (zeZ none)=zeZ (f s)
section
variable {b n:Nat} {f:ByteArray→Option Cmd} {w w':World}
theorem za0.made (w:World):za0 w.heap.size 0 (fun _=>none) (w.alloc (.map #[] 0)):=⟨_,World.ownsMap_made w _ _ _,fun k _=>⟨rfl,by simp [DataW.atKey]⟩⟩
theorem za0.below (h:za0 b n f w) (hb:Below w.heap.size w w'):za0 b n f w':=by
 obtain ⟨D,ho,hD⟩:=h
 exact ⟨D,(zam.of_below (bs:=[]) hb).map ho (by simp),hD⟩
theorem za0.look {s:ByteArray} (h:za0 b n f w) (hs:s.size≤maxLen):(Instr.lookup 119 (.map (some b)) (.string s) true).run Tryz.prog w= .ok (.tuple #[zdk (f s),.bool (f s).isSome]) w:=by
 obtain ⟨D,ho,hD⟩:=h
 obtain ⟨v,ps,hrun,hv⟩:=ho.look_ok (string_keyed Tryz.underlying9) Tryz.underlying119 (zero_cmd w) (cmdR_of none) (keyOf_string_mk Tryz.underlying9 hs)
 rw [(hD s hs).2] at hv
 obtain rfl:=cmdR_inv hv
 rw [(hD s hs).1] at hrun
 exact hrun
theorem za0.put {s:ByteArray} (c:Cmd) (h:za0 b n f w) (hs:s.size≤maxLen) (hn:n<maxLen):
 ∃w',(Instr.mapUpdate 119 (.map (some b)) (.string s) (zdk (some c))).run Tryz.prog w= .ok () w'∧za0 b (n+1) (fun x=>if x=s then some c else f x) w'∧w.grownBy w' (some b):=by
 obtain ⟨D,ho,hD⟩:=h
 obtain ⟨w',hrun,ho',hg⟩:=ho.store (string_keyed Tryz.underlying9) Tryz.underlying119 hn (keyOf_string_mk Tryz.underlying9 hs) (cmdR_of (some c))
 refine ⟨w',hrun,⟨_,ho',fun j hj=> ?_⟩,hg.grown⟩
 by_cases hjk:j=s
 ·subst hjk
  rw [atKey_put_same (k:= .string j.data.toList) ho.isMap trivial,has_put_same (k:= .string j.data.toList) ho.isMap trivial];simp
 ·have hne:¬j.data.toList=s.data.toList:=fun e=>hjk (zft e)
  rw [atKey_put_other (k:= .string s.data.toList) (k':= .string j.data.toList) (by intro e;injection e with e;exact hne e),has_put_other (k:= .string s.data.toList) (k':= .string j.data.toList) (by intro e;injection e with e;exact hne e),(hD j hj).1,(hD j hj).2]
  simp [hjk]
end
section
variable {w:World} {ops:Array Oper} {rest:List Oper} {o:Oper} {a:Act} {Q:Exit→Act→World→Prop} {b n:Nat} {f:ByteArray→Option Cmd}
end
def zbZ (x:ByteArray):Option Cmd:=if x=cmRival then some .rival else if x=cmRing then some .ring else if x=zco then some .moves else if x=cmTable then some .table else none
def zea (x:ByteArray):Option Cmd:=if x=zds then some .exprt else if x=zez then some .flows else if x=cmUp then some .up else if x=cmTick then some .tick else if x=zeo then some .drain else if x=cmLook then some .look else if x=zfU then some .pick else none
def zbs (n:Nat) (f:ByteArray→Option Cmd) (W:World) (e:Ending) (w':World):Prop:=∃b,e= .returned (.map (some b))∧za0 b n f w'∧Below W.heap.size W w'
structure BelowM (W w:World):Prop where
 b:Below W.heap.size W w
theorem BelowM.zex {W w w':World} (h:BelowM W w) (hg:w.grownBy w' (some W.heap.size)):BelowM W w':=
 ⟨h.b.trans ((zam.zaE (bs:=[W.heap.size]) hg fun j hj=>by cases hj;simp).below (B:=W.heap.size) h.b.size (by simp))⟩
theorem zbS (W:World):Calls Tryz.prog 58 #[] W (zbs 4 zbZ W):=by
 have HM0:=Lib.hid (za0.made W)
 have HB0:Hid (BelowM W (W.alloc (.map #[] 0))):=Lib.hid ⟨(Below.refl _ _).alloc (Nat.le_refl _) _⟩
 obtain ⟨w1,r1,m1,g1⟩:=HM0.out.put (s:=cmTable) .table (by decide) (by decide)
 have HM1:=Lib.hid m1
 have HB1:=Lib.hid (HB0.out.zex g1)
 have q1:(Instr.mapUpdate 119 (.map (some W.heap.size)) (.string ⟨#[116,97,98,108,101]⟩) (.agg #[.string ⟨#[110]⟩,.func (.func 86) #[] #[]])).run Tryz.prog (W.alloc (.map #[] 0))= .ok () w1:=r1
 clear r1 m1 g1
 obtain ⟨w2,r2,m2,g2⟩:=HM1.out.put (s:=zco) .moves (by decide) (by decide)
 have HM2:=Lib.hid m2
 have HB2:=Lib.hid (HB1.out.zex g2)
 have q2:(Instr.mapUpdate 119 (.map (some W.heap.size)) (.string ⟨#[109,111,118,101,115]⟩) (.agg #[.string ⟨#[110,43]⟩,.func (.func 88) #[] #[]])).run Tryz.prog (w1)= .ok () w2:=r2
 clear r2 m2 g2
 obtain ⟨w3,r3,m3,g3⟩:=HM2.out.put (s:=cmRing) .ring (by decide) (by decide)
 have HM3:=Lib.hid m3
 have HB3:=Lib.hid (HB2.out.zex g3)
 have q3:(Instr.mapUpdate 119 (.map (some W.heap.size)) (.string ⟨#[114,105,110,103]⟩) (.agg #[.string ⟨#[110,110]⟩,.func (.func 89) #[] #[]])).run Tryz.prog (w2)= .ok () w3:=r3
 clear r3 m3 g3
 obtain ⟨w4,r4,m4,g4⟩:=HM3.out.put (s:=cmRival) .rival (by decide) (by decide)
 have HM4:=Lib.hid m4
 have HB4:=Lib.hid (HB3.out.zex g4)
 have q4:(Instr.mapUpdate 119 (.map (some W.heap.size)) (.string ⟨#[114,105,118,97,108]⟩) (.agg #[.string ⟨#[110]⟩,.func (.func 92) #[] #[]])).run Tryz.prog (w3)= .ok () w4:=r4
 clear r4 m4 g4
 have hmm:= @run_makeMap Tryz.prog
 go_enter Tryz.func58,Tryz.ntmps58
 go_wp2
 go_ret
 exact ⟨_,rfl,HM4.out,HB4.out.b⟩
theorem zdX (W:World):Calls Tryz.prog 59 #[] W (zbs 7 zea W):=by
 have HM0:=Lib.hid (za0.made W)
 have HB0:Hid (BelowM W (W.alloc (.map #[] 0))):=Lib.hid ⟨(Below.refl _ _).alloc (Nat.le_refl _) _⟩
 obtain ⟨w1,r1,m1,g1⟩:=HM0.out.put (s:=zfU) .pick (by decide) (by decide)
 have HM1:=Lib.hid m1
 have HB1:=Lib.hid (HB0.out.zex g1)
 have q1:(Instr.mapUpdate 119 (.map (some W.heap.size)) (.string ⟨#[112,105,99,107]⟩) (.agg #[.string ⟨#[110]⟩,.func (.func 94) #[] #[]])).run Tryz.prog (W.alloc (.map #[] 0))= .ok () w1:=r1
 clear r1 m1 g1
 obtain ⟨w2,r2,m2,g2⟩:=HM1.out.put (s:=cmLook) .look (by decide) (by decide)
 have HM2:=Lib.hid m2
 have HB2:=Lib.hid (HB1.out.zex g2)
 have q2:(Instr.mapUpdate 119 (.map (some W.heap.size)) (.string ⟨#[108,111,111,107]⟩) (.agg #[.string ⟨#[104,110]⟩,.func (.func 97) #[] #[]])).run Tryz.prog (w1)= .ok () w2:=r2
 clear r2 m2 g2
 obtain ⟨w3,r3,m3,g3⟩:=HM2.out.put (s:=zeo) .drain (by decide) (by decide)
 have HM3:=Lib.hid m3
 have HB3:=Lib.hid (HB2.out.zex g3)
 have q3:(Instr.mapUpdate 119 (.map (some W.heap.size)) (.string ⟨#[100,114,97,105,110]⟩) (.agg #[.string ⟨#[104,110]⟩,.func (.func 99) #[] #[]])).run Tryz.prog (w2)= .ok () w3:=r3
 clear r3 m3 g3
 obtain ⟨w4,r4,m4,g4⟩:=HM3.out.put (s:=cmTick) .tick (by decide) (by decide)
 have HM4:=Lib.hid m4
 have HB4:=Lib.hid (HB3.out.zex g4)
 have q4:(Instr.mapUpdate 119 (.map (some W.heap.size)) (.string ⟨#[116,105,99,107]⟩) (.agg #[.string ⟨#[110]⟩,.func (.func 101) #[] #[]])).run Tryz.prog (w3)= .ok () w4:=r4
 clear r4 m4 g4
 obtain ⟨w5,r5,m5,g5⟩:=HM4.out.put (s:=cmUp) .up (by decide) (by decide)
 have HM5:=Lib.hid m5
 have HB5:=Lib.hid (HB4.out.zex g5)
 have q5:(Instr.mapUpdate 119 (.map (some W.heap.size)) (.string ⟨#[117,112]⟩) (.agg #[.string ⟨#[]⟩,.func (.func 102) #[] #[]])).run Tryz.prog (w4)= .ok () w5:=r5
 clear r5 m5 g5
 obtain ⟨w6,r6,m6,g6⟩:=HM5.out.put (s:=zez) .flows (by decide) (by decide)
 have HM6:=Lib.hid m6
 have HB6:=Lib.hid (HB5.out.zex g6)
 have q6:(Instr.mapUpdate 119 (.map (some W.heap.size)) (.string ⟨#[102,108,111,119,115]⟩) (.agg #[.string ⟨#[]⟩,.func (.func 104) #[] #[]])).run Tryz.prog (w5)= .ok () w6:=r6
 clear r6 m6 g6
 obtain ⟨w7,r7,m7,g7⟩:=HM6.out.put (s:=zds) .exprt (by decide) (by decide)
 have HM7:=Lib.hid m7
 have HB7:=Lib.hid (HB6.out.zex g7)
 have q7:(Instr.mapUpdate 119 (.map (some W.heap.size)) (.string ⟨#[101,120,112,111,114,116]⟩) (.agg #[.string ⟨#[]⟩,.func (.func 107) #[] #[]])).run Tryz.prog (w6)= .ok () w7:=r7
 clear r7 m7 g7
 have hmm:= @run_makeMap Tryz.prog
 go_enter Tryz.func59,Tryz.ntmps59
 go_wp2
 go_ret
 exact ⟨_,rfl,HM7.out,HB7.out.b⟩
theorem ask_act (x:ByteArray):(match zbZ x with|some c=>some c|none=>zea x)=zfV x:=by
 unfold zbZ zea zfV
 by_cases h1:x=cmRival
 ·subst h1;decide
 by_cases h2:x=cmRing
 ·subst h2;decide
 by_cases h3:x=zco
 ·subst h3;decide
 by_cases h4:x=cmTable
 ·subst h4;decide
 by_cases h5:x=zds
 ·subst h5;decide
 by_cases h6:x=zez
 ·subst h6;decide
 by_cases h7:x=cmUp
 ·subst h7;decide
 by_cases h8:x=cmTick
 ·subst h8;decide
 by_cases h9:x=zeo
 ·subst h9;decide
 by_cases h10:x=cmLook
 ·subst h10;decide
 by_cases h11:x=zfU
 ·subst h11;decide
 simp [h1,h2,h3,h4,h5,h6,h7,h8,h9,h10,h11]
end Go.Proofs.YthkfhfldoniolaaGreatDoor
namespace Go.Proofs.YthkfhfldoniolaaGreatDoor
open Go.RowKit
theorem zaO {w:World} {g i:Nat} {t:TypeId} {cs:Array Value} {v:Value} (h:Blk w g t cs) (hi:cs[i]? =some v):w.setCell ⟨g,i,none⟩ v=w:=by
 unfold Blk at h
 have e:cs.setIfInBounds i v=cs:=by
  apply Array.ext_getElem?
  intro j
  rw [Array.getElem?_setIfInBounds]
  split
  ·rename_i hj
   subst hj
   split
   ·exact hi.symm
   ·rename_i hn
    rw [Array.getElem?_eq_none (by omega)] at hi
    cases hi
  ·rfl
 have e2:(w.setCell ⟨g,i,none⟩ v).heap=w.heap:=by
  apply Array.ext_getElem?
  intro j
  unfold World.setCell
  rw [Array.getElem?_modify]
  split
  ·rename_i hj
   subst hj
   simp [h,e]
  ·rfl
 cases w
 simp only [World.setCell] at e2 ⊢
 rw [e2]
theorem txIn_tail {w:World} {ad:Addr} {c:Nat} {x:ByteArray} {r:List ByteArray} (h:zcr w (some ad) c (x::r)):zcr w (if c=1 then some ad else some ⟨ad.block,ad.off+1,none⟩) (c-1) r:=by
 have hr:=h.r.cut (k:=1) (cap:=c) (by simp) h.lc
 have hl:=h.lc
 have hm:=h.lm
 rw [List.length_cons] at hl hm
 refine ⟨?_,by omega,by omega,fun s hs=>h.s s (List.mem_cons_of_mem _ hs)⟩
 have e:ad.add 1=⟨ad.block,ad.off+1,none⟩:=by simp [Addr.add]
 simpa [zak,e] using hr
structure RdI (W:World) (f f':List UInt8) (l l' hs:List ByteArray) (ns:List Nat) (A':Option Addr) (c':Nat):Prop where
 e:zba f l ⟨[],[]⟩=zba f' l' ⟨hs,ns⟩
 t:∀w',Below W.heap.size W w'→zcr w' A' c' l'
 s:∀x∈hs,x.size≤maxLen
 z:∀x∈l',x.size≤1000000
 k:hs.length+ns.length+f'.length≤2
 b:∀w',Below W.heap.size W w'→∀ad,A'=some ad→∃cs,Blk w' ad.block 9 cs
theorem rdi_num {W:World} {f fs:List UInt8} {l hs r:List ByteArray} {ns:List Nat} {ad:Addr} {c n:Nat} {x:ByteArray} (h:RdI W f (110::fs) l (x::r) hs ns (some ad) c) (hn:numS x.data.toList=some n):
 RdI W f fs l r hs (ns++[n]) (if c=1 then some ad else some ⟨ad.block,ad.off+1,none⟩) (c-1):=
 ⟨by rw [h.e];simp [zba,hn],fun w' hb=>txIn_tail (h.t w' hb),h.s,fun y hy=>h.z y (List.mem_cons_of_mem _ hy),(by have:=h.k;simp at this ⊢;omega),fun w' hb ad' e=>(by split at e<;>(cases e;exact h.b w' hb ad rfl))⟩
theorem rdi_host {W:World} {f fs:List UInt8} {l hs r:List ByteArray} {ns:List Nat} {ad:Addr} {c:Nat} {x:ByteArray} (h:RdI W f (104::fs) l (x::r) hs ns (some ad) c):
 RdI W f fs l r (hs++[x]) ns (if c=1 then some ad else some ⟨ad.block,ad.off+1,none⟩) (c-1):=
 ⟨by rw [h.e];simp [zba],fun w' hb=>txIn_tail (h.t w' hb),fun y hy=>by
   rcases List.mem_append.1 hy with hy|hy
   ·exact h.s y hy
   ·rw [List.mem_singleton] at hy
    subst hy
    have:=h.z y List.mem_cons_self
    unfold maxLen
    omega,fun y hy=>h.z y (List.mem_cons_of_mem _ hy),(by have:=h.k;simp at this ⊢;omega),fun w' hb ad' e=>(by split at e<;>(cases e;exact h.b w' hb ad rfl))⟩
structure RdE (W wr:World) (a b:Value) (x:Wd):Prop where
 blk:Blk wr W.heap.size 110 #[a,b]
 is:∀w',Below wr.heap.size wr w'→zcJ w' (.agg #[a,b]) x
 c:∀w',Below wr.heap.size wr w'→Calls Tryz.prog 79 #[a,.func (.func 80) #[] #[]] w' fun e w2=>e= .returned (.bool (!(x.h.all isName)))∧Below w'.heap.size w' w2
 b:Below W.heap.size W wr
theorem zcJ.below {w w':World} {v:Value} {x:Wd} (h:zcJ w v x) (hb:Below w.heap.size w w'):zcJ w' v x:=by
 obtain ⟨A,c,A2,c2,rfl,r1,r2,hc,b1,b2⟩:=h.is
 refine ⟨A,c,A2,c2,rfl,(r1.below hb).more hb.size,(r2.below hb).more hb.size,hc,fun ad e h0=> ?_,fun ad e h0=> ?_⟩
 ·obtain ⟨cs,h1⟩:=b1 ad e h0
  exact ⟨cs,h1.below hb h1.lt⟩
 ·obtain ⟨cs,h1⟩:=b2 ad e h0
  exact ⟨cs,h1.below hb h1.lt⟩
theorem rde_of {W wr:World} {a b:Value} {x:Wd} (hk:Blk wr W.heap.size 110 #[a,b]) (hi:zcJ wr (.agg #[a,b]) x) (hb:Below W.heap.size W wr) (hs:∀s∈x.h,s.size≤maxLen) (hm:x.h.length≤maxLen):RdE W wr a b x:=by
 refine ⟨hk,fun w' h=>hi.below h,fun w' h=> ?_,hb⟩
 obtain ⟨A,c,A2,c2,e,r1,_,_,_,_⟩:=hi.is
 simp only [Value.agg.injEq,Array.mk.injEq,List.cons.injEq,and_true] at e
 obtain ⟨rfl,rfl⟩:=e
 exact containsName_any A c x.h w' ((r1.below h).more h.size) hm hs
theorem rdw_end {W wr:World} {hs:List ByteArray} {ns:List Nat} {hv nv:Value} (h:RdW W wr hs ns hv nv) (hs':∀s∈hs,s.size≤maxLen):RdE W wr hv nv ⟨hs,ns⟩:=by
 obtain ⟨A,c,e,_,_,hm⟩:=zai h.h
 exact rde_of h.blk h.is h.b hs' hm
theorem rd_plus {W wr:World} {hs l':List ByteArray} {ns:List Nat} {hv nv:Value} {A':Option Addr} {c':Nat} (h:RdW W wr hs ns hv nv) (ht:∀w',Below W.heap.size W w'→zcr w' A' c' l') (hz:∀x∈l',x.size≤1000000) (hbk:∀w',Below W.heap.size W w'→∀ad,A'=some ad→∃cs,Blk w' ad.block 9 cs):
 RdE W (wr.setCell ⟨W.heap.size,0,none⟩ (.slice A' l'.length c')) (.slice A' l'.length c') nv ⟨l',ns⟩:=by
 have hs1:zam [W.heap.size] wr (wr.setCell ⟨W.heap.size,0,none⟩ (.slice A' l'.length c')):=(zam.refl _ _).setCell (p:=⟨W.heap.size,0,none⟩) (.inl (by simp)) _
 have hb:=h.b.setCell (p:=⟨W.heap.size,0,none⟩) (Nat.le_refl _) (.slice A' l'.length c')
 have hn:=hs1.own h.n fun g hg hm=>by
  have:=(h.n.lt g hg).1
  rw [List.mem_singleton] at hm
  omega
 obtain ⟨A2,c2,rfl,r2,_,_⟩:=zai hn
 have hT:=ht _ hb
 exact rde_of (h.blk.zbk 0 _) ⟨A',c',A2,c2,rfl,hT.r,r2,hT.lc,fun ad e _=>hbk _ hb ad e,fun ad e h0=>row_blk hn e h0⟩ hb (fun s hs=>by have:=hz s hs;unfold maxLen;omega) hT.lm
theorem readS_yes {f:List UInt8} {l:List ByteArray} {x:Wd} (h:zba f l ⟨[],[]⟩=some x):zaY f l=if x.h.all isName=true then some x else none:=by
 unfold zaY
 rw [h]
theorem readS_no {f:List UInt8} {l:List ByteArray} (h:zba f l ⟨[],[]⟩=none):zaY f l=none:=by
 unfold zaY
 rw [h]
theorem rd_no {W wr w':World} {f:List UInt8} {l:List ByteArray} {a b:Value} {x:Wd} (h:RdE W wr a b x) (hn:zba f l ⟨[],[]⟩=none) (hb:Below wr.heap.size wr w'):zaW (zaY f l) W (.returned (.tuple #[.agg #[a,b],.bool false])) w':=by
 rw [readS_no hn]
 obtain ⟨⟨A,c,A2,c2,e,_⟩⟩:=h.is wr (Below.refl _ _)
 simp only [Value.agg.injEq,Array.mk.injEq,List.cons.injEq,and_true] at e
 obtain ⟨rfl,rfl⟩:=e
 exact ⟨_,_,_,_,_,_,rfl,zaa h.b hb,fun y hy=>by cases hy⟩
theorem rd_yes {W wr w':World} {f:List UInt8} {l:List ByteArray} {a b:Value} {x:Wd} (h:RdE W wr a b x) (hn:zba f l ⟨[],[]⟩=some x) (hb:Below wr.heap.size wr w'):zaW (zaY f l) W (.returned (.tuple #[.agg #[a,b],.bool (x.h.all isName)])) w':=by
 rw [readS_yes hn]
 obtain ⟨⟨A,c,A2,c2,e,_⟩⟩:=h.is wr (Below.refl _ _)
 simp only [Value.agg.injEq,Array.mk.injEq,List.cons.injEq,and_true] at e
 obtain ⟨rfl,rfl⟩:=e
 refine ⟨A,x.h.length,c,A2,x.n.length,c2, ?_,zaa h.b hb,fun y hy=> ?_⟩
 ·cases x.h.all isName<;>rfl
 ·split at hy
  ·cases hy
   exact ⟨rfl,rfl,h.is w' hb⟩
  ·cases hy
set_option maxRecDepth 100000 in
theorem read_any (f:List UInt8) (hf:f=[]∨f=[43]∨f=[110]∨f=[110,110]∨f=[104,110]∨f=[110,43]) (A:Option Addr) (c:Nat) (l:List ByteArray) (W:World) (hT:zcr W A c l) (hbk:∀ad,A=some ad→∃cs,Blk W ad.block 9 cs) (hz:∀x∈l,x.size≤1000000) (hN:NumW W) (hG:23≤W.heap.size):
 Calls Tryz.prog 55 #[.string ⟨f.toArray⟩,.slice A l.length c] W (zaW (zaY f l) W):=by
 obtain ⟨i0,hi0,hz0,hz1,hz2⟩:=info_parts info_intF
 obtain ⟨j0,hj0,hy0,hy1,hy2⟩:=info_parts zc6
 have HR0:=Lib.hid (RdW.new W)
 have HI0:Hid (RdI W f f l l [] [] A c):=Lib.hid ⟨rfl,fun w' hb=>hT.below hb,fun x hx=>(by cases hx),hz,(by rcases hf with rfl|rfl|rfl|rfl|rfl|rfl<;>decide),fun w' hb ad e=>(by obtain ⟨cs,h1⟩:=hbk ad e;exact ⟨cs,h1.below hb h1.lt⟩)⟩
 have HNum:Hid (∀(s:ByteArray) w',Below W.heap.size W w'→s.size≤1000000→Calls Tryz.prog 78 #[.string s] w' fun e w2=>∃v:Int,e= .returned (.tuple #[.int .i64 v,.bool (numS s.data.toList).isSome])∧Below w'.heap.size w' w2∧∀n,numS s.data.toList=some n→v=n):=Lib.hid fun s w' hb hs=>numberS_any s (by omega) w' (hN.below hb hG) (Nat.le_trans hG hb.size)
 have HNo:=Lib.hid (fun (wr w':World) a b x=>rd_no (W:=W) (wr:=wr) (w':=w') (f:=f) (l:=l) (a:=a) (b:=b) (x:=x))
 have HYes:=Lib.hid (fun (wr w':World) a b x=>rd_yes (W:=W) (wr:=wr) (w':=w') (f:=f) (l:=l) (a:=a) (b:=b) (x:=x))
 have HNo2:Hid (∀w',zba f l ⟨[],[]⟩=none→Below W.heap.size W w'→zaW (zaY f l) W (.returned (.tuple #[.agg #[.slice none 0 0,.slice none 0 0],.bool false])) w'):=Lib.hid fun w' hn hb=>by
  rw [readS_no hn]
  exact ⟨_,_,_,_,_,_,rfl,hb,fun y hy=>by cases hy⟩
 clear hT hN hG hz hbk
 generalize hPQ:zaW (zaY f l) W=PQ at*
 go_enter Tryz.func55,Tryz.ntmps55
 go_wp2_with fail
 generalize hW0:W.alloc (.cells #[.slice none 0 0,.slice none 0 0] 110)=W0 at*
 clear hW0
 go_loopw [0,1] (fun fv lv wr=>∃(f':List UInt8) (l':List ByteArray) (A':Option Addr) (c':Nat) (hs:List ByteArray) (ns:List Nat) (hv nv:Value) (m:Nat),fv= .string ⟨f'.toArray⟩∧lv= .slice A' m c'∧Hid (m=l'.length)∧(f'=[]∨f'=[43]∨f'=[110]∨f'=[110,110]∨f'=[104,110]∨f'=[110,43])∧Hid (RdW W wr hs ns hv nv)∧Hid (RdI W f f' l l' hs ns A' c')) (fun fv _ _=>match fv with| .string s=>s.size|_=>0)
 case atStart=>exact ⟨f,l,A,c,[],[],_,_,_,rfl,rfl,Lib.hid rfl,hf,HR0,HI0⟩
 case round=>
  obtain ⟨f',l',A',c',hs,ns,hv,nv,m,rfl,rfl,HM,hf',hR,hI⟩:=hrel
  clear HR0 HI0 hf
  obtain ⟨Ha,Hc,rfl,_⟩:=zai hR.out.h
  obtain ⟨Na,Nc,rfl,_⟩:=zai hR.out.n
  have HE:=Lib.hid (rdw_end hR.out hI.out.s)
  have hk1:hs.length≤2:=by have:=hI.out.k;omega
  have hk2:ns.length≤2:=by have:=hI.out.k;omega
  have k0:=HE.out.blk.cell 0
  have k1:=HE.out.blk.cell 1
  have z0:=HE.out.blk.frozen 0
  have z1:=HE.out.blk.frozen 1
  rcases l' with _|⟨x,r⟩
  ·obtain rfl:m=0:=HM.out
   rcases hf' with rfl|rfl|rfl|rfl|rfl|rfl
   ·have HY:=Lib.hid (fun w'=>HYes.out wr w' _ _ _ HE.out hI.out.e)
    have hbD:=zad (Below.refl wr.heap.size wr)
    have HCk:Hid (∀w',Below wr.heap.size wr w'→Blk w' W.heap.size 110 #[.slice Ha hs.length Hc,(.slice Na ns.length Nc)]):=Lib.hid fun w' hb=>HE.out.blk.below hb HE.out.blk.lt
    have HCe:Hid (∀w',Below wr.heap.size wr w'→w'.cell? ⟨W.heap.size,0,none⟩=some (.slice Ha hs.length Hc)∧w'.cell? ⟨W.heap.size,1,none⟩=some (.slice Na ns.length Nc)∧w'.frozen? ⟨W.heap.size,0,none⟩=false∧w'.frozen? ⟨W.heap.size,1,none⟩=false):=Lib.hid fun w' hb=>⟨(HCk.out w' hb).cell 0,(HCk.out w' hb).cell 1,(HCk.out w' hb).frozen 0,(HCk.out w' hb).frozen 1⟩
    have HCo:=Lib.hid HE.out.c
    go_wp2_with fail
    go_region_held3 (fun w'=>w'.cell? ⟨W.heap.size,0,none⟩=some (.slice Ha hs.length Hc)∧w'.cell? ⟨W.heap.size,1,none⟩=some (.slice Na ns.length Nc)∧w'.frozen? ⟨W.heap.size,0,none⟩=false∧w'.frozen? ⟨W.heap.size,1,none⟩=false) (first|exact HCe.out _ hbC|exact HCe.out _ hbD|(rw [zaO (HCk.out _ hbC) rfl,zaO (HCk.out _ hbC) rfl];exact HCe.out _ hbC)|go_keep) (first
     |(go_at_call 79
       refine (HCo.out _ hbD).mono ?_
       rintro e wc ⟨rfl,hbC'⟩
       have hbC:=zaa hbD hbC'))
    all_goals
     have HKc:=HCk.out _ hbC
     have HQ:=Lib.hid (HY.out _ hbC)
     have e0:wc.setCell ⟨W.heap.size,0,none⟩ (.slice Ha hs.length Hc)=wc:=zaO HKc rfl
     have e1:wc.setCell ⟨W.heap.size,1,none⟩ (.slice Na ns.length Nc)=wc:=zaO HKc rfl
     rw [e0,e1]
     go_wp2
     refine bodyPost_ret (zaU (P:=Tryz.prog) rfl _ _ W.heap.size _ _ (0,0) _ rfl HKc Tryz.underlying110 rfl (by kernel_rfl)) rfl ?_
     exact HQ.out
   all_goals
    have HN:=Lib.hid (fun w'=>HNo.out wr w' _ _ _ HE.out hI.out.e)
    have hbD:=zad (Below.refl wr.heap.size wr)
    have HCk:Hid (∀w',Below wr.heap.size wr w'→Blk w' W.heap.size 110 #[.slice Ha hs.length Hc,(.slice Na ns.length Nc)]):=Lib.hid fun w' hb=>HE.out.blk.below hb HE.out.blk.lt
    have HCe:Hid (∀w',Below wr.heap.size wr w'→w'.cell? ⟨W.heap.size,0,none⟩=some (.slice Ha hs.length Hc)∧w'.cell? ⟨W.heap.size,1,none⟩=some (.slice Na ns.length Nc)∧w'.frozen? ⟨W.heap.size,0,none⟩=false∧w'.frozen? ⟨W.heap.size,1,none⟩=false):=Lib.hid fun w' hb=>⟨(HCk.out w' hb).cell 0,(HCk.out w' hb).cell 1,(HCk.out w' hb).frozen 0,(HCk.out w' hb).frozen 1⟩
    go_wp2_with fail
    obtain ⟨q0,q1,q2,q3⟩:=HCe.out _ hbD
    go_region
    all_goals
     have HKc:=HCk.out _ hbD
     have HQ:=Lib.hid (HN.out _ hbD)
     have e0:wr.setCell ⟨W.heap.size,0,none⟩ (.slice Ha hs.length Hc)=wr:=zaO (HCk.out _ (Below.refl _ _)) rfl
     have e1:wr.setCell ⟨W.heap.size,1,none⟩ (.slice Na ns.length Nc)=wr:=zaO (HCk.out _ (Below.refl _ _)) rfl
     rw [e0,e1]
     go_wp2
     refine bodyPost_ret (zaU (P:=Tryz.prog) rfl _ _ W.heap.size _ _ (0,0) _ rfl HKc Tryz.underlying110 rfl (by kernel_rfl)) rfl ?_
     exact HQ.out
  ·have hm0:0<m:=by rw [HM.out];simp
   have hm1:(0:Int)<(m:Int):=by omega
   have hm2:((m:Int)==0)=false:=by simp;omega
   have hm3:¬(m:Int)=0:=by omega
   have hm4:¬m=0:=by omega
   rcases hf' with rfl|rfl|rfl|rfl|rfl|rfl
   ·have HN:=Lib.hid (fun w'=>HNo.out wr w' _ _ _ HE.out hI.out.e)
    have hbD:=zad (Below.refl wr.heap.size wr)
    have HCk:Hid (∀w',Below wr.heap.size wr w'→Blk w' W.heap.size 110 #[.slice Ha hs.length Hc,(.slice Na ns.length Nc)]):=Lib.hid fun w' hb=>HE.out.blk.below hb HE.out.blk.lt
    have HCe:Hid (∀w',Below wr.heap.size wr w'→w'.cell? ⟨W.heap.size,0,none⟩=some (.slice Ha hs.length Hc)∧w'.cell? ⟨W.heap.size,1,none⟩=some (.slice Na ns.length Nc)∧w'.frozen? ⟨W.heap.size,0,none⟩=false∧w'.frozen? ⟨W.heap.size,1,none⟩=false):=Lib.hid fun w' hb=>⟨(HCk.out w' hb).cell 0,(HCk.out w' hb).cell 1,(HCk.out w' hb).frozen 0,(HCk.out w' hb).frozen 1⟩
    go_wp2_with fail
    obtain ⟨q0,q1,q2,q3⟩:=HCe.out _ hbD
    go_region
    all_goals
     have HKc:=HCk.out _ hbD
     have HQ:=Lib.hid (HN.out _ hbD)
     have e0:wr.setCell ⟨W.heap.size,0,none⟩ (.slice Ha hs.length Hc)=wr:=zaO (HCk.out _ (Below.refl _ _)) rfl
     have e1:wr.setCell ⟨W.heap.size,1,none⟩ (.slice Na ns.length Nc)=wr:=zaO (HCk.out _ (Below.refl _ _)) rfl
     rw [e0,e1]
     go_wp2
     refine bodyPost_ret (zaU (P:=Tryz.prog) rfl _ _ W.heap.size _ _ (0,0) _ rfl HKc Tryz.underlying110 rfl (by kernel_rfl)) rfl ?_
     exact HQ.out
   ·have HE1:Hid (RdE W (wr.setCell ⟨W.heap.size,0,none⟩ (.slice A' m c')) (.slice A' m c') (.slice Na ns.length Nc) ⟨x::r,ns⟩):=Lib.hid (by rw [HM.out];exact rd_plus hR.out hI.out.t hI.out.z hI.out.b)
    have HY:=Lib.hid (fun w'=>HYes.out _ w' _ _ _ HE1.out hI.out.e)
    go_wp2_with fail
    generalize hW1:wr.setCell ⟨W.heap.size,0,none⟩ (.slice A' m c')=wr1 at*
    have hbD:=zad (Below.refl wr1.heap.size wr1)
    have HCk:Hid (∀w',Below wr1.heap.size wr1 w'→Blk w' W.heap.size 110 #[(.slice A' m c'),(.slice Na ns.length Nc)]):=Lib.hid fun w' hb=>HE1.out.blk.below hb HE1.out.blk.lt
    have HCe:Hid (∀w',Below wr1.heap.size wr1 w'→w'.cell? ⟨W.heap.size,0,none⟩=some ((.slice A' m c'))∧w'.cell? ⟨W.heap.size,1,none⟩=some (.slice Na ns.length Nc)∧w'.frozen? ⟨W.heap.size,0,none⟩=false∧w'.frozen? ⟨W.heap.size,1,none⟩=false):=Lib.hid fun w' hb=>⟨(HCk.out w' hb).cell 0,(HCk.out w' hb).cell 1,(HCk.out w' hb).frozen 0,(HCk.out w' hb).frozen 1⟩
    have HCo:=Lib.hid HE1.out.c
    go_wp2_with fail
    go_region_held3 (fun w'=>w'.cell? ⟨W.heap.size,0,none⟩=some ((.slice A' m c'))∧w'.cell? ⟨W.heap.size,1,none⟩=some (.slice Na ns.length Nc)∧w'.frozen? ⟨W.heap.size,0,none⟩=false∧w'.frozen? ⟨W.heap.size,1,none⟩=false) (first|exact HCe.out _ hbC|exact HCe.out _ hbD|(rw [zaO (HCk.out _ hbC) rfl,zaO (HCk.out _ hbC) rfl];exact HCe.out _ hbC)|go_keep) (first
     |(go_at_call 79
       refine (HCo.out _ hbD).mono ?_
       rintro e wc ⟨rfl,hbC'⟩
       have hbC:=zaa hbD hbC'))
    all_goals
     have HKc:=HCk.out _ hbC
     have HQ:=Lib.hid (HY.out _ hbC)
     have e0:wc.setCell ⟨W.heap.size,0,none⟩ ((.slice A' m c'))=wc:=zaO HKc rfl
     have e1:wc.setCell ⟨W.heap.size,1,none⟩ (.slice Na ns.length Nc)=wc:=zaO HKc rfl
     rw [e0,e1]
     go_wp2
     refine bodyPost_ret (zaU (P:=Tryz.prog) rfl _ _ W.heap.size _ _ (0,0) _ rfl HKc Tryz.underlying110 rfl (by kernel_rfl)) rfl ?_
     exact HQ.out
   ·obtain ⟨ad,u,rfl,_,hu,hcx⟩:=(hI.out.t wr HE.out.b).r.at_ (k:=0) (by simp)
    obtain rfl:Value.string x=u:=by simpa [zak] using hu
    have HN1:=Lib.hid (HNum.out x wr HE.out.b (hI.out.z x (by simp)))
    have hcx:wr.cell? ad=some (.string x):=by cases ad;simpa [Addr.add] using hcx
    have hb0:(((⟨#[110]⟩:ByteArray)[0].toNat:Nat):Int)=110:=rfl
    have HI2:=hI
    clear hI hu
    have HRR:=hR
    clear hR
    go_wp2_with fail
    refine HN1.out.mono ?_
    rintro e w1 ⟨v,rfl,hb1,hv⟩
    have HR1:=Lib.hid (HRR.out.below hb1)
    have g0:=HR1.out.blk.cell 0
    have g1:=HR1.out.blk.cell 1
    have y0:=HR1.out.blk.frozen 0
    have y1:=HR1.out.blk.frozen 1
    cases hnx:numS x.data.toList with
    |none=>
     have HQ:=Lib.hid (HNo2.out _ (by rw [HI2.out.e];simp [zba,hnx]) (((HR1.out.b).setCell (p:=⟨W.heap.size,0,none⟩) (Nat.le_refl _) (.slice none 0 0)).setCell (p:=⟨W.heap.size,1,none⟩) (Nat.le_refl _) (.slice none 0 0)))
     have HKc:=(HR1.out.blk.zbk 0 (.slice none 0 0)).zbk 1 (.slice none 0 0)
     clear hnx hv
     go_wp2_with fail
     refine bodyPost_ret (zaU (P:=Tryz.prog) rfl _ _ W.heap.size _ _ (0,0) _ rfl HKc Tryz.underlying110 rfl (by kernel_rfl)) rfl ?_
     exact HQ.out
    |some n=>
     obtain rfl:=hv n hnx
     have HRW:=Lib.hid (own_below HR1.out.n ((Below.refl w1.heap.size w1).alloc (Nat.le_refl _) (.cells #[.int .i64 (n:Int)] 3)))
     have HNW:Hid (Reads (w1.alloc (.cells #[.int .i64 (n:Int)] 3)) (w1.alloc (.cells #[.int .i64 (n:Int)] 3)).heap.size 1 (some ⟨w1.heap.size,0,none⟩) 1 [.int .i64 (n:Int)]):=Lib.hid (zbq (Blk.new w1 3 [Value.int .i64 (n:Int)].toArray))
     have HSZ:Hid (W.heap.size+1≤(w1.alloc (.cells #[.int .i64 (n:Int)] 3)).heap.size):=Lib.hid (Nat.le_trans HR1.out.z ((Below.refl w1.heap.size w1).alloc (Nat.le_refl _) _).size)
     have HAD:=Lib.hid (fun w4 v'=>HR1.out.addN (w4:=w4) (v':=v') (n:=n))
     have HNX:=Lib.hid hnx
     clear hnx hv
     go_wp2_with (first
      |(at_builtin
        go_must (refine zac _ rfl (.tmp 42) (.tmp 44) _ rfl (W.heap.size+1) 3 i0 _ 1 8 Tryz.underlying29 hi0 hz0 hz1 hz2 rfl (by omega) (.slice Na ns.length Nc) ns.length (natsV ns) rfl HRW.out _ (some ⟨w1.heap.size,0,none⟩) 1 1 [.int .i64 (n:Int)] rfl HNW.out (by simp [Value.oneCell']) (by simp only [maxLen];omega) (by omega) HSZ.out ?_)
        intro v4 w4 hown4 hgrow4 _
        obtain ⟨HP,cc,cf⟩:=HAD.out w4 v4 hown4 hgrow4
        obtain ⟨N4,C4,hv4,-⟩:=zai HP.n
        subst hv4
        have HP2:=Lib.hid (HP.below (zad (Below.refl _ _)))
        rw [show (ns++[n]).length=ns.length+1 by simp] at HP2
        clear hown4 hgrow4 HP))
     have hmc:(m:Int)≤(c':Int):=by have:=(HI2.out.t wr HE.out.b).lc;have:=HM.out;omega
     have hmc2:m≤c':=by omega
     have hm5:(1:Int)≤(m:Int):=by omega
     have hm6:1≤m:=by omega
     go_region
     clear hmc hmc2 hm0 hm1 hm2 hm3 hm4 hm5 hm6 hk1 hk2 hb0
     go_wp2
     go_roundw
     case rel=>exact ⟨[],r,_,_,hs,ns++[n],_,_,m-1,rfl,rfl,Lib.hid (by have:=HM.out;rw [List.length_cons] at this;omega),by simp,HP2,Lib.hid (rdi_num HI2.out HNX.out)⟩
     case measure=>decide
   ·obtain ⟨ad,u,rfl,_,hu,hcx⟩:=(hI.out.t wr HE.out.b).r.at_ (k:=0) (by simp)
    obtain rfl:Value.string x=u:=by simpa [zak] using hu
    have HN1:=Lib.hid (HNum.out x wr HE.out.b (hI.out.z x (by simp)))
    have hcx:wr.cell? ad=some (.string x):=by cases ad;simpa [Addr.add] using hcx
    have hb0:(((⟨#[110,110]⟩:ByteArray)[0].toNat:Nat):Int)=110:=rfl
    have HI2:=hI
    clear hI hu
    have HRR:=hR
    clear hR
    go_wp2_with fail
    refine HN1.out.mono ?_
    rintro e w1 ⟨v,rfl,hb1,hv⟩
    have HR1:=Lib.hid (HRR.out.below hb1)
    have g0:=HR1.out.blk.cell 0
    have g1:=HR1.out.blk.cell 1
    have y0:=HR1.out.blk.frozen 0
    have y1:=HR1.out.blk.frozen 1
    cases hnx:numS x.data.toList with
    |none=>
     have HQ:=Lib.hid (HNo2.out _ (by rw [HI2.out.e];simp [zba,hnx]) (((HR1.out.b).setCell (p:=⟨W.heap.size,0,none⟩) (Nat.le_refl _) (.slice none 0 0)).setCell (p:=⟨W.heap.size,1,none⟩) (Nat.le_refl _) (.slice none 0 0)))
     have HKc:=(HR1.out.blk.zbk 0 (.slice none 0 0)).zbk 1 (.slice none 0 0)
     clear hnx hv
     go_wp2_with fail
     refine bodyPost_ret (zaU (P:=Tryz.prog) rfl _ _ W.heap.size _ _ (0,0) _ rfl HKc Tryz.underlying110 rfl (by kernel_rfl)) rfl ?_
     exact HQ.out
    |some n=>
     obtain rfl:=hv n hnx
     have HRW:=Lib.hid (own_below HR1.out.n ((Below.refl w1.heap.size w1).alloc (Nat.le_refl _) (.cells #[.int .i64 (n:Int)] 3)))
     have HNW:Hid (Reads (w1.alloc (.cells #[.int .i64 (n:Int)] 3)) (w1.alloc (.cells #[.int .i64 (n:Int)] 3)).heap.size 1 (some ⟨w1.heap.size,0,none⟩) 1 [.int .i64 (n:Int)]):=Lib.hid (zbq (Blk.new w1 3 [Value.int .i64 (n:Int)].toArray))
     have HSZ:Hid (W.heap.size+1≤(w1.alloc (.cells #[.int .i64 (n:Int)] 3)).heap.size):=Lib.hid (Nat.le_trans HR1.out.z ((Below.refl w1.heap.size w1).alloc (Nat.le_refl _) _).size)
     have HAD:=Lib.hid (fun w4 v'=>HR1.out.addN (w4:=w4) (v':=v') (n:=n))
     have HNX:=Lib.hid hnx
     clear hnx hv
     go_wp2_with (first
      |(at_builtin
        go_must (refine zac _ rfl (.tmp 42) (.tmp 44) _ rfl (W.heap.size+1) 3 i0 _ 1 8 Tryz.underlying29 hi0 hz0 hz1 hz2 rfl (by omega) (.slice Na ns.length Nc) ns.length (natsV ns) rfl HRW.out _ (some ⟨w1.heap.size,0,none⟩) 1 1 [.int .i64 (n:Int)] rfl HNW.out (by simp [Value.oneCell']) (by simp only [maxLen];omega) (by omega) HSZ.out ?_)
        intro v4 w4 hown4 hgrow4 _
        obtain ⟨HP,cc,cf⟩:=HAD.out w4 v4 hown4 hgrow4
        obtain ⟨N4,C4,hv4,-⟩:=zai HP.n
        subst hv4
        have HP2:=Lib.hid (HP.below (zad (Below.refl _ _)))
        rw [show (ns++[n]).length=ns.length+1 by simp] at HP2
        clear hown4 hgrow4 HP))
     have hmc:(m:Int)≤(c':Int):=by have:=(HI2.out.t wr HE.out.b).lc;have:=HM.out;omega
     have hmc2:m≤c':=by omega
     have hm5:(1:Int)≤(m:Int):=by omega
     have hm6:1≤m:=by omega
     go_region
     clear hmc hmc2 hm0 hm1 hm2 hm3 hm4 hm5 hm6 hk1 hk2 hb0
     go_wp2
     go_roundw
     case rel=>exact ⟨[110],r,_,_,hs,ns++[n],_,_,m-1,rfl,rfl,Lib.hid (by have:=HM.out;rw [List.length_cons] at this;omega),by simp,HP2,Lib.hid (rdi_num HI2.out HNX.out)⟩
     case measure=>decide
   ·obtain ⟨ad,u,rfl,_,hu,hcx⟩:=(hI.out.t wr HE.out.b).r.at_ (k:=0) (by simp)
    obtain rfl:Value.string x=u:=by simpa [zak] using hu
    have hcx:wr.cell? ad=some (.string x):=by cases ad;simpa [Addr.add] using hcx
    have hb0:(((⟨#[104,110]⟩:ByteArray)[0].toNat:Nat):Int)=104:=rfl
    have HI2:=hI
    clear hI hu
    have HRR:=hR
    clear hR
    have g0:=HRR.out.blk.cell 0
    have y0:=HRR.out.blk.frozen 0
    have HRW:=Lib.hid (own_below HRR.out.h ((Below.refl wr.heap.size wr).alloc (Nat.le_refl _) (.cells #[.string x] 9)))
    have HNW:Hid (Reads (wr.alloc (.cells #[.string x] 9)) (wr.alloc (.cells #[.string x] 9)).heap.size 1 (some ⟨wr.heap.size,0,none⟩) 1 [.string x]):=Lib.hid (zbq (Blk.new wr 9 [Value.string x].toArray))
    have c0a:(wr.alloc (.cells #[.string x] 9)).cell? ⟨W.heap.size,0,none⟩=some (.slice Ha hs.length Hc):=(HRR.out.below ((Below.refl wr.heap.size wr).alloc (Nat.le_refl _) (.cells #[.string x] 9))).blk.cell 0
    have HSZ:Hid (W.heap.size+1≤(wr.alloc (.cells #[.string x] 9)).heap.size):=Lib.hid (Nat.le_trans HRR.out.z ((Below.refl wr.heap.size wr).alloc (Nat.le_refl _) _).size)
    have HAD:=Lib.hid (fun w4 v'=>HRR.out.addH (w4:=w4) (v':=v') (x:=x))
    go_wp2_with fail
    go_region_law (first
     |(refine zbh _ rfl (.tmp 24) (.tmp 28) _ rfl (W.heap.size+1) 9 j0 _ 1 16 Tryz.underlying24 hj0 hy0 hy1 hy2 rfl (by omega) (.slice Ha hs.length Hc) hs.length (zak hs) (by simp [Act.eval]) HRW.out _ (some ⟨wr.heap.size,0,none⟩) 1 1 [.string x] (by simp [Act.eval]) HNW.out (by simp [Value.oneCell']) (by simp only [maxLen];omega) (by omega) HSZ.out ?_
       intro v4 w4 hown4 hgrow4 _
       obtain ⟨HP,cc,cf⟩:=HAD.out w4 v4 hown4 ⟨hgrow4.os,hgrow4.tape,hgrow4.output,hgrow4.size,hgrow4.block⟩
       obtain ⟨N4,C4,hv4,-⟩:=zai HP.h
       subst hv4
       have HP2:=Lib.hid (HP.below (zad (Below.refl _ _)))
       rw [show (hs++[x]).length=hs.length+1 by simp] at HP2
       clear hown4 hgrow4 HP))
    all_goals
     have hmc:(m:Int)≤(c':Int):=by have:=(HI2.out.t wr HE.out.b).lc;have:=HM.out;omega
     have hmc2:m≤c':=by omega
     have hm5:(1:Int)≤(m:Int):=by omega
     have hm6:1≤m:=by omega
     go_wp2_with fail
     go_region
     clear hmc hmc2 hm0 hm1 hm2 hm3 hm4 hm5 hm6 hk1 hk2 hb0
     go_wp2
     go_roundw
     case rel=>exact ⟨[110],r,_,_,hs++[x],ns,_,_,m-1,rfl,rfl,Lib.hid (by have:=HM.out;rw [List.length_cons] at this;omega),by simp,HP2,Lib.hid (rdi_host HI2.out)⟩
     case measure=>decide
   ·obtain ⟨ad,u,rfl,_,hu,hcx⟩:=(hI.out.t wr HE.out.b).r.at_ (k:=0) (by simp)
    obtain rfl:Value.string x=u:=by simpa [zak] using hu
    have HN1:=Lib.hid (HNum.out x wr HE.out.b (hI.out.z x (by simp)))
    have hcx:wr.cell? ad=some (.string x):=by cases ad;simpa [Addr.add] using hcx
    have hb0:(((⟨#[110,43]⟩:ByteArray)[0].toNat:Nat):Int)=110:=rfl
    have HI2:=hI
    clear hI hu
    have HRR:=hR
    clear hR
    go_wp2_with fail
    refine HN1.out.mono ?_
    rintro e w1 ⟨v,rfl,hb1,hv⟩
    have HR1:=Lib.hid (HRR.out.below hb1)
    have g0:=HR1.out.blk.cell 0
    have g1:=HR1.out.blk.cell 1
    have y0:=HR1.out.blk.frozen 0
    have y1:=HR1.out.blk.frozen 1
    cases hnx:numS x.data.toList with
    |none=>
     have HQ:=Lib.hid (HNo2.out _ (by rw [HI2.out.e];simp [zba,hnx]) (((HR1.out.b).setCell (p:=⟨W.heap.size,0,none⟩) (Nat.le_refl _) (.slice none 0 0)).setCell (p:=⟨W.heap.size,1,none⟩) (Nat.le_refl _) (.slice none 0 0)))
     have HKc:=(HR1.out.blk.zbk 0 (.slice none 0 0)).zbk 1 (.slice none 0 0)
     clear hnx hv
     go_wp2_with fail
     refine bodyPost_ret (zaU (P:=Tryz.prog) rfl _ _ W.heap.size _ _ (0,0) _ rfl HKc Tryz.underlying110 rfl (by kernel_rfl)) rfl ?_
     exact HQ.out
    |some n=>
     obtain rfl:=hv n hnx
     have HRW:=Lib.hid (own_below HR1.out.n ((Below.refl w1.heap.size w1).alloc (Nat.le_refl _) (.cells #[.int .i64 (n:Int)] 3)))
     have HNW:Hid (Reads (w1.alloc (.cells #[.int .i64 (n:Int)] 3)) (w1.alloc (.cells #[.int .i64 (n:Int)] 3)).heap.size 1 (some ⟨w1.heap.size,0,none⟩) 1 [.int .i64 (n:Int)]):=Lib.hid (zbq (Blk.new w1 3 [Value.int .i64 (n:Int)].toArray))
     have HSZ:Hid (W.heap.size+1≤(w1.alloc (.cells #[.int .i64 (n:Int)] 3)).heap.size):=Lib.hid (Nat.le_trans HR1.out.z ((Below.refl w1.heap.size w1).alloc (Nat.le_refl _) _).size)
     have HAD:=Lib.hid (fun w4 v'=>HR1.out.addN (w4:=w4) (v':=v') (n:=n))
     have HNX:=Lib.hid hnx
     clear hnx hv
     go_wp2_with (first
      |(at_builtin
        go_must (refine zac _ rfl (.tmp 42) (.tmp 44) _ rfl (W.heap.size+1) 3 i0 _ 1 8 Tryz.underlying29 hi0 hz0 hz1 hz2 rfl (by omega) (.slice Na ns.length Nc) ns.length (natsV ns) rfl HRW.out _ (some ⟨w1.heap.size,0,none⟩) 1 1 [.int .i64 (n:Int)] rfl HNW.out (by simp [Value.oneCell']) (by simp only [maxLen];omega) (by omega) HSZ.out ?_)
        intro v4 w4 hown4 hgrow4 _
        obtain ⟨HP,cc,cf⟩:=HAD.out w4 v4 hown4 hgrow4
        obtain ⟨N4,C4,hv4,-⟩:=zai HP.n
        subst hv4
        have HP2:=Lib.hid (HP.below (zad (Below.refl _ _)))
        rw [show (ns++[n]).length=ns.length+1 by simp] at HP2
        clear hown4 hgrow4 HP))
     have hmc:(m:Int)≤(c':Int):=by have:=(HI2.out.t wr HE.out.b).lc;have:=HM.out;omega
     have hmc2:m≤c':=by omega
     have hm5:(1:Int)≤(m:Int):=by omega
     have hm6:1≤m:=by omega
     go_region
     clear hmc hmc2 hm0 hm1 hm2 hm3 hm4 hm5 hm6 hk1 hk2 hb0
     go_wp2
     go_roundw
     case rel=>exact ⟨[43],r,_,_,hs,ns++[n],_,_,m-1,rfl,rfl,Lib.hid (by have:=HM.out;rw [List.length_cons] at this;omega),by simp,HP2,Lib.hid (rdi_num HI2.out HNX.out)⟩
     case measure=>decide
end Go.Proofs.YthkfhfldoniolaaGreatDoor
namespace Go.Proofs.YthkfhfldoniolaaGreatDoor
open Go.RowKit
def CdOk (c:Nat):Prop:=1≤c∧c≤8∧c≠7
theorem za1 {c:Nat} (h:c∈[1,2,3,4,5,6,8]):CdOk c:=by
 unfold CdOk
 simp only [List.mem_cons,List.not_mem_nil,or_false] at h
 omega
structure ErrsS (ea:Nat→Addr) (w:World):Prop where
 b:zbO ea w
 k:zcp ea w
 t:∀c,CdOk c→w.cell? (ea (gv c))=some (.string (ze8 c))
theorem ErrsS.below {ea:Nat→Addr} {w w':World} (h:ErrsS ea w) (hb:Below w.heap.size w w'):ErrsS ea w':=
 ⟨h.b.below hb,h.k.below hb,fun c hc=>(hb.cell (p:=ea (gv c)) (by
   have:=h.t c hc
   exact World.block_lt_of_cell? _ _ this)).trans (h.t c hc)⟩
def zcw (ea:Nat→Addr) (w:World) (ev:Value) (c:Nat):Prop:=(c=0∧ev= .nilIface)∨(CdOk c∧∃f t a,ev= .iface t (.pointer (some a))∧zd9 ea w f t a∧f.code=c)
theorem told_z {ea:Nat→Addr} {w:World} {c:Nat} (h:c=0∨CdOk c):zcw ea w (errZ ea c) c:=by
 rcases Nat.eq_zero_or_pos c with rfl|h0
 ·exact .inl ⟨rfl,rfl⟩
 ·refine .inr ⟨by rcases h with h|h;(omega);(exact h),⟨c,none⟩,_,_,errZ_some ea (by omega),⟨rfl,rfl⟩,rfl⟩
theorem faultGo_cd {l:List ByteArray} {f:Flt}:∀(n i:Nat),zbc l n i=some f→CdOk f.code
 |0,_,h=>by cases h
 |n+1,i,h=>by
  unfold zbc at h
  split at h
  ·cases h
  ·split at h
   ·obtain rfl:=Option.some.inj h
    exact za1 (by simp)
   ·split at h
    ·obtain rfl:=Option.some.inj h
     exact za1 (by simp)
    ·exact faultGo_cd n (i+1) h
theorem zdU {l:List ByteArray} {f:Flt} (h:zaf l=some f):CdOk f.code:=by
 unfold zaf at h
 split at h
 ·obtain rfl:=Option.some.inj h
  exact za1 (by simp)
 ·exact faultGo_cd _ _ h
theorem zaC {l:List ByteArray} {n:Int} {f:Flt} (h:zah l n=some f):CdOk f.code:=by
 unfold zah at h
 split at h
 ·obtain rfl:=Option.some.inj h
  exact za1 (by simp)
 ·split at h
  ·rename_i hf
   cases h
   exact zdU hf
  ·unfold zar at h
   split at h
   ·obtain rfl:=Option.some.inj h
    exact za1 (by simp)
   ·split at h
    ·cases h
    ·obtain rfl:=Option.some.inj h
     exact za1 (by simp)
theorem zd5 {a b:List ByteArray} {n:Int} {f:Flt} (h:zaz a b n=some f):CdOk f.code:=by
 unfold zaz at h
 split at h
 ·rename_i hf
  cases h
  exact zaC hf
 ·exact zaC h
theorem ringFault_cd {l:List ByteArray} {n:Int} {f:Flt} (h:zaH l n=some f):CdOk f.code:=by
 unfold zaH at h
 split at h
 ·obtain rfl:=Option.some.inj h
  exact za1 (by simp)
 ·split at h
  ·rename_i hf
   cases h
   exact zdU hf
  ·split at h
   ·cases h
   ·obtain rfl:=Option.some.inj h
    exact za1 (by simp)
theorem zfs {l:List ByteArray} {f:Flt} (h:zaM l=some f):CdOk f.code:=by
 unfold zaM at h
 split at h
 ·obtain rfl:=Option.some.inj h
  exact za1 (by simp)
 ·exact zdU h
theorem pickS_code (c:zb7) (s:BS) (k:Nat) (now:Int):(zbz c s k now).1.2.2=0∨CdOk (zbz c s k now).1.2.2:=by
 unfold zbz
 split
 ·split
  ·exact .inl rfl
  ·split
   ·exact .inr (za1 (by simp))
   ·exact .inl rfl
 ·show zbL s.fs.1 now=0∨CdOk (zbL s.fs.1 now)
  unfold zbL
  split
  ·exact .inr (za1 (by simp))
  ·split
   ·exact .inr (za1 (by simp))
   ·exact .inl rfl
theorem remCode_code (l:List ByteArray) (x:ByteArray):zb5 l x=0∨CdOk (zb5 l x):=by
 unfold zb5
 split
 ·exact .inl rfl
 ·exact .inr (za1 (by simp))
def za3 (B:Nat) (W w':World):Prop:=∃bs,zam bs W w'∧∀b∈bs,B≤b∧∀t cs,Blk W b t cs→t≠9
section
variable {W W' W1:World} {B:Nat}
theorem za3.refl (B:Nat) (W:World):za3 B W W:=⟨[],zam.refl _ _,fun b hb=>by simp at hb⟩
theorem za3.zd6 (h:za3 B W W1) (hb:Below W1.heap.size W1 W'):za3 B W W':=by
 obtain ⟨bs,h1,hs⟩:=h
 exact ⟨bs,h1.zd6 hb,hs⟩
theorem za3.of_below (hb:Below W.heap.size W W'):za3 B W W':=(za3.refl B W).zd6 hb
theorem za3.then (h:za3 B W W1) (h2:za3 B W1 W'):za3 B W W':=by
 obtain ⟨bs,ht,hs⟩:=h
 obtain ⟨cs,ht2,hs2⟩:=h2
 refine ⟨bs++cs.filter (fun b=>decide (b<W.heap.size∧b∉bs)),(ht.more fun b hb=>List.mem_append.2 (.inl hb)).trans ht2 (fun c hc=> ?_),fun b hm=> ?_⟩
 ·by_cases hlt:c<W.heap.size
  ·by_cases hin:c∈bs
   ·exact .inl (List.mem_append.2 (.inl hin))
   ·exact .inl (List.mem_append.2 (.inr (List.mem_filter.2 ⟨hc,by simp [hlt,hin]⟩)))
  ·exact .inr (by omega)
 ·rcases List.mem_append.1 hm with h1|h1
  ·exact hs b h1
  ·obtain ⟨h3,h4⟩:=List.mem_filter.1 h1
   simp only [decide_eq_true_eq] at h4
   exact ⟨(hs2 b h3).1,fun t cs' hC=>(hs2 b h3).2 t cs' (ht.blk hC h4.2)⟩
theorem za3.from_ (h:za3 B W1 W') (hb:Below W.heap.size W W1):za3 B W W':=(za3.of_below hb).then h
theorem za3.own (h:za3 B W W') {b k size:Nat} {v:Value} {xs:List Value} (ho:W.ownsRow b 9 size v k xs):W'.ownsRow b 9 size v k xs:=by
 obtain ⟨bs,ht,hb⟩:=h
 exact ht.own ho fun g hg hm=>by
  obtain ⟨cs,hC⟩:=zbE ho hg
  exact (hb g hm).2 _ _ hC rfl
theorem za3.below (h:za3 B W W') (hB:B≤W.heap.size):Below B W W':=by
 obtain ⟨bs,ht,hb⟩:=h
 exact ht.below hB fun b hm=>(hb b hm).1
end
structure PlI (hs:List ByteArray) (k now:Nat) (s:BS):Prop where
 ok:BOk (cS hs)
 st:hosts s.st=hs
 rise:zde s.fs.2
 last:s.fs.1≤now
 nw:now≤10000000*k
 ep:s.epoch≤k
 nd:s.nd≤k
 fl:∀y∈s.fs.2,y.host∈hs∧0≤y.til∧y.til≤(now:Int)+20∧U64 y.key
structure PlM (av:Nat→Prop) (ea:Nat→Addr) (w W:World) (pp lo hi:Nat) (p:BPl) (hv:Value) (hs:List ByteArray) (s:BS) (now:Nat):Prop where
 blk:Blk W pp 77 #[.pointer (some ⟨p.bp,0,none⟩),hv,.int .i64 (now:Int)]
 b:BNow ea w W lo hi p (cS hs) s
 row:W.ownsRow w.heap.size 9 1 hv hs.length (zak hs)
 pl:w.heap.size≤pp
 sep:pp∉p.all
 far:∀g,av g→g∉p.all∧hv.ownBlock≠some g
def zaX (av:Nat→Prop) (ea:Nat→Addr) (w W:World) (pp k:Nat) (s:PlS):Prop:=match s.b with
 |none=>Blk W pp 77 #[.pointer none,.slice none 0 0,.int .i64 0]∧s.now=0∧Below w.heap.size w W∧zbO ea W∧w.heap.size≤pp
 |some hb=>PlI hb.1 k s.now hb.2∧∃lo hi p hv,PlM av ea w W pp lo hi p hv hb.1 hb.2 s.now
section
variable {av:Nat→Prop} {ea:Nat→Addr} {w W W':World} {pp lo hi k now now':Nat} {p:BPl} {hv:Value} {hs:List ByteArray} {s s':BS}
theorem zaR.outS {lo:Nat} {c:zb7} {g:Nat} {ty:TypeId} {cs:Array Value} (h:zaR W lo p c s) (hB:Blk W g ty cs) (h1:ty≠166) (h2:ty≠257) (h3:ty≠225):g∉p.bs:=by
 intro hm
 unfold BPl.bs at hm
 obtain ⟨es,cl,hmb⟩:=h.f.map.heap
 obtain ⟨es2,cl2,hdb⟩:=h.d.heap
 simp only [List.mem_cons] at hm
 rcases hm with rfl|rfl|rfl|rfl|hm
 ·exact hB.ne_ h.blk h1 rfl
 ·exact hB.ne_ h.f.blk h2 rfl
 ·exact zaV hmb hB rfl
 ·exact zaV hdb hB rfl
 ·obtain ⟨x,hx⟩:=h.pbs hm
  exact hB.ne_ hx h3 rfl
theorem PlM.below (h:PlM av ea w W pp lo hi p hv hs s now) (hb:Below W.heap.size W W'):PlM av ea w W' pp lo hi p hv hs s now:=
 ⟨h.blk.below hb h.blk.lt,h.b.below hb,own_below h.row hb,h.pl,h.sep,h.far⟩
theorem PlM.act {bs:List Nat} (h:PlM av ea w W pp lo hi p hv hs s now) (hb:BNow ea w W' lo hi p (cS hs) s') (ht:zam bs W W') (hs':∀b∈bs,b∈p.bs):PlM av ea w W' pp lo hi p hv hs s' now∧za3 w.heap.size W W':=by
 have hpp:pp∉bs:=fun hm=>h.b.b.outS h.blk (by decide) (by decide) (by decide) (hs' _ hm)
 refine ⟨⟨ht.blk h.blk hpp,hb,ht.own h.row fun g hg hm=> ?_,h.pl,h.sep,h.far⟩,bs,ht,fun b hm=>⟨Nat.le_trans h.b.le (h.b.b.bsLo b (hs' b hm)),fun t cs hC e=> ?_⟩⟩
 ·obtain ⟨cs,hC⟩:=zbE h.row hg
  exact h.b.b.outS hC (by decide) (by decide) (by decide) (hs' _ hm)
 ·subst e
  exact h.b.b.outS hC (by decide) (by decide) (by decide) (hs' _ hm)
theorem PlM.tick (hE:zbO ea w) (h:PlM av ea w W pp lo hi p hv hs s now) (now':Nat):PlM av ea w (W.setCell ⟨pp,2,none⟩ (.int .i64 (now':Int))) pp lo hi p hv hs s now'∧za3 w.heap.size W (W.setCell ⟨pp,2,none⟩ (.int .i64 (now':Int))):=by
 have ht:zam [pp] W (W.setCell ⟨pp,2,none⟩ (.int .i64 (now':Int))):=(zam.refl _ _).setCell (p:=⟨pp,2,none⟩) (.inl (by simp)) _
 have hpl:=h.pl
 refine ⟨⟨h.blk.zbk 2 _,h.b.far hE ht fun b hb=> ?_,ht.own h.row fun g hg hm=> ?_,h.pl,h.sep,h.far⟩,[pp],ht,fun b hb=> ?_⟩
 ·rw [List.mem_singleton] at hb
  subst hb
  exact ⟨hpl,h.sep⟩
 ·obtain ⟨cs,hC⟩:=zbE h.row hg
  exact hC.ne_ h.blk (by decide) (List.mem_singleton.1 hm)
 ·rw [List.mem_singleton] at hb
  subst hb
  exact ⟨hpl,fun t cs hC e=>hC.ne_ h.blk (by rw [e];decide) rfl⟩
theorem zaX.below {s:PlS} (h:zaX av ea w W pp k s) (hb:Below W.heap.size W W'):zaX av ea w W' pp k s:=by
 unfold zaX at h ⊢
 split
 ·rename_i e
  rw [e] at h
  exact ⟨h.1.below hb h.1.lt,h.2.1,zaa h.2.2.1 hb,h.2.2.2.1.below hb,h.2.2.2.2⟩
 ·rename_i hb' e
  rw [e] at h
  obtain ⟨h1,lo,hi,p,hv,h2⟩:=h
  exact ⟨h1,lo,hi,p,hv,h2.below hb⟩
end
def zae (av:Nat→Prop) (ea:Nat→Addr) (w:World) (pp k:Nat) (r:(Nat×ByteArray)×PlS) (W:World) (e:Ending) (w':World):Prop:=
 ∃t ev,e= .returned (.tuple #[.string t,ev])∧zcw ea w' ev r.1.1∧(r.1.1=0→t=r.1.2)∧zaX av ea w w' pp k r.2∧za3 w.heap.size W w'
end Go.Proofs.YthkfhfldoniolaaGreatDoor
