/-
  An argument that is a slice of structs (the lemma that the kit lays out for copying). Acts on a balance as an argument. Lines of a script as an argument.
-/
import Derived.Test.YthkfhfldoniolaaGreatDoorLaidA
import Derived.Deep.Slices
import Derived.Deep.Fields
import Derived.ChangeSame
import Derived.Test.YthkfhfldoniolaaGreatDoorLists
import Derived.Test.YthkfhfldoniolaaGreatDoorBaseA
namespace Go.Proofs.YthkfhfldoniolaaGreatDoor
open Go.ChangeShapes Go.WideShapes Go.Deep
section
variable {H:Type} {enc:TypeId×Value→H} {P:Program} {w:World} {base:Nat} {spare:Nat→Bool} {held:Bool}
theorem open_slice_fields {t e:TypeId} {fs:Array Field} {fuel:Nat} {cs:List Value} {x:DataW H×List MemPlace} (ht:P.underlying t=some (.slice e)) (he:P.underlying e=some (.struct fs))
 (hone:oneCellFields P fs=true) (hC:P.cellsOf e=fs.size) (h:DataW.trod enc P w base spare held fuel t cs=some x):
 (cs=[.slice none 0 0]∧x=(.nil,[]))∨
 ∃(a:Addr) (len cap m:Nat) (D:Nat→DataW H) (Pl:Nat→List MemPlace),cs=[.slice (some a) len cap]∧base≤a.block∧len≤cap∧cap≤maxLen∧m=(if spare a.block then cap else len)∧
  x=(.slice ((List.range len).map D) ((List.range (m-len)).map fun j=>D (len+j)),MemPlace.row a (m*fs.size)++(List.range m).flatMap Pl)∧
  ∀i,i<m→∃(ys:List (DataW H×List MemPlace)) (n:Nat),D i= .agg (ys.map (·.1))∧Pl i=ys.flatMap (·.2)∧ys.length=fs.size∧
   ∀(j:Nat) (f:Field),fs[j]? =some f→∃(v:Value) (y:DataW H×List MemPlace),w.cell? (a.add (i*fs.size+j))=some v∧ys[j]? =some y∧DataW.trod enc P w base spare held n f.type [v]=some y:=by
 rcases open_slice ht h with h0|⟨a,len,cap,m,n,D,Pl,hcs,hb,hl,hm,hmm,hx,hi⟩
 ·exact .inl h0
 ·refine .inr ⟨a,len,cap,m,D,Pl,hcs,hb,hl,hm,hmm,by rw [hC] at hx;exact hx,fun i him=> ?_⟩
  obtain ⟨cs',hc,ht'⟩:=hi i him
  rw [hC] at hc
  obtain ⟨ys,n',hn',hy,hlen,hyl,hf⟩:=DataW.trod_struct he ht'
  obtain ⟨_,hcl,hat⟩:=World.cells?_some hc
  simp only [Prod.mk.injEq] at hy
  refine ⟨ys,n',hy.1,hy.2,hyl,fun j f hj=> ?_⟩
  obtain ⟨ho,hk⟩:=hone_of hone j f hj
  have hjl:j<fs.size:=(Array.getElem?_eq_some_iff.1 hj).1
  have hcell:=hat j hjl
  have hv:cs'[j]? =some (cs'[j]'(by omega)):=List.getElem?_eq_getElem (by omega)
  have h1:=hf j f hj
  rw [ho,hk] at h1
  have hone':(cs'.drop j).take 1=[cs'[j]'(by omega)]:=by
   rw [List.drop_eq_getElem_cons (by omega)]
   rfl
  rw [hone'] at h1
  have hys:ys[j]? =some (ys[j]'(by omega)):=List.getElem?_eq_getElem (by omega)
  refine ⟨_,_, ?_,hys,h1.trans hys⟩
  rw [←Go.Deep.add_add,hcell,hv]
end
theorem list_of {α:Type} {P:Nat→α→Prop}:∀(n:Nat),(∀i,i<n→∃a,P i a)→∃l:List α,l.length=n∧∀(i:Nat) (a:α),l[i]? =some a→P i a
 |0,_=>⟨[],rfl,fun i a h=>by simp at h⟩
 |n+1,h=>by
   obtain ⟨l,hl,hp⟩:=list_of n fun i hi=>h i (by omega)
   obtain ⟨x,hx⟩:=h n (by omega)
   refine ⟨l++[x],by simp [hl],fun i a ha=> ?_⟩
   by_cases hi:i<l.length
   ·rw [List.getElem?_append_left hi] at ha;exact hp i a ha
   ·rw [List.getElem?_append_right (by omega)] at ha
    have h0:i-l.length=0:=by
     rcases Nat.eq_zero_or_pos (i-l.length) with h0|h0
     ·exact h0
     ·rw [List.getElem?_eq_none (by simp;omega)] at ha;cases ha
    rw [h0] at ha
    cases ha
    have:i=n:=by omega
    subst this
    exact hx
end Go.Proofs.YthkfhfldoniolaaGreatDoor
namespace Go.Proofs.YthkfhfldoniolaaGreatDoor
open Go.ChangeShapes Go.WideShapes Go.Deep Go.RowKit
structure BAct where
 kind:ByteArray
 host:ByteArray
 text:ByteArray
 key:Nat
 now:Int
 is:Bool
structure BActOk (a:BAct):Prop where
 s:a.host.size≤maxLen
 t:a.text.size≤maxLen
 u:U64 a.key
 n: -9223372036854775808≤a.now∧a.now≤9223372036854775807
structure BActAt (W:World) (ad:Addr) (k:Nat) (a:BAct):Prop where
 c0:W.cell? (ad.add (k*6))=some (.string a.kind)
 c1:W.cell? ⟨(ad.add (k*6)).block,(ad.add (k*6)).off+1,none⟩=some (.string a.host)
 c2:W.cell? ⟨(ad.add (k*6)).block,(ad.add (k*6)).off+2,none⟩=some (.string a.text)
 c3:W.cell? ⟨(ad.add (k*6)).block,(ad.add (k*6)).off+3,none⟩=some (.int .u64 (a.key:Int))
 c4:W.cell? ⟨(ad.add (k*6)).block,(ad.add (k*6)).off+4,none⟩=some (.int .i64 a.now)
 c5:W.cell? ⟨(ad.add (k*6)).block,(ad.add (k*6)).off+5,none⟩=some (.bool a.is)
end Go.Proofs.YthkfhfldoniolaaGreatDoor
namespace Go.Proofs.YthkfhfldoniolaaGreatDoor
open Go.ChangeShapes Go.WideShapes Go.Deep Go.RowKit
section
variable {H:Type} {enc:TypeId×Value→H} {P:Program} {W:World} {T E:TypeId} {v:Value} {fuel:Nat} {x:DataW H×List MemPlace}
theorem cell_ints {k:IntKind} (ht:P.underlying T=some (.slice E)) (he:P.underlying E=some (.int k)) (hc:P.cellsOf E=1)
 (hf:DataW.trod enc P W 0 (fun _=>true) true fuel T [v]=some x) (hlt:∀y∈x.2,y.block<W.heap.size):
 ∃(A:Option Addr) (cap:Nat) (zs:List Int),v= .slice A zs.length cap∧Reads W W.heap.size 1 A zs.length (zs.map (Value.int k))∧zs.length≤cap∧cap≤maxLen∧∀n∈zs,(Lit.int k n).wf=true:=by
 rcases open_ints ht he hc hf with ⟨hcs,hx⟩|⟨a,len',cap',zs,hcs,_,hl,hm,hz,hx,hcell,hwz⟩
 ·obtain rfl:v= .slice none 0 0:=by simpa using hcs
  exact ⟨none,0,[],rfl,Reads.none_,Nat.le_refl _,Nat.zero_le _,by simp⟩
 ·obtain rfl:v= .slice (some a) len' cap':=by simpa using hcs
  simp only [if_true] at hz
  have hlen:(zs.take len').length=len':=by rw [List.length_take];omega
  have hp:x.2=MemPlace.row a zs.length:=by rw [hx]
  refine ⟨some a,cap',zs.take len',by rw [hlen],⟨by simp,fun hn=>⟨a,rfl, ?_,fun j u hu=> ?_⟩⟩,by omega,hm,fun n hn=>hwz n (List.mem_of_mem_take hn)⟩
  ·rw [hlen] at hn
   exact hlt (.cell a.block (a.off+0)) (by rw [hp];unfold MemPlace.row;exact List.mem_map.2 ⟨0,List.mem_range.2 (by omega),rfl⟩)
  ·rw [List.getElem?_map] at hu
   cases hz':(zs.take len')[j]? with
   |none=>rw [hz'] at hu;cases hu
   |some z=>
    rw [hz'] at hu
    have hu':Value.int k z=u:=Option.some.inj hu
    have hz2:zs[j]? =some z:=by
     rw [List.getElem?_take] at hz'
     split at hz'
     ·exact hz'
     ·cases hz'
    have hj:j<zs.length:=by
     rcases Nat.lt_or_ge j zs.length with h|h
     ·exact h
     ·rw [List.getElem?_eq_none h] at hz2;cases hz2
    rw [hcell j hj]
    rw [←hu']
    simp [hz2]
theorem cell_strings (ht:P.underlying T=some (.slice E)) (he:P.underlying E=some .string) (hc:P.cellsOf E=1)
 (hf:DataW.trod enc P W 0 (fun _=>true) true fuel T [v]=some x) (hlt:∀y∈x.2,y.block<W.heap.size):
 ∃(A:Option Addr) (cap:Nat) (ss:List ByteArray),v= .slice A ss.length cap∧Reads W W.heap.size 1 A ss.length (ss.map Value.string)∧ss.length≤cap∧cap≤maxLen∧∀s∈ss,s.size≤maxLen:=by
 rcases open_strings ht he hc hf with ⟨hcs,hx⟩|⟨a,len',cap',ss,hcs,_,hl,hm,hz,hx,hcell,hwz⟩
 ·obtain rfl:v= .slice none 0 0:=by simpa using hcs
  exact ⟨none,0,[],rfl,Reads.none_,Nat.le_refl _,Nat.zero_le _,by simp⟩
 ·obtain rfl:v= .slice (some a) len' cap':=by simpa using hcs
  simp only [if_true] at hz
  have hlen:(ss.take len').length=len':=by rw [List.length_take];omega
  have hp:x.2=MemPlace.row a ss.length:=by rw [hx]
  refine ⟨some a,cap',ss.take len',by rw [hlen],⟨by simp,fun hn=>⟨a,rfl, ?_,fun j u hu=> ?_⟩⟩,by omega,hm,fun n hn=>hwz n (List.mem_of_mem_take hn)⟩
  ·rw [hlen] at hn
   exact hlt (.cell a.block (a.off+0)) (by rw [hp];unfold MemPlace.row;exact List.mem_map.2 ⟨0,List.mem_range.2 (by omega),rfl⟩)
  ·rw [List.getElem?_map] at hu
   cases hz':(ss.take len')[j]? with
   |none=>rw [hz'] at hu;cases hu
   |some z=>
    rw [hz'] at hu
    have hu':Value.string z=u:=Option.some.inj hu
    have hz2:ss[j]? =some z:=by
     rw [List.getElem?_take] at hz'
     split at hz'
     ·exact hz'
     ·cases hz'
    have hj:j<ss.length:=by
     rcases Nat.lt_or_ge j ss.length with h|h
     ·exact h
     ·rw [List.getElem?_eq_none h] at hz2;cases hz2
    rw [hcell j hj]
    rw [←hu']
    simp [hz2]
end
structure zcT where
 word:ByteArray
 h:List ByteArray
 n:List Int
 A:Option Addr
 c:Nat
 A2:Option Addr
 c2:Nat
def slC (x:zcT):List Value:=[.string x.word,.slice x.A x.h.length x.c,.slice x.A2 x.n.length x.c2]
def slsC (l:List zcT):List Value:=l.flatMap slC
structure zc3 (W:World) (x:zcT):Prop where
 w:x.word.size≤maxLen
 r:Reads W W.heap.size 1 x.A x.h.length (zak x.h)
 hc:x.h.length≤x.c
 hm:x.c≤maxLen
 s:∀y∈x.h,y.size≤maxLen
 r2:Reads W W.heap.size 1 x.A2 x.n.length (x.n.map intV)
 hc2:x.n.length≤x.c2
 hm2:x.c2≤maxLen
 nb:∀v∈x.n,-9223372036854775808≤v∧v≤9223372036854775807
theorem slsC_length (l:List zcT):(slsC l).length=l.length*3:=by
 induction l with
 |nil=>rfl
 |cons x l ih=>
  have:(slsC (x::l)).length=(slsC l).length+3:=by simp [slsC,slC]
  rw [this,ih,List.length_cons];omega
theorem slsC_inv:∀(l:List zcT) (j:Nat) (u:Value),(slsC l)[j]? =some u→∃k a,l[k]? =some a∧((j=k*3∧u= .string a.word)∨(j=k*3+1∧u= .slice a.A a.h.length a.c)∨(j=k*3+2∧u= .slice a.A2 a.n.length a.c2))
 |[],_,_,h=>by simp [slsC] at h
 |x::l,0,u,h=>by cases h;exact ⟨0,x,rfl,.inl ⟨rfl,rfl⟩⟩
 |x::l,1,u,h=>by cases h;exact ⟨0,x,rfl,.inr (.inl ⟨rfl,rfl⟩)⟩
 |x::l,2,u,h=>by cases h;exact ⟨0,x,rfl,.inr (.inr ⟨rfl,rfl⟩)⟩
 |x::l,j+3,u,h=>by
   obtain ⟨k,a,hk,h'⟩:=slsC_inv l j u h
   rcases h' with ⟨h1,h2⟩|⟨h1,h2⟩|⟨h1,h2⟩
   ·exact ⟨k+1,a,hk,.inl ⟨by omega,h2⟩⟩
   ·exact ⟨k+1,a,hk,.inr (.inl ⟨by omega,h2⟩)⟩
   ·exact ⟨k+1,a,hk,.inr (.inr ⟨by omega,h2⟩)⟩
theorem slsC_at:∀(l:List zcT) (k:Nat) (a:zcT),l[k]? =some a→(slsC l)[k*3]? =some (.string a.word)∧(slsC l)[k*3+1]? =some (.slice a.A a.h.length a.c)∧(slsC l)[k*3+2]? =some (.slice a.A2 a.n.length a.c2)
 |[],_,_,h=>by cases h
 |x::l,0,a,h=>by cases h;exact ⟨rfl,rfl,rfl⟩
 |x::l,k+1,a,h=>by
   have:=slsC_at l k a h
   rw [show (k+1)*3=k*3+1+1+1 by omega]
   exact this
structure SLineAt (W:World) (ad:Addr) (k:Nat) (a:zcT):Prop where
 c0:W.cell? (ad.add (k*3))=some (.string a.word)
 c1:W.cell? ⟨(ad.add (k*3)).block,(ad.add (k*3)).off+1,none⟩=some (.slice a.A a.h.length a.c)
 c2:W.cell? ⟨(ad.add (k*3)).block,(ad.add (k*3)).off+2,none⟩=some (.slice a.A2 a.n.length a.c2)
theorem sLineAt_of {w W:World} {A:Option Addr} {l:List zcT} {k:Nat} (h:Reads w w.heap.size 3 A l.length (slsC l)) (hb:Below w.heap.size w W) (hk:k<l.length):∃ad,A=some ad∧SLineAt W ad k l[k]:=by
 obtain ⟨ad,rfl,hbl,hc⟩:=h.2 (by omega)
 obtain ⟨x,y,z⟩:=slsC_at l k l[k] (List.getElem?_eq_getElem hk)
 have e:∀i,0<i→ad.add (k*3+i)=⟨(ad.add (k*3)).block,(ad.add (k*3)).off+i,none⟩:=fun i hi=>by
  rw [←add_of_add]
  conv=>lhs;unfold Addr.add
  rw [if_neg (by omega)]
  rfl
 refine ⟨ad,rfl, ?_, ?_, ?_⟩
 ·rw [hb.cell (by rw [zaN];exact hbl)];exact hc _ _ x
 ·rw [←e 1 (by omega),hb.cell (by rw [zaN];exact hbl)];exact hc _ _ y
 ·rw [←e 2 (by omega),hb.cell (by rw [zaN];exact hbl)];exact hc _ _ z
theorem zc3.below {w W:World} {x:zcT} (h:zc3 w x) (hb:Below w.heap.size w W):zc3 W x:=
 ⟨h.w,(h.r.below hb).more hb.size,h.hc,h.hm,h.s,(h.r2.below hb).more hb.size,h.hc2,h.hm2,h.nb⟩
set_option maxRecDepth 100000 in
theorem arg_lines {H:Type} {enc:TypeId×Value→H} {W:World} {base:Nat} {v:Value} {d:DataW H} {p:List MemPlace}
 (hok:Value.okWide Tryz.prog W .any base 22 v) (hj:DataW.Trod enc Tryz.prog W 0 (fun _=>true) true 22 v d p) (hlt:∀x∈p,x.block<W.heap.size):
 ∃(A:Option Addr) (cap:Nat) (l:List zcT),v= .slice A l.length cap∧Reads W W.heap.size 3 A l.length (slsC l)∧l.length≤maxLen∧∀a∈l,zc3 W a:=by
 obtain ⟨a0,len,cap,rfl⟩:=okWide_slice Tryz.underlying22 hok
 obtain ⟨fuel,hf⟩:=hj
 rcases open_slice_fields Tryz.underlying22 Tryz.underlying31 (by kernel_rfl) (by kernel_rfl) hf with ⟨hcs,hx⟩|⟨a,len',cap',m,D,Pl,hcs,_,hl,hm,hmm,hx,hi⟩
 ·have hcs':Value.slice a0 len cap= .slice none 0 0:=by simpa [Value.cells] using hcs
  rw [hcs']
  exact ⟨none,0,[],rfl,Reads.none_,Nat.zero_le _,fun _ h=>by cases h⟩
 ·have hcs':Value.slice a0 len cap= .slice (some a) len' cap':=by simpa [Value.cells] using hcs
  rw [hcs']
  simp only [if_true] at hmm
  have hp':p=MemPlace.row a (m*3)++(List.range m).flatMap Pl:=(Prod.mk.inj hx).2
  obtain ⟨l,hll,hp⟩:=list_of (P:=fun i (x:zcT)=>W.cell? (a.add (i*3))=some (.string x.word)∧W.cell? (a.add (i*3+1))=some (.slice x.A x.h.length x.c)∧W.cell? (a.add (i*3+2))=some (.slice x.A2 x.n.length x.c2)∧zc3 W x) len' (fun i hil=>by
   obtain ⟨ys,n,_,hpl,_,hfs⟩:=hi i (by omega)
   have hsub:∀y∈ys,∀z∈y.2,z.block<W.heap.size:=fun y hy z hz=>hlt z (by
    rw [hp']
    refine List.mem_append_right _ (List.mem_flatMap.2 ⟨i,List.mem_range.2 (by omega), ?_⟩)
    rw [hpl]
    exact List.mem_flatMap.2 ⟨y,hy,hz⟩)
   obtain ⟨v0,y0,c0,_,t0⟩:=hfs 0 _ rfl
   obtain ⟨v1,y1,c1,m1,t1⟩:=hfs 1 _ rfl
   obtain ⟨v2,y2,c2,m2,t2⟩:=hfs 2 _ rfl
   obtain ⟨s0,e0,_,z0⟩:=DataW.trod_string Tryz.underlying9 t0
   obtain ⟨A1,k1,ss,rfl,r1,h1,g1,q1⟩:=cell_strings Tryz.underlying24 Tryz.underlying9 (by kernel_rfl) t1 (hsub _ (List.mem_of_getElem? m1))
   obtain ⟨A2,k2,zs,rfl,r2,h2,g2,q2⟩:=cell_ints Tryz.underlying29 Tryz.underlying3 (by kernel_rfl) t2 (hsub _ (List.mem_of_getElem? m2))
   cases e0
   exact ⟨⟨s0,ss,zs,A1,k1,A2,k2⟩,c0,c1,c2,z0,r1,h1,g1,q1,r2,h2,g2,fun v hv=>bounds_i64 (q2 v hv)⟩)
  refine ⟨some a,cap',l,by rw [hll],⟨slsC_length l,fun hn=>⟨a,rfl, ?_,fun j u hu=> ?_⟩⟩,by omega,fun x hx=> ?_⟩
  ·exact hlt (.cell a.block (a.off+0)) (by rw [hp'];refine List.mem_append_left _ ?_;unfold MemPlace.row;exact List.mem_map.2 ⟨0,List.mem_range.2 (by omega),rfl⟩)
  ·obtain ⟨k,x,hk,h⟩:=slsC_inv l j u hu
   obtain ⟨c0,c1,c2,_⟩:=hp k x hk
   rcases h with ⟨rfl,rfl⟩|⟨rfl,rfl⟩|⟨rfl,rfl⟩
   ·exact c0
   ·exact c1
   ·exact c2
  ·obtain ⟨i,hi',rfl⟩:=List.mem_iff_getElem.1 hx
   exact (hp i l[i] (List.getElem?_eq_getElem hi')).2.2.2
end Go.Proofs.YthkfhfldoniolaaGreatDoor
