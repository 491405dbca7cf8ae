/-
  Package script: begin. Package script: a line's words; what a command does. Package script: play, the lines "hosts" and "jump". Package script: play, the other lines (printed by wip/gen/genplay.py).
-/
import Derived.Test.YthkfhfldoniolaaGreatDoorScrActs
set_option maxHeartbeats 1000000
namespace Go.Proofs.YthkfhfldoniolaaGreatDoor
open Go.RowKit
def NilBad (ea:Nat→Addr) (f:Flt) (w:World) (e:Ending) (w':World):Prop:=∃t a,e= .returned (.tuple #[.pointer none,.iface t (.pointer (some a))])∧zd9 ea w' f t a∧Below w.heap.size w w'
set_option maxRecDepth 100000 in
theorem new_bad {ea:Nat→Addr} {A:Option Addr} {c:Nat} {l:List ByteArray} {f:Flt} (fall rise:Int) (w:World) (hE:zfo ea w) (hT:zcr w A c l) (hf:zaf l=some f):
 Calls Tryz.prog 132 #[.slice A l.length c,.int .i64 fall,.int .i64 rise] w (NilBad ea f w):=by
 have HC:Hid (Calls Tryz.prog 137 #[.slice A l.length c] w (zfa ea f w)):=Lib.hid ((zdD ea A c _ l w hE hT.r (Nat.le_refl _) hT.lc hT.lm hT.s).mono fun e w' h=>by
  unfold zby at h;rw [hf] at h;exact h)
 unfold zfa at HC
 clear hE hf hT
 unfold NilBad
 go_enter Tryz.func132,Tryz.ntmps132
 go_wp2_with fail
 refine HC.out.mono ?_
 rintro e w1 ⟨t,a,rfl,hi,hb⟩
 go_wp2
 go_ret2
 exact ⟨t,a,rfl,hi,hb⟩
set_option maxRecDepth 100000 in
theorem bal_bad {ea:Nat→Addr} {A:Option Addr} {c:Nat} {l:List ByteArray} {f:Flt} (w:World) (hE:zbO ea w) (hT:zcr w A c l) (hf:zaM l=some f):
 Calls Tryz.prog 82 #[.slice A l.length c,.int .i64 31,.int .i64 20,.int .i64 2,.int .i64 2] w (NilBad ea f w):=by
 by_cases h0:l=[]
 ·subst h0
  obtain rfl:(⟨5,none⟩:Flt)=f:=by
   unfold zaM at hf
   rw [if_pos rfl] at hf
   exact Option.some.inj hf
  have c5:w.cell? ⟨2,0,none⟩=some (.iface 355 (.pointer (some (ea (gv 5))))):=hE.t.c5
  have HQ:Hid (∀w',Below w.heap.size w w'→NilBad ea ⟨5,none⟩ w (.returned (.tuple #[.pointer none,.iface 355 (.pointer (some (ea (gv 5))))])) w'):=Lib.hid fun w' hb=>⟨_,_,rfl,⟨rfl,rfl⟩,hb⟩
  generalize NilBad ea ⟨5,none⟩ w=PQ at*
  clear hE hT hf
  go_enter Tryz.func82,Tryz.ntmps82
  go_wp2_with fail
  go_region
  go_wp2
  exact HQ.out _ (by first|exact Below.refl _ _|exact zad (Below.refl _ _)|exact zab (zad (Below.refl _ _)))
 ·have hl:¬(l.length:Int)=0:=by
   have:=List.length_pos_iff.2 h0
   omega
  have hf':zaf l=some f:=by
   unfold zaM at hf
   rwa [if_neg h0] at hf
  have HN:=Lib.hid (new_bad 2 2 w hE.t.e3 hT hf')
  unfold NilBad at HN ⊢
  clear hE hT hf hf'
  go_enter Tryz.func82,Tryz.ntmps82
  go_wp2_with fail
  refine HN.out.mono ?_
  rintro e w1 ⟨t,a,rfl,hi,hb⟩
  go_wp2
  go_ret2
  exact ⟨t,a,rfl,hi,hb⟩
section
variable {av:Nat→Prop} {ea:Nat→Addr} {w W W':World} {pp k:Nat} {s:PlS}
theorem zaX.base (h:zaX av ea w W pp k s):(∃a b c,Blk W pp 77 #[a,b,c])∧Below w.heap.size w W∧zbO ea W∧w.heap.size≤pp:=by
 unfold zaX at h
 split at h
 ·exact ⟨⟨_,_,_,h.1⟩,h.2.2.1,h.2.2.2.1,h.2.2.2.2⟩
 ·obtain ⟨_,lo,hi,p,hv,h2⟩:=h
  exact ⟨⟨_,_,_,h2.blk⟩,h2.b.w,h2.b.e,h2.pl⟩
theorem zaX.more (h:zaX av ea w W pp k s):zaX av ea w W pp (k+1) s:=by
 unfold zaX at h ⊢
 split
 ·rename_i e
  rw [e] at h
  exact h
 ·rename_i hb e
  rw [e] at h
  exact ⟨h.1.more,h.2⟩
theorem bok_S {hs:List ByteArray} (h:zaM hs=none):BOk (cS hs):=by
 unfold zaM at h
 split at h
 ·cases h
 ·rename_i h0
  have h1:=List.length_pos_iff.2 h0
  exact ⟨h,h1,size_ok h h1 (size_prime (n:=31) (by decide) (by decide) (by decide+kernel)),by show 1≤20;decide,by show 20≤1000;decide,by show 1≤2;decide,by show 2≤10;decide,by show 1≤2;decide,by show 2≤10;decide⟩
theorem plI_new {hs:List ByteArray} (h:zaM hs=none):PlI hs k 0 (newS (cS hs)):=
 ⟨bok_S h,zfl _,List.Pairwise.nil,Nat.le_refl _,Nat.zero_le _,Nat.zero_le _,Nat.zero_le _,fun y hy=>by cases hy⟩
theorem begin_end {hs:List ByteArray} {p:BPl} {w1 w2:World} {Ac:Option Addr} {cc:Nat} (hav:∀g,av g→g<W.heap.size) (hE:zbO ea w) (hP:zaX av ea w W pp k s) (hbf:zaM hs=none) (hN:BNow ea w w1 W.heap.size w1.heap.size p (cS hs) (newS (cS hs))) (hb1:Below W.heap.size W w1)
 (hrow:w2.ownsRow w1.heap.size 9 1 (.slice Ac hs.length cc) hs.length (zak hs)) (hb2:Below w1.heap.size w1 w2):
 zae av ea w pp (k+1) (zbt s hs) W (.returned (.tuple #[.string sOk,.nilIface])) (((w2.setCell ⟨pp,0,none⟩ (.pointer (some ⟨p.bp,0,none⟩))).setCell ⟨pp,1,none⟩ (.slice Ac hs.length cc)).setCell ⟨pp,2,none⟩ (.int .i64 0)):=by
 obtain ⟨⟨a,b,c,hB⟩,hw,hEW,hpl⟩:=hP.base
 have hb12:=zaa hb1 hb2
 have hB2:=hB.below hb12 hB.lt
 have hpW:=hB.lt
 have hsz:=hw.size
 have ht:zam [pp] w2 (((w2.setCell ⟨pp,0,none⟩ (.pointer (some ⟨p.bp,0,none⟩))).setCell ⟨pp,1,none⟩ (.slice Ac hs.length cc)).setCell ⟨pp,2,none⟩ (.int .i64 0)):=
  (((zam.refl _ _).setCell (p:=⟨pp,0,none⟩) (.inl (by simp)) _).setCell (p:=⟨pp,1,none⟩) (.inl (by simp)) _).setCell (p:=⟨pp,2,none⟩) (.inl (by simp)) _
 have hB3:=((hB2.zbk 0 (.pointer (some ⟨p.bp,0,none⟩))).zbk 1 (.slice Ac hs.length cc)).zbk 2 (.int .i64 0)
 have hN2:=hN.below hb2
 have hsep:pp∉p.all:=fun hm=>by
  have:=hN.b.allLo pp hm
  omega
 generalize ((w2.setCell ⟨pp,0,none⟩ (.pointer (some ⟨p.bp,0,none⟩))).setCell ⟨pp,1,none⟩ (.slice Ac hs.length cc)).setCell ⟨pp,2,none⟩ (.int .i64 0)=w3 at*
 have hTP:za3 w.heap.size W w3:=za3.from_ ⟨[pp],ht,fun b hb=>by
  rw [List.mem_singleton] at hb
  subst hb
  exact ⟨hpl,fun t cs hC e=>hC.ne_ hB2 (by rw [e];decide) rfl⟩⟩ hb12
 have hrow2:w2.ownsRow w.heap.size 9 1 (.slice Ac hs.length cc) hs.length (zak hs):=zcQ hrow (by have:=hb1.size;omega)
 have hrow3:w3.ownsRow w.heap.size 9 1 (.slice Ac hs.length cc) hs.length (zak hs):=ht.own hrow2 fun g hg hm=>by
  obtain ⟨cs,hC⟩:=zbE hrow2 hg
  exact hC.ne_ hB2 (by decide) (List.mem_singleton.1 hm)
 have hM:PlM av ea w w3 pp W.heap.size w1.heap.size p (.slice Ac hs.length cc) hs (newS (cS hs)) 0:=⟨hB3,hN2.far hE ht fun b hb=>by
  rw [List.mem_singleton] at hb
  subst hb
  exact ⟨hpl,hsep⟩,hrow3,hpl,hsep,fun g hg=>⟨fun hm=>by
  have:=hN.b.allLo g hm
  have:=hav g hg
  omega,fun e=>by
  have:=(hrow.lt g e).1
  have:=hav g hg
  have:=hb1.size
  omega⟩⟩
 unfold zbt
 rw [hbf]
 exact ⟨_,_,rfl,.inl ⟨rfl,rfl⟩,fun _=>rfl,⟨plI_new hbf,_,_,_,_,hM⟩,hTP⟩
set_option maxRecDepth 100000 in
theorem begin_any {hs:List ByteArray} {A:Option Addr} {c:Nat} (hav:∀g,av g→g<W.heap.size) (hE:zbO ea w) (hP:zaX av ea w W pp k s) (hT:zcr W A c hs):
 Calls Tryz.prog 56 #[.pointer (some ⟨pp,0,none⟩),.slice A hs.length c] W (zae av ea w pp (k+1) (zbt s hs) W):=by
 obtain ⟨⟨a,b,d,hB⟩,hw,hEW,hpl⟩:=hP.base
 cases hf:zaM hs with
 |some f=>
  have HN:=Lib.hid (bal_bad W hEW hT hf)
  have HQ:Hid (∀t a w1,zd9 ea w1 f t a→Below W.heap.size W w1→zae av ea w pp (k+1) (zbt s hs) W (.returned (.tuple #[.string sOk,.iface t (.pointer (some a))])) w1):=Lib.hid fun t a w1 hi hb=>by
   unfold zbt
   rw [hf]
   have hc:=zfs hf
   exact ⟨_,_,rfl,.inr ⟨hc,f,t,a,rfl,hi,rfl⟩,fun h0=>absurd h0 (by unfold CdOk at hc;dsimp only;omega),(hP.below hb).more,za3.of_below hb⟩
  unfold NilBad at HN
  unfold sOk bt at HQ
  generalize zae av ea w pp (k+1) (zbt s hs) W=PQ at*
  clear hE hP hT hB hw hEW hpl hf
  go_enter Tryz.func56,Tryz.ntmps56
  go_wp2_with fail
  refine HN.out.mono ?_
  rintro e w1 ⟨t,a,rfl,hi,hb⟩
  have HZ:=Lib.hid (HQ.out t a w1 hi hb)
  clear hi hb
  go_wp2
  exact HZ.out
 |none=>
  have hO:=bok_S hf
  have HN:Hid (Calls Tryz.prog 82 #[.slice A hs.length c,.int .i64 31,.int .i64 20,.int .i64 2,.int .i64 2] W (NewAs ea w (cS hs) W)):=Lib.hid (bn_new hEW hw hT hO)
  obtain ⟨ad,hA,_⟩:∃ad,A=some ad∧True:=by
   obtain ⟨ad,h,_⟩:=hT.r.2 hO.h0
   exact ⟨ad,h,trivial⟩
  subst hA
  have hl12:hs.length≤12:=(zbN hO.hf).1
  have HC:Hid (∀w1,Below W.heap.size W w1→Calls Tryz.prog 83 #[.slice (some ad) hs.length c] w1 (zeP hs w1)):=Lib.hid fun w1 hb=>clone_any ad c hs w1 (hT.below hb).r (by omega)
  have HQ:Hid (∀p w1 w2 Ac cc,BNow ea w w1 W.heap.size w1.heap.size p (cS hs) (newS (cS hs))→Below W.heap.size W w1→w2.ownsRow w1.heap.size 9 1 (.slice Ac hs.length cc) hs.length (zak hs)→Below w1.heap.size w1 w2→
   zae av ea w pp (k+1) (zbt s hs) W (.returned (.tuple #[.string sOk,.nilIface])) (((w2.setCell ⟨pp,0,none⟩ (.pointer (some ⟨p.bp,0,none⟩))).setCell ⟨pp,1,none⟩ (.slice Ac hs.length cc)).setCell ⟨pp,2,none⟩ (.int .i64 0))):=Lib.hid fun p w1 w2 Ac cc h1 h2 h3 h4=>begin_end hav hE hP hf h1 h2 h3 h4
  have HB:Hid (∀w2,Below W.heap.size W w2→Blk w2 pp 77 #[a,b,d]):=Lib.hid fun w2 hb=>hB.below hb hB.lt
  unfold NewAs at HN
  unfold zeP at HC
  unfold sOk bt at HQ
  generalize zae av ea w pp (k+1) (zbt s hs) W=PQ at*
  clear hE hP hT hB hw hEW hpl hf hO
  go_enter Tryz.func56,Tryz.ntmps56
  go_wp2_with fail
  refine HN.out.mono ?_
  rintro e w1 ⟨p,rfl,hN,hb1⟩
  have HC':=Lib.hid (HC.out w1 hb1)
  have HN1:=Lib.hid hN
  have HB1:=Lib.hid hb1
  clear hN hb1 HN HC
  go_wp2_with fail
  refine HC'.out.mono ?_
  rintro e w2 ⟨Ac,cc,rfl,hr,hb2⟩
  have HZ:=Lib.hid (HQ.out p w1 w2 Ac cc HN1.out HB1.out hr hb2)
  have hB2:=HB.out w2 (zaa HB1.out hb2)
  have z0:=hB2.frozen 0
  have z1:=hB2.frozen 1
  have z2:=hB2.frozen 2
  have q0:=hB2.cell 0
  have q1:=hB2.cell 1
  have q2:=hB2.cell 2
  have h2lt:=hB2.lt
  clear hr hb2 HQ HN1 HB1 HB HC' hB2
  go_wp2
  exact HZ.out
end
end Go.Proofs.YthkfhfldoniolaaGreatDoor
namespace Go.Proofs.YthkfhfldoniolaaGreatDoor
open Go.RowKit
theorem readL_mem:∀{f:List UInt8} {l:List ByteArray} {w x:Wd},zba f l w=some x→(∀y∈x.h,y∈w.h∨y∈l)∧x.h.length≤w.h.length+l.length∧((∀n∈w.n,n≤9999999)→∀n∈x.n,n≤9999999)
 |[],[],w,x,h=>by
  unfold zba at h
  cases h
  exact ⟨fun y hy=> .inl hy,Nat.le_add_right _ _,fun h=>h⟩
 |[],_::_,w,x,h=>by unfold zba at h;cases h
 |_::_,[],w,x,h=>by unfold zba at h;cases h
 |f::fs,y::ys,w,x,h=>by
  unfold zba at h
  split at h
  ·cases h
   exact ⟨fun z hz=> .inr hz,Nat.le_add_left _ _,fun h=>h⟩
  ·split at h
   ·obtain ⟨h1,h2,h3⟩:=readL_mem h
    refine ⟨fun z hz=> ?_,by simp at h2 ⊢;omega,h3⟩
    rcases h1 z hz with h4|h4
    ·rcases List.mem_append.1 h4 with h5|h5
     ·exact .inl h5
     ·rw [List.mem_singleton] at h5
      subst h5
      exact .inr List.mem_cons_self
    ·exact .inr (List.mem_cons_of_mem _ h4)
   ·split at h
    ·cases h
    ·rename_i n hn
     obtain ⟨h1,h2,h3⟩:=readL_mem h
     refine ⟨fun z hz=>(h1 z hz).imp id (List.mem_cons_of_mem _),by simp at h2 ⊢;omega,fun h0=>h3 fun m hm=> ?_⟩
     rcases List.mem_append.1 hm with h5|h5
     ·exact h0 m h5
     ·rw [List.mem_singleton] at h5
      subst h5
      exact (numS_some hn).2
theorem zeE {f:List UInt8} {l:List ByteArray} {x:Wd} (h:zaY f l=some x):zba f l ⟨[],[]⟩=some x:=by
 unfold zaY at h
 split at h
 ·rename_i w hw
  split at h
  ·cases h
   exact hw
  ·cases h
 ·cases h
theorem zen {f:List UInt8} {l:List ByteArray} {x:Wd} (h:zaY f l=some x):(∀y∈x.h,y∈l)∧x.h.length≤l.length∧∀n∈x.n,n≤9999999:=by
 obtain ⟨h1,h2,h3⟩:=readL_mem (zeE h)
 exact ⟨fun y hy=>(h1 y hy).resolve_left (by simp),by simpa using h2,h3 (by simp)⟩
theorem readS_nil {l:List ByteArray} {x:Wd} (h:zaY [] l=some x):x=⟨[],[]⟩:=by
 have h:=zeE h
 cases l<;>unfold zba at h<;>cases h
 rfl
theorem readS_n {l:List ByteArray} {x:Wd} (h:zaY [110] l=some x):∃n,x=⟨[],[n]⟩:=by
 have h:=zeE h
 rcases l with _|⟨y,l⟩
 ·unfold zba at h;cases h
 unfold zba at h
 rw [if_neg (show¬((110:UInt8)=43∧([]:List UInt8)=[]) by decide),if_neg (show¬(110:UInt8)=104 by decide)] at h
 split at h
 ·cases h
 ·cases l<;>unfold zba at h<;>cases h
  exact ⟨_,rfl⟩
theorem readS_nn {l:List ByteArray} {x:Wd} (h:zaY [110,110] l=some x):∃n m,x=⟨[],[n,m]⟩:=by
 have h:=zeE h
 rcases l with _|⟨y,l⟩
 ·unfold zba at h;cases h
 unfold zba at h
 rw [if_neg (show¬((110:UInt8)=43∧([110]:List UInt8)=[]) by decide),if_neg (show¬(110:UInt8)=104 by decide)] at h
 split at h
 ·cases h
 ·rcases l with _|⟨y2,l⟩
  ·unfold zba at h;cases h
  unfold zba at h
  rw [if_neg (show¬((110:UInt8)=43∧([]:List UInt8)=[]) by decide),if_neg (show¬(110:UInt8)=104 by decide)] at h
  split at h
  ·cases h
  ·cases l<;>unfold zba at h<;>cases h
   exact ⟨_,_,rfl⟩
theorem readS_hn {l:List ByteArray} {x:Wd} (h:zaY [104,110] l=some x):∃z n,x=⟨[z],[n]⟩:=by
 have h:=zeE h
 rcases l with _|⟨y,l⟩
 ·unfold zba at h;cases h
 unfold zba at h
 rw [if_neg (show¬((104:UInt8)=43∧([110]:List UInt8)=[]) by decide),if_pos rfl] at h
 rcases l with _|⟨y2,l⟩
 ·unfold zba at h;cases h
 unfold zba at h
 rw [if_neg (show¬((110:UInt8)=43∧([]:List UInt8)=[]) by decide),if_neg (show¬(110:UInt8)=104 by decide)] at h
 split at h
 ·cases h
 ·cases l<;>unfold zba at h<;>cases h
  exact ⟨_,_,rfl⟩
theorem readS_np {l:List ByteArray} {x:Wd} (h:zaY [110,43] l=some x):∃r n,x=⟨r,[n]⟩:=by
 have h:=zeE h
 rcases l with _|⟨y,l⟩
 ·unfold zba at h;cases h
 unfold zba at h
 rw [if_neg (show¬((110:UInt8)=43∧([43]:List UInt8)=[]) by decide),if_neg (show¬(110:UInt8)=104 by decide)] at h
 split at h
 ·cases h
 ·rcases l with _|⟨y2,l⟩
  ·unfold zba at h;cases h
  unfold zba at h
  rw [if_pos ⟨rfl,rfl⟩] at h
  cases h
  exact ⟨_,_,rfl⟩
section
variable {av:Nat→Prop} {ea:Nat→Addr} {w W W':World} {pp lo hi k now:Nat} {p:BPl} {hv wv:Value} {hs:List ByteArray} {s:BS} {x:Wd}
theorem does_any (c:Cmd) {l:List ByteArray} (hE:zbO ea w) (hW:zdz w) (hK:zcp ea w) (hI:PlI hs k now s) (hM:PlM av ea w W pp lo hi p hv hs s now) (hk:k≤1000) (hr:zaY c.form l=some x) (hl:l.length≤1000000) (hz:∀y∈l,y.size≤1000000) (hx:zcJ W wv x):
 Calls Tryz.prog c.fn #[.pointer (some ⟨pp,0,none⟩),wv] W (zae av ea w pp (k+1) (zaJ c x hs s now) W):=by
 obtain ⟨m1,m2,m3⟩:=zen hr
 cases c
 ·obtain ⟨n,rfl⟩:=readS_n hr
  exact act_table hI hM n hx
 ·obtain ⟨r,n,rfl⟩:=readS_np hr
  exact act_moves hI hM hW r (Nat.le_trans m2 hl) (fun y hy=>hz y (m1 y hy)) n (m3 n (by simp)) hx
 ·obtain ⟨n,m,rfl⟩:=readS_nn hr
  exact act_ring hI hM n m (m3 n (by simp)) (m3 m (by simp)) hx
 ·obtain ⟨n,rfl⟩:=readS_n hr
  exact act_rival hI hM n (m3 n (by simp)) hx
 ·obtain ⟨n,rfl⟩:=readS_n hr
  exact act_pick hI hM hk n (m3 n (by simp)) hx
 ·obtain ⟨z,n,rfl⟩:=readS_hn hr
  exact act_look hI hM z n hx
 ·obtain ⟨z,n,rfl⟩:=readS_hn hr
  exact act_drain hI hM hk z (hz z (m1 z (by simp))) n hx
 ·obtain ⟨n,rfl⟩:=readS_n hr
  exact act_tick hE hI hM hk n (m3 n (by simp)) hx
 ·obtain rfl:=readS_nil hr
  exact act_up hI hM hx
 ·obtain rfl:=readS_nil hr
  exact act_flows hI hM hW hx
 ·obtain rfl:=readS_nil hr
  exact act_export hI hM hk hW hK hx
end
def zcL (c:ByteArray) (t:List ByteArray) (W:World) (e:Ending) (w':World):Prop:=
 ∃g,e= .returned (.slice (some ⟨g,0,none⟩) (t.length+1) (t.length+1))∧Below W.heap.size W w'∧Blk w' g 9 (zak (c::t)).toArray
theorem cuts_size (c:UInt8):∀l:List UInt8,∀y∈cuts c l,y.length≤l.length:=by
 intro l
 induction l with
 |nil=>intro y hy;simp [cuts] at hy;simp [hy]
 |cons a r ih=>
  intro y hy
  unfold cuts at hy
  split at hy
  ·rcases List.mem_cons.1 hy with rfl|hy
   ·simp
   ·have:=ih y hy;simp;omega
  ·have hne:=cuts_ne c r
   cases hc:cuts c r with
   |nil=>exact absurd hc hne
   |cons u v=>
    rw [hc] at hy ih
    rcases List.mem_cons.1 hy with rfl|hy
    ·have:=ih u List.mem_cons_self;simp at this ⊢;omega
    ·have:=ih y (List.mem_cons_of_mem _ hy);simp;omega
theorem cuts_lenle (c:UInt8) (l:List UInt8):(cuts c l).length≤l.length+1:=by
 rw [cuts_len]
 have:=List.count_le_length (a:=c) (l:=l)
 omega
theorem words_split (line:ByteArray):∃c t,zaI line=c::t:=by
 unfold zaI
 have hne:=cuts_ne 32 line.data.toList
 cases h:cuts 32 line.data.toList with
 |nil=>exact absurd h hne
 |cons u v=>exact ⟨_,_,rfl⟩
theorem zaT {line c:ByteArray} {t:List ByteArray} (h:zaI line=c::t) (hs:line.size≤1000000) (W:World) (hW:zdz W):Calls Tryz.prog 54 #[.string line,.string ⟨#[32]⟩] W (zcL c t W):=by
 obtain ⟨m,hm⟩:=hW.mx
 refine (split_any line 32 m W (by omega) hm).mono ?_
 rintro e w' ⟨rfl,rfl⟩
 have hl:(cuts 32 line.data.toList).length=t.length+1:=by
  have:(zaI line).length=t.length+1:=by rw [h];simp
  rw [←this]
  simp [zaI]
 have hv:(cuts 32 line.data.toList).map (fun l=>Value.string ⟨l.toArray⟩)=zak (c::t):=by
  rw [←h]
  simp [zaI,zak,bt,Function.comp_def]
 rw [hl,hv]
 exact ⟨_,rfl,(Below.refl _ _).alloc (Nat.le_refl _) _,Blk.new _ _ _⟩
theorem zaK {line c:ByteArray} {t:List ByteArray} (h:zaI line=c::t) (hs:line.size≤100000):c.size≤100000∧t.length≤100000∧∀y∈t,y.size≤100000:=by
 have hsz:line.data.toList.length≤100000:=by simpa using hs
 have h1:∀y∈zaI line,y.size≤100000:=fun y hy=>by
  unfold zaI at hy
  obtain ⟨u,hu,rfl⟩:=List.mem_map.1 hy
  have:=cuts_size 32 _ u hu
  show u.toArray.size≤100000
  simp
  omega
 have h2:=cuts_lenle 32 line.data.toList
 have h3:(zaI line).length=(cuts 32 line.data.toList).length:=by simp [zaI]
 rw [h] at h1 h3
 simp at h3
 exact ⟨h1 c List.mem_cons_self,by omega,fun y hy=>h1 y (List.mem_cons_of_mem _ hy)⟩
theorem tail_in {w:World} {g:Nat} {c:ByteArray} {t:List ByteArray} (h:Blk w g 9 (zak (c::t)).toArray) (hl:t.length≤100000) (hz:∀y∈t,y.size≤100000):zcr w (some ⟨g,1,none⟩) t.length t:=by
 refine ⟨⟨by simp [zak],fun h0=> ?_⟩,Nat.le_refl _,by unfold maxLen;omega,fun s hs=>by have:=hz s hs;unfold maxLen;omega⟩
 refine ⟨_,rfl,h.lt,fun j u hu=> ?_⟩
 have e:((⟨g,1,none⟩:Addr).add j)=⟨g,1+j,none⟩:=by
  by_cases h0:j=0
  ·subst h0;rfl
  ·simp [Addr.add,h0]
 rw [e]
 have hcell:=h.cell (1+j)
 rw [hcell]
 simp only [zak,List.map_cons] at hu ⊢
 rw [Nat.add_comm 1 j]
 simpa using hu
end Go.Proofs.YthkfhfldoniolaaGreatDoor
namespace Go.Proofs.YthkfhfldoniolaaGreatDoor
open Go.RowKit
section
variable {av:Nat→Prop} {ea:Nat→Addr} {w W W':World} {pp k:Nat} {s:PlS} {line:ByteArray} {t:List ByteArray}
theorem zae.from_ {r:(Nat×ByteArray)×PlS} {W1 w':World} {e:Ending} (h:zae av ea w pp k r W1 e w') (hb:Below W.heap.size W W1):zae av ea w pp k r W e w':=by
 obtain ⟨x,ev,rfl,h1,h2,h3,h4⟩:=h
 exact ⟨x,ev,rfl,h1,h2,h3,h4.from_ hb⟩
theorem zem {cd:Nat} (hc:CdOk cd) (hP:zaX av ea w W pp k s) (hb:Below W.heap.size W W'):zae av ea w pp (k+1) ((cd,⟨#[]⟩),s) W (.returned (.tuple #[.string ⟨#[]⟩,.iface 355 (.pointer (some (ea (gv cd))))])) W':=
 ⟨_,_,rfl,.inr ⟨hc,⟨cd,none⟩,_,_,rfl,⟨rfl,rfl⟩,rfl⟩,fun h0=>absurd h0 (by unfold CdOk at hc;dsimp only;omega),(hP.below hb).more,za3.of_below hb⟩
theorem words_in {w:World} {A A2:Option Addr} {n c n2 c2:Nat} {x:Wd} {l:List ByteArray} {f:List UInt8} (h:zcJ w (.agg #[.slice A n c,.slice A2 n2 c2]) x) (hn:n=x.h.length) (hr:zaY f l=some x) (hl:l.length≤100000) (hz:∀y∈l,y.size≤100000):zcr w A c x.h:=by
 subst hn
 obtain ⟨m1,m2,_⟩:=zen hr
 exact txIn_h h rfl (by omega) fun y hy=>by have:=hz y (m1 y hy);omega
theorem zbp {c:ByteArray} (f:List UInt8) (hf:f=[]∨f=[43]∨f=[110]∨f=[110,110]∨f=[104,110]∨f=[110,43]) (hW:zdz W) (t2:t.length≤100000) (t3:∀y∈t,y.size≤100000):∀w1 g,Below W.heap.size W w1→Blk w1 g 9 (zak (c::t)).toArray→
 Calls Tryz.prog 55 #[.string ⟨f.toArray⟩,.slice (some ⟨g,1,none⟩) t.length t.length] w1 (zaW (zaY f t) w1)∧(t.length=0→Calls Tryz.prog 55 #[.string ⟨f.toArray⟩,.slice (some ⟨g,0,none⟩) 0 0] w1 (zaW (zaY f t) w1)):=fun w1 g hb hB=>by
 refine ⟨read_any f hf _ _ t w1 (tail_in hB t2 t3) (fun ad e=>by cases e;exact ⟨_,hB⟩) (fun y hy=>by have:=t3 y hy;omega) (hW.below hb).num (hW.below hb).lo,fun h0=> ?_⟩
 obtain rfl:=List.eq_nil_of_length_eq_zero h0
 exact read_any f hf (some ⟨g,0,none⟩) 0 [] w1 ⟨⟨rfl,fun h=>absurd h (by simp)⟩,Nat.le_refl _,Nat.zero_le _,by simp⟩ (fun ad e=>by cases e;exact ⟨_,hB⟩) (by simp) (hW.below hb).num (hW.below hb).lo
set_option maxRecDepth 100000 in
theorem play_hosts (hav:∀g,av g→g<W.heap.size) (hE:zbO ea w) (hP:zaX av ea w W pp k s) (hW:zdz w) (hK:zcp ea w) (hs:line.size≤100000) (hl:zaI line=zav::t):
 Calls Tryz.prog 28 #[.pointer (some ⟨pp,0,none⟩),.string line] W (zae av ea w pp (k+1) (zch s zav t) W):=by
 obtain ⟨_,hw,hEW,_⟩:=hP.base
 have hCW:=hW.below hw
 obtain ⟨_,t2,t3⟩:=zaK hl hs
 have HS:=Lib.hid (zaT hl (by omega) W hCW)
 unfold zcL at HS
 have HR:=Lib.hid (zbp (W:=W) (c:=zav) (t:=t) [43] (by simp) hCW t2 t3)
 have HB0:Hid (∀w1 g,Blk w1 g 9 (zak (zav::t)).toArray→w1.cell? ⟨g,0,none⟩=some (.string zav)):=Lib.hid fun w1 g hB=>hB.cell 0
 unfold zaW at HR
 unfold zav bt at HB0
 cases hr:zaY [43] t with
 |none=>
  have hls:zch s zav t=((1,⟨#[]⟩),s):=by unfold zch;rw [if_pos rfl,hr]
  rw [hls]
  have HQ:Hid (∀w1,Below W.heap.size W w1→zae av ea w pp (k+1) ((1,⟨#[]⟩),s) W (.returned (.tuple #[.string ⟨#[]⟩,.iface 355 (.pointer (some (ea (gv 1))))])) w1):=Lib.hid fun w1 hb=>zem (za1 (by simp)) hP hb
  have HC:Hid (∀w1,Below W.heap.size W w1→w1.cell? ⟨1,0,none⟩=some (.iface 355 (.pointer (some (ea (gv 1)))))):=Lib.hid fun w1 hb=>(hK.below (zaa hw hb)).c1
  generalize zae av ea w pp (k+1) ((1,⟨#[]⟩),s) W=PQ at*
  rw [hr] at HR
  clear hav hE hP hW hK hs hl hw hEW hCW t2 t3 hr hls
  go_enter Tryz.func28,Tryz.ntmps28
  go_wp2_with fail
  refine HS.out.mono ?_
  rintro e w1 ⟨g,rfl,hb1,hB1⟩
  have HR1:=Lib.hid (HR.out w1 g hb1 hB1)
  have c0:=HB0.out w1 g hB1
  have HB1:=Lib.hid hb1
  have hg1:=hB1.lt
  generalize t.length=m at*
  clear hb1 hB1 HR HB0 HS
  go_wp2_with fail
  case' inl=>refine (HR1.out.2 (by omega)).mono ?_
  case' inr=>refine HR1.out.1.mono ?_
  all_goals
   rintro e w2 ⟨A,n,c,A2,n2,c2,rfl,hb2,_⟩
   have HQ1:=Lib.hid (HQ.out (w2.alloc (.cells #[.slice A n c,.slice A2 n2 c2] 110)).drew (zad (zaa HB1.out (zaa hb2 ((Below.refl _ _).alloc (Nat.le_refl _) _)))))
   have e1:=HC.out (w2.alloc (.cells #[.slice A n c,.slice A2 n2 c2] 110)) (zaa HB1.out (zaa hb2 ((Below.refl _ _).alloc (Nat.le_refl _) _)))
   clear hb2 HR1 HQ HC HB1
   go_wp2_with fail
   generalize w2.alloc (.cells #[.slice A n c,.slice A2 n2 c2] 110)=w3 at*
   go_region
   go_wp2
   exact HQ1.out
 |some x=>
  have hls:zch s zav t=zbt s x.h:=by unfold zch;rw [if_pos rfl,hr]
  rw [hls]
  have HG:Hid (∀w1 A n c A2 n2 c2,Below W.heap.size W w1→(∀y,some x=some y→n=y.h.length∧n2=y.n.length∧zcJ w1 (.agg #[.slice A n c,.slice A2 n2 c2]) y)→Calls Tryz.prog 56 #[.pointer (some ⟨pp,0,none⟩),.slice A n c] (w1.alloc (.cells #[.slice A n c,.slice A2 n2 c2] 110)) fun e w'=>∃v1 v2,e= .returned (.tuple #[v1,v2])∧zae av ea w pp (k+1) (zbt s x.h) W e w'):=Lib.hid fun w1 A n c A2 n2 c2 hb hx=>by
   obtain ⟨rfl,rfl,hwd⟩:=hx x rfl
   have hb2:=(Below.refl w1.heap.size w1).alloc (Nat.le_refl _) (.cells #[.slice A x.h.length c,.slice A2 x.n.length c2] 110)
   have hb3:=zaa hb hb2
   refine (begin_any (fun g hg=>Nat.lt_of_lt_of_le (hav g hg) hb3.size) hE (hP.below hb3) (words_in (hwd.below hb2) rfl hr t2 t3)).mono fun e w' h=> ?_
   have h1:=h.from_ hb3
   obtain ⟨v1,v2,rfl,_⟩:=h
   exact ⟨_,_,rfl,h1⟩
  generalize zae av ea w pp (k+1) (zbt s x.h) W=PQ at*
  rw [hr] at HR
  clear hav hE hP hW hK hs hl hw hEW hCW t2 t3 hr hls
  go_enter Tryz.func28,Tryz.ntmps28
  go_wp2_with fail
  refine HS.out.mono ?_
  rintro e w1 ⟨g,rfl,hb1,hB1⟩
  have HR1:=Lib.hid (HR.out w1 g hb1 hB1)
  have c0:=HB0.out w1 g hB1
  have HB1:=Lib.hid hb1
  have hg1:=hB1.lt
  generalize t.length=m at*
  clear hb1 hB1 HR HB0 HS
  go_wp2_with fail
  case' inl=>refine (HR1.out.2 (by omega)).mono ?_
  case' inr=>refine HR1.out.1.mono ?_
  all_goals
   rintro e w2 ⟨A,n,c,A2,n2,c2,rfl,hb2,hx⟩
   have HG1:=Lib.hid (HG.out w2 A n c A2 n2 c2 (zaa HB1.out hb2) hx)
   clear hb2 hx HR1 HG HB1
   go_wp2_with fail
   refine HG1.out.mono ?_
   rintro e w3 ⟨v1,v2,rfl,hq⟩
   have HQ1:=Lib.hid hq
   clear hq HG1
   go_wp2
   exact HQ1.out
end
end Go.Proofs.YthkfhfldoniolaaGreatDoor
namespace Go.Proofs.YthkfhfldoniolaaGreatDoor
open Go.RowKit
section
variable {av:Nat→Prop} {ea:Nat→Addr} {w W W':World} {pp k:Nat} {s:PlS} {line c:ByteArray} {t:List ByteArray}
theorem zbI (q:Cmd):q.form=[]∨q.form=[43]∨q.form=[110]∨q.form=[110,110]∨q.form=[104,110]∨q.form=[110,43]:=by cases q<;>simp [Cmd.form]
set_option maxRecDepth 100000 in
theorem play_jump (hE:zbO ea w) (hP:zaX av ea w W pp k s) (hW:zdz w) (hK:zcp ea w) (hs:line.size≤100000) (hl:zaI line=zaP::t):
 Calls Tryz.prog 28 #[.pointer (some ⟨pp,0,none⟩),.string line] W (zae av ea w pp (k+1) (zch s zaP t) W):=by
 obtain ⟨_,hw,hEW,hpl⟩:=hP.base
 have hCW:=hW.below hw
 obtain ⟨tc,t2,t3⟩:=zaK hl hs
 have HS:=Lib.hid (zaT hl (by omega) W hCW)
 unfold zcL at HS
 have HR:=Lib.hid (zbp (W:=W) (c:=zaP) (t:=t) [110,110] (by simp) hCW t2 t3)
 have HB0:Hid (∀w1 g,Blk w1 g 9 (zak (zaP::t)).toArray→w1.cell? ⟨g,0,none⟩=some (.string zaP)):=Lib.hid fun w1 g hB=>hB.cell 0
 unfold zaW at HR
 unfold zaP bt at HB0
 cases hr:zaY [110,110] t with
 |none=>
  have hls:zch s zaP t=((1,⟨#[]⟩),s):=by unfold zch;rw [if_neg (by decide),if_pos rfl,hr]
  rw [hls]
  have HQ:Hid (∀w1,Below W.heap.size W w1→zae av ea w pp (k+1) ((1,⟨#[]⟩),s) W (.returned (.tuple #[.string ⟨#[]⟩,.iface 355 (.pointer (some (ea (gv 1))))])) w1):=Lib.hid fun w1 hb=>zem (za1 (by simp)) hP hb
  have HC:Hid (∀w1,Below W.heap.size W w1→w1.cell? ⟨1,0,none⟩=some (.iface 355 (.pointer (some (ea (gv 1)))))):=Lib.hid fun w1 hb=>(hK.below (zaa hw hb)).c1
  generalize zae av ea w pp (k+1) ((1,⟨#[]⟩),s) W=PQ at*
  rw [hr] at HR
  clear hE hP hW hK hs hl hw hEW hCW t2 t3 hr hls
  go_enter Tryz.func28,Tryz.ntmps28
  go_wp2_with fail
  refine HS.out.mono ?_
  rintro e w1 ⟨g,rfl,hb1,hB1⟩
  have HR1:=Lib.hid (HR.out w1 g hb1 hB1)
  have c0:=HB0.out w1 g hB1
  have HB1:=Lib.hid hb1
  have hg1:=hB1.lt
  generalize t.length=m at*
  clear hb1 hB1 HR HB0 HS
  go_wp2_with fail
  case' inl=>refine (HR1.out.2 (by omega)).mono ?_
  case' inr=>refine HR1.out.1.mono ?_
  all_goals
   rintro e w2 ⟨A,n,c,A2,n2,c2,rfl,hb2,_⟩
   have HQ1:=Lib.hid (HQ.out (w2.alloc (.cells #[.slice A n c,.slice A2 n2 c2] 110)).drew (zad (zaa HB1.out (zaa hb2 ((Below.refl _ _).alloc (Nat.le_refl _) _)))))
   have e1:=HC.out (w2.alloc (.cells #[.slice A n c,.slice A2 n2 c2] 110)) (zaa HB1.out (zaa hb2 ((Below.refl _ _).alloc (Nat.le_refl _) _)))
   clear hb2 HR1 HQ HC HB1
   go_wp2_with fail
   generalize w2.alloc (.cells #[.slice A n c,.slice A2 n2 c2] 110)=w3 at*
   go_region
   go_wp2
   exact HQ1.out
 |some x=>
  obtain ⟨xn,xm,rfl⟩:=readS_nn hr
  obtain ⟨_,_,x3⟩:=zen hr
  have hls:zch s zaP t=(zdv ⟨[],[xn,xm]⟩,s):=by unfold zch;rw [if_neg (by decide),if_pos rfl,hr]
  rw [hls]
  have HG:Hid (∀w1 A n c A2 n2 c2,Below W.heap.size W w1→(∀y,some (⟨[],[xn,xm]⟩:Wd)=some y→n=y.h.length∧n2=y.n.length∧zcJ w1 (.agg #[.slice A n c,.slice A2 n2 c2]) y)→Calls Tryz.prog 57 #[.agg #[.slice A n c,.slice A2 n2 c2]] (w1.alloc (.cells #[.slice A n c,.slice A2 n2 c2] 110)) fun e w'=>∃v1 v2,e= .returned (.tuple #[v1,v2])∧zae av ea w pp (k+1) (zdv ⟨[],[xn,xm]⟩,s) W e w'):=Lib.hid fun w1 A n c A2 n2 c2 hb hx=>by
   obtain ⟨rfl,rfl,hwd⟩:=hx _ rfl
   have hb2:=(Below.refl w1.heap.size w1).alloc (Nat.le_refl _) (.cells #[.slice A 0 c,.slice A2 2 c2] 110)
   have hb3:=zaa hb hb2
   refine (jumps_any (hE.below (zaa hw hb3)) (hCW.below hb3) xn xm (x3 _ (by simp)) (x3 _ (by simp)) (hwd.below hb2)).mono fun e w' h=> ?_
   obtain ⟨v1,v2,rfl,h2,h3,h4⟩:=h
   exact ⟨_,_,rfl,_,_,rfl,h2,h3,(hP.below (zaa hb3 h4)).more,za3.of_below (zaa hb3 h4)⟩
  generalize zae av ea w pp (k+1) (zdv ⟨[],[xn,xm]⟩,s) W=PQ at*
  rw [hr] at HR
  clear hE hP hW hK hs hl hw hEW hCW t2 t3 hr hls
  go_enter Tryz.func28,Tryz.ntmps28
  go_wp2_with fail
  refine HS.out.mono ?_
  rintro e w1 ⟨g,rfl,hb1,hB1⟩
  have HR1:=Lib.hid (HR.out w1 g hb1 hB1)
  have c0:=HB0.out w1 g hB1
  have HB1:=Lib.hid hb1
  have hg1:=hB1.lt
  generalize t.length=m at*
  clear hb1 hB1 HR HB0 HS
  go_wp2_with fail
  case' inl=>refine (HR1.out.2 (by omega)).mono ?_
  case' inr=>refine HR1.out.1.mono ?_
  all_goals
   rintro e w2 ⟨A,n,c,A2,n2,c2,rfl,hb2,hx⟩
   have HG1:=Lib.hid (HG.out w2 A n c A2 n2 c2 (zaa HB1.out hb2) hx)
   clear hb2 hx HR1 HG HB1
   go_wp2_with fail
   refine HG1.out.mono ?_
   rintro e w3 ⟨v1,v2,rfl,hq⟩
   have HQ1:=Lib.hid hq
   clear hq HG1
   go_wp2
   exact HQ1.out
end
end Go.Proofs.YthkfhfldoniolaaGreatDoor
