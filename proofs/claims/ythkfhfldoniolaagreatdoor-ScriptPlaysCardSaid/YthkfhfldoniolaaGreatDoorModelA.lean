/-
  The law's model of a script in memory. The reference's BucketOf and BalanceFault; Drain where no host is.
-/
import Derived.Test.YthkfhfldoniolaaGreatDoorScrRefBal
import Derived.Test.YthkfhfldoniolaaGreatDoorScrLineW
import Derived.Test.YthkfhfldoniolaaGreatDoorPathOf
set_option maxHeartbeats 2000000
namespace Go.Proofs.YthkfhfldoniolaaGreatDoor
open Go.RowKit
structure zdO (w W:World) (mp n:Nat) (p:RBp) (A:Option Addr) (c:Nat) (hs:List ByteArray) (s:BS) (now:Nat):Prop where
 blk:Blk W mp 28 #[.pointer (some ⟨p.mb,0,none⟩),.slice A hs.length c,.int .i64 (now:Int)]
 tx:zcr w A c hs
 r:zcE W w.heap.size p (cS hs) n s
 lo:w.heap.size≤mp
 sep:mp∉p.ws
 b:Below w.heap.size w W
def zfp (w W:World) (mp n:Nat) (s:PlS):Prop:=match s.b with
 |none=>Blk W mp 28 #[.pointer none,.slice none 0 0,.int .i64 0]∧s.now=0∧w.heap.size≤mp∧Below w.heap.size w W
 |some hb=>∃p A c,zdO w W mp n p A c hb.1 hb.2 s.now
def DvAt (W:World) (mp:Nat) (o:Option Nat):Prop:=(W.cell? ⟨mp,0,none⟩=some (.pointer none)∧o=none)∨∃mb v,W.cell? ⟨mp,0,none⟩=some (.pointer (some ⟨mb,0,none⟩))∧W.cell? ⟨mb,3,none⟩=some v∧v.ownBlock=o
def DvTo (mp:Nat) (W W':World):Prop:=∀o,DvAt W mp o→∃o',DvAt W' mp o'∧(o'=o∨∀g,o'=some g→W.heap.size≤g)
def zfe (B mp:Nat) (W W':World):Prop:=za3 B W W'∧DvTo mp W W'
section
variable {W W' W1:World} {B mp:Nat}
theorem DvAt.below {o:Option Nat} (h:DvAt W mp o) (hb:Below W.heap.size W W'):DvAt W' mp o:=by
 rcases h with ⟨h,e⟩|⟨mb,v,h1,h2,e⟩
 ·exact .inl ⟨(hb.cell (World.block_lt_of_cell? _ _ h)).trans h,e⟩
 ·exact .inr ⟨mb,v,(hb.cell (World.block_lt_of_cell? _ _ h1)).trans h1,(hb.cell (World.block_lt_of_cell? _ _ h2)).trans h2,e⟩
theorem DvAt.uniq {o o':Option Nat} (h:DvAt W mp o) (h':DvAt W mp o'):o=o':=by
 rcases h with ⟨h,rfl⟩|⟨mb,v,h1,h2,rfl⟩
 ·rcases h' with ⟨_,rfl⟩|⟨mb',v',h1',_,_⟩
  ·rfl
  ·rw [h] at h1'
   cases h1'
 ·rcases h' with ⟨h',_⟩|⟨mb',v',h1',h2',rfl⟩
  ·rw [h'] at h1
   cases h1
  ·rw [h1] at h1'
   cases h1'
   rw [h2] at h2'
   cases h2'
   rfl
theorem zfe.of_below (hb:Below W.heap.size W W'):zfe B mp W W':=⟨za3.of_below hb,fun o h=>⟨o,h.below hb,.inl rfl⟩⟩
theorem zfe.zd6 (h:zfe B mp W W1) (hb:Below W1.heap.size W1 W'):zfe B mp W W':=⟨h.1.zd6 hb,fun o ho=>by
 obtain ⟨o',h1,h2⟩:=h.2 o ho
 exact ⟨o',h1.below hb,h2⟩⟩
theorem zfe.from_ (h:zfe B mp W1 W') (hb:Below W.heap.size W W1):zfe B mp W W':=⟨h.1.from_ hb,fun o ho=>by
 obtain ⟨o',h1,h2⟩:=h.2 o (ho.below hb)
 exact ⟨o',h1,h2.imp_right fun h3 g hg=>Nat.le_trans hb.size (h3 g hg)⟩⟩
end
section
variable {w W W':World} {mp n n' c now:Nat} {p:RBp} {A:Option Addr} {hs:List ByteArray} {s s':BS}
theorem zdO.dv (h:zdO w W mp n p A c hs s now):DvAt W mp p.dv.ownBlock:= .inr ⟨p.mb,p.dv,h.blk.cell 0,h.r.cells.2.2.2.1,rfl⟩
theorem zdO.below (h:zdO w W mp n p A c hs s now) (hb:Below W.heap.size W W'):zdO w W' mp n p A c hs s now:=
 ⟨h.blk.below hb h.blk.lt,h.tx,h.r.below hb,h.lo,h.sep,zaa h.b hb⟩
theorem zdO.more (h:zdO w W mp n p A c hs s now) (hn:n≤n'):zdO w W mp n' p A c hs s now:=⟨h.blk,h.tx,h.r.more hn,h.lo,h.sep,h.b⟩
theorem zcE.outS {B g:Nat} {t:TypeId} {cs:Array Value} {cf:zb7} (h:zcE W B p cf n s) (hB:Blk W g t cs) (ht:t=9∨t=28∨t=31):g∉p.ws:=by
 rcases ht with rfl|rfl|rfl
 ·exact h.notWs hB (by decide) (by decide) (by decide) (by decide) (by decide)
 ·exact h.notWs hB (by decide) (by decide) (by decide) (by decide) (by decide)
 ·exact h.notWs hB (by decide) (by decide) (by decide) (by decide) (by decide)
theorem zaZ.turnP {B:Nat} {cf:zb7} (h0:zcE W B p cf n s) (h:zaZ B p cf n' s' W W'):za3 B W W':=by
 obtain ⟨p',_,_,ht,_⟩:=h
 exact ⟨p.ws,ht,fun b hb=>⟨(h0.wsLt b hb).1,fun t cs hC e=>h0.outS hC (.inl e) hb⟩⟩
theorem zdO.act (h:zdO w W mp n p A c hs s now) (hr:zaZ w.heap.size p (cS hs) n' s' W W'):(∃p',Stood p p'∧zdO w W' mp n' p' A c hs s' now)∧zfe w.heap.size mp W W':=by
 have hT:=zaZ.turnP h.r hr
 obtain ⟨p',r1,e1,t1,b1,v1⟩:=hr
 have h':zdO w W' mp n' p' A c hs s' now:=by
  refine ⟨?_,h.tx,r1,h.lo,fun hm=> ?_,h.b.trans (hT.below h.b.size)⟩
  ·rw [e1.1]
   exact t1.blk h.blk h.sep
  ·rcases b1 _ hm with h2|h2
   ·exact h.sep h2
   ·have:=h.blk.lt
    omega
 refine ⟨⟨p',e1,h'⟩,hT,fun o ho=>⟨_,h'.dv, ?_⟩⟩
 rw [←h.dv.uniq ho]
 cases hp:p'.dv.ownBlock with
 |none=>exact .inr fun g hg=>by cases hg
 |some g=>
  rcases v1 g hp with h3|h3
  ·exact .inl h3.symm
  ·exact .inr fun g' hg=>by cases hg;exact h3
theorem zaZ.line {B g:Nat} {cf:zb7} {cs:Array Value} (h0:zcE W B p cf n s) (h:zaZ B p cf n' s' W W') (hB:Blk W g 31 cs):Blk W' g 31 cs:=by
 obtain ⟨p',_,_,ht,_⟩:=h
 exact ht.blk hB (h0.outS hB (.inr (.inr rfl)))
theorem zdO.tick (h:zdO w W mp n p A c hs s now) (now':Nat):zdO w (W.setCell ⟨mp,2,none⟩ (.int .i64 (now':Int))) mp n p A c hs s now'∧zfe w.heap.size mp W (W.setCell ⟨mp,2,none⟩ (.int .i64 (now':Int))):=by
 have ht:zam [mp] W (W.setCell ⟨mp,2,none⟩ (.int .i64 (now':Int))):=(zam.refl _ _).setCell (p:=⟨mp,2,none⟩) (.inl (by simp)) _
 have hT:za3 w.heap.size W (W.setCell ⟨mp,2,none⟩ (.int .i64 (now':Int))):=⟨[mp],ht,fun b hb=>by
  rw [List.mem_singleton] at hb
  subst hb
  exact ⟨h.lo,fun t cs hC e=>hC.ne_ h.blk (by rw [e];decide) rfl⟩⟩
 suffices h':zdO w (W.setCell ⟨mp,2,none⟩ (.int .i64 (now':Int))) mp n p A c hs s now' from ⟨h',hT,fun o ho=>⟨_,h'.dv,.inl (h.dv.uniq ho)⟩⟩
 refine ⟨h.blk.zbk 2 _,h.tx, ?_,h.lo,h.sep,h.b.trans (hT.below h.b.size)⟩
 have h2:=h.r
 obtain ⟨rs,h3,h4⟩:=h2.h
 obtain ⟨dl,d1,d2,d3⟩:=h2.d
 have hne:∀b∈p.ws,b∉[mp]:=fun b hb hm=>by
  rw [List.mem_singleton] at hm
  subst hm
  exact h.sep hb
 refine ⟨ht.blk h2.blk (hne _ (by simp [RBp.ws])),⟨rs,h3.turn ht fun b hb=>hne b (by simp [RBp.ws,hb]),h4⟩,h2.f.away ht (hne _ (by simp [RBp.ws])) fun g hg hm=> ?_,⟨dl,ht.own d1 fun g hg hm=> ?_,d2,d3⟩,h2.b⟩
 ·obtain ⟨cs,hC⟩:=zbG h2.f.row hg
  rw [List.mem_singleton] at hm
  subst hm
  exact hC.ne_ h.blk (by decide) rfl
 ·obtain ⟨cs,hC⟩:=zbG d1 hg
  rw [List.mem_singleton] at hm
  subst hm
  exact hC.ne_ h.blk (by decide) rfl
def zat (w:World) (mp n:Nat) (r:(Nat×ByteArray)×PlS) (W:World) (e:Ending) (w':World):Prop:=
 e= .returned (.string (zbX r.1))∧zfp w w' mp n r.2∧zfe w.heap.size mp W w'
end
def BuckR (b c:Nat) (w:World) (e:Ending) (w':World):Prop:=e= .returned (.tuple #[.int .i64 (b:Int),.int .i64 (c:Int)])∧Below w.heap.size w w'
theorem bucketOf_good (key n b:Nat) (l:List Nat) (w:World) (H:Hid (Calls Tryz.prog 37 #[.int .u64 (key:Int),.int .i64 (n:Int)] w (zeR w l))) (hl:0<l.length) (hle:l.length≤1048576) (hx:Hid (l[l.length-1]? =some b)):
 Calls Tryz.prog 19 #[.int .u64 (key:Int),.int .i64 (n:Int)] w (BuckR b 0 w):=by
 obtain ⟨k,hk⟩:∃k,l.length=k+1:=⟨l.length-1,by omega⟩
 have HK:=Lib.hid hk
 unfold zeR at H
 have hk2:k≤1048576:=by omega
 clear hl hle
 rw [hk] at H
 clear hk
 go_enter Tryz.func19,Tryz.ntmps19
 go_wp2_with fail
 refine H.out.mono ?_
 rintro e w1 ⟨g,cap,rfl,hL⟩
 have hc:w1.cell? ⟨g,k,none⟩=some (.int .i64 (b:Int)):=by
  have hL2:Listed w l (.slice (some ⟨g,0,none⟩) l.length cap) w1:=by rw [HK.out];exact hL
  refine hL2.cell (j:=k) ?_
  rw [←hx.out,HK.out]
  rfl
 have HB:=Lib.hid hL.2
 have hs1:IntKind.i64.wrap (((k+1:Nat):Int) -1)=(k:Int):=by rw [IntKind.wrap_i64];omega
 clear hL H HK hx
 go_wp2
 go_ret2
 exact ⟨rfl,HB.out⟩
theorem bucketOf_bad (key n:Nat) (w:World) (h:n<1∨1048576<n):
 Calls Tryz.prog 19 #[.int .u64 (key:Int),.int .i64 (n:Int)] w (BuckR 0 2 w):=by
 have H:=Lib.hid (pathOf_bad key (n:Int) w (by omega))
 clear h
 go_enter Tryz.func19,Tryz.ntmps19
 go_wp2_with fail
 refine H.out.mono ?_
 rintro e w1 ⟨rfl,rfl⟩
 go_wp2
 go_ret2
 exact ⟨rfl,Below.refl _ _⟩
def buckB (key n:Nat):Nat:=if 1≤n∧n≤1048576 then Jp.B key n else 0
def buckC (n:Nat):Nat:=if 1≤n∧n≤1048576 then 0 else 2
theorem bucketOf_any (key n:Nat) (w:World) (hk:U64 key):
 Calls Tryz.prog 19 #[.int .u64 (key:Int),.int .i64 (n:Int)] w (BuckR (buckB key n) (buckC n) w):=by
 unfold buckB buckC
 by_cases h:1≤n∧n≤1048576
 ·rw [if_pos h,if_pos h]
  exact bucketOf_good key n _ _ w (Lib.hid (pathOf_ok key n w hk h.1 h.2)) (List.length_pos_iff.2 (Jp.P_ne h.1)) (Nat.le_trans (Jp.P_length _ _) h.2) (Lib.hid (Jp.B_last h.1))
 ·rw [if_neg h,if_neg h]
  exact bucketOf_bad key n w (by omega)
theorem buck_tell (key n:Nat):orT (buckC n) (bt (Lib.decDigits (buckB key n)))=zbX (zdv ⟨[],[key,n]⟩):=by
 unfold buckC buckB zdv orT zbX
 by_cases h:1≤n∧n≤1048576
 ·simp only [List.getD_cons_zero,List.getD_cons_succ,if_pos h]
 ·simp only [List.getD_cons_zero,List.getD_cons_succ,if_neg h]
  rfl
theorem begin_some (l:List ByteArray):zaM l=zaS l:=by
 unfold zaM zaS
 by_cases h:l=[]
 ·subst h;rfl
 ·rw [if_neg h,if_neg (fun e=>h (List.eq_nil_of_length_eq_zero e))]
set_option maxRecDepth 100000 in
theorem balFault_ref (A:Option Addr) (c:Nat) (l:List ByteArray) (w:World) (hT:zcr w A c l):
 Calls Tryz.prog 17 #[.slice A l.length c,.int .i64 31,.int .i64 20,.int .i64 2,.int .i64 2] w (zaB (zaM l) w):=by
 obtain ⟨W0,hW0⟩:∃W0,W0=w.alloc (.cells #[.int .i64 0,.int .i64 0] 50):=⟨_,rfl⟩
 have hb0:Below w.heap.size w W0:=by rw [hW0];exact (Below.refl _ _).alloc (Nat.le_refl _) _
 have hN0:Blk W0 w.heap.size 50 #[.int .i64 0,.int .i64 0]:=by rw [hW0];exact Blk.new w _ _
 have HN0:=Lib.hid hN0
 have HB0:=Lib.hid hb0
 have hT0:=hT.below hb0
 have HH:=Lib.hid (zdS A c W0.heap.size l W0 hT0.r (Nat.le_refl _) hT.lm hT.s)
 have HFE:=Lib.hid (begin_some l)
 cases ho:zaS l with
 |some f=>
  rw [ho] at HH HFE
  have hc:=zdy ho
  have hz:((zcv (some f):Int)==0)=false:=beq_eq_false_iff_ne.2 (by show (f.code:Int)≠0;omega)
  unfold zaB at HH
  clear ho hc hT hT0 hb0 hN0
  obtain ⟨fc,hfc⟩:∃fc:Int,(zcv (some f):Int)=fc:=⟨_,rfl⟩
  obtain ⟨fa,hfa⟩:∃fa:Int,fAt (some f)=fa:=⟨_,rfl⟩
  have HV:Hid (zax (some f)= .agg #[.int .i64 fc,.int .i64 fa]):=Lib.hid (by unfold zax;rw [hfc,hfa])
  rw [hfc] at HH hz
  rw [hfa] at HH
  clear hfc hfa
  go_enter Tryz.func17,Tryz.ntmps17
  go_wp2_with fail
  rw [←hW0]
  clear hW0
  refine HH.out.mono ?_
  rintro e w1 ⟨rfl,hb1⟩
  have hB1:=HN0.out.below hb1 HN0.out.lt
  have c0:=hB1.cell 0
  have c1:=hB1.cell 1
  have f0:=hB1.frozen 0
  have f1:=hB1.frozen 1
  have hz1:w.heap.size<w1.heap.size:=hB1.lt
  have HB:=Lib.hid (HB0.out.trans (hb1.mono HB0.out.size))
  clear hB1 hb1
  simp at c0 c1
  go_wp2
  refine bodyPost_ret (v:= .agg #[.int .i64 fc,.int .i64 fa]) (by simp [results,Tryz.results17,go_sem,c0,c1,hz1]) rfl (zaw HFE.out (by rw [HV.out]) ?_)
  exact Below.alloc ((HB.out.setCell (p:=⟨w.heap.size,0,none⟩) (Nat.le_refl _) _).setCell (p:=⟨w.heap.size,1,none⟩) (Nat.le_refl _) _) (by have:=HB.out.size;simpa [World.setCell] using this) _
 |none=>
  rw [ho] at HH HFE
  have hhf:zbD l 2 2=none:=by
   unfold zaS at ho
   split at ho
   ·cases ho
   ·unfold zbD;rw [ho];rfl
  have htf:zah l 31=none:=by
   unfold zaS at ho
   split at ho
   ·cases ho
   ·rename_i h0
    unfold zah;rw [if_neg h0,ho]
    exact size_prime (n:=31) (by decide) (by decide) (by decide+kernel)
  have HHe:Hid (∀W,Below w.heap.size w W→Calls Tryz.prog 33 #[.slice A l.length c,.int .i64 2,.int .i64 2] W (FineIs W)):=Lib.hid fun W hb=>by
   have hT1:=hT.below hb
   have:=healthFault_ref A c W.heap.size l 2 2 W hT1.r (Nat.le_refl _) hT.lm hT.s
   rw [hhf] at this
   exact this
  have HTa:Hid (∀W,Below w.heap.size w W→Calls Tryz.prog 34 #[.slice A l.length c,.int .i64 31] W (FineIs W)):=Lib.hid fun W hb=>by
   have:=zeV l 31 W A c (hT.below hb)
   rw [htf] at this
   exact this
  unfold FineIs at HHe HTa
  have HH2:Hid (Calls Tryz.prog 32 #[.slice A l.length c] W0 (FineIs W0)):=Lib.hid HH.out
  unfold FineIs at HH2
  clear ho hT hT0 hb0 hN0 hhf htf HH
  go_enter Tryz.func17,Tryz.ntmps17
  go_wp2_with fail
  rw [←hW0]
  clear hW0
  refine HH2.out.mono ?_
  rintro e w1 ⟨rfl,hb1⟩
  have hB1:=HN0.out.below hb1 HN0.out.lt
  have HB1:=Lib.hid hB1
  have HBw:=Lib.hid (zaa HB0.out hb1)
  clear hB1 hb1 HN0 HB0 HH2
  go_wp2_with fail
  obtain ⟨W2,hW2⟩:∃W2,W2=w1.alloc (.cells #[.int .i64 0,.int .i64 (-1)] 50):=⟨_,rfl⟩
  have hk2:Blk W2 w1.heap.size 50 #[.int .i64 0,.int .i64 (-1)]:=by rw [hW2];exact Blk.new w1 _ _
  have hr2:Blk W2 w.heap.size 50 #[.int .i64 0,.int .i64 0]:=by rw [hW2];exact HB1.out.alloc _
  have hbw2:Below w.heap.size w W2:=by rw [hW2];exact HBw.out.alloc HBw.out.size _
  have hg2:w.heap.size<w1.heap.size:=HB1.out.lt
  rw [←hW2]
  clear hW2
  generalize w1.heap.size=g at*
  refine (HHe.out W2 hbw2).mono ?_
  rintro e w3 ⟨rfl,hb3⟩
  have hk3:=hk2.below hb3 hk2.lt
  have HR3:=Lib.hid (hr2.below hb3 hr2.lt)
  have HW3:=Lib.hid (zaa hbw2 hb3)
  have c0:=hk3.cell 0
  have c1:=hk3.cell 1
  have f0:=hk3.frozen 0
  have f1:=hk3.frozen 1
  simp at c0 c1
  have HK3:=Lib.hid hk3
  clear hk2 hr2 hbw2 hb3 HB1 HBw HHe hk3
  go_wp2_with fail
  obtain ⟨W4,hW4⟩:∃W4,W4=(w3.setCell ⟨g,0,none⟩ (.int .i64 0)).setCell ⟨g,1,none⟩ (.int .i64 (-1)):=⟨_,rfl⟩
  have hk4:Blk W4 g 50 #[.int .i64 0,.int .i64 (-1)]:=by rw [hW4];exact (HK3.out.zbk 0 _).zbk 1 _
  have hne:w.heap.size≠g:=by omega
  have hr4:Blk W4 w.heap.size 50 #[.int .i64 0,.int .i64 0]:=by rw [hW4];exact (HR3.out.far (p:=⟨g,0,none⟩) hne _).far (p:=⟨g,1,none⟩) hne _
  have hbw4:Below w.heap.size w W4:=by rw [hW4];exact (HW3.out.setCell (p:=⟨g,0,none⟩) (by show w.heap.size≤g;omega) _).setCell (p:=⟨g,1,none⟩) (by show w.heap.size≤g;omega) _
  rw [←hW4]
  clear hW4 c0 c1 f0 f1
  refine (HTa.out W4 hbw4).mono ?_
  rintro e w5 ⟨rfl,hb5⟩
  have hk5:=hk4.below hb5 hk4.lt
  have hr5:=hr4.below hb5 hr4.lt
  have hw5:=zaa hbw4 hb5
  have c0:=hk5.cell 0
  have c1:=hk5.cell 1
  have f0:=hk5.frozen 0
  have f1:=hk5.frozen 1
  have r0:=hr5.cell 0
  have r1:=hr5.cell 1
  have g0:=hr5.frozen 0
  have g1:=hr5.frozen 1
  simp at c0 c1 r0 r1
  have HW5:=Lib.hid hw5
  have HFin:Hid (Blk ((((w5.setCell ⟨g,0,none⟩ (.int .i64 0)).setCell ⟨g,1,none⟩ (.int .i64 (-1))).setCell ⟨w.heap.size,0,none⟩ (.int .i64 0)).setCell ⟨w.heap.size,1,none⟩ (.int .i64 (-1))) w.heap.size 50 #[.int .i64 0,.int .i64 (-1)]):=Lib.hid ((((hr5.far (p:=⟨g,0,none⟩) hne _).far (p:=⟨g,1,none⟩) hne _).zbk 0 _).zbk 1 _)
  have HBf:Hid (Below w.heap.size w ((((w5.setCell ⟨g,0,none⟩ (.int .i64 0)).setCell ⟨g,1,none⟩ (.int .i64 (-1))).setCell ⟨w.heap.size,0,none⟩ (.int .i64 0)).setCell ⟨w.heap.size,1,none⟩ (.int .i64 (-1)))):=Lib.hid ((((hw5.setCell (p:=⟨g,0,none⟩) (by show w.heap.size≤g;omega) _).setCell (p:=⟨g,1,none⟩) (by show w.heap.size≤g;omega) _).setCell (p:=⟨w.heap.size,0,none⟩) (Nat.le_refl _) _).setCell (p:=⟨w.heap.size,1,none⟩) (Nat.le_refl _) _)
  clear hk4 hr4 hbw4 hb5 HK3 HR3 HW3 HTa hk5 hr5 hw5
  go_wp2
  refine bodyPost_ret (results_cell_row (P:=Tryz.prog) rfl _ _ w.heap.size _ _ (0,0) _ rfl HFin.out Tryz.underlying50 rfl (by kernel_rfl)) rfl ?_
  exact zaw HFE.out rfl HBf.out
def drainR (c:zb7) (s:BS) (z:ByteArray) (v:Bool):Nat×BS:=if has c.hosts z=true then (0,drainS s z v) else (5,s)
def RefDrainC (B:Nat) (p:RBp) (c:zb7) (n:Nat) (r:Nat×BS) (W:World) (e:Ending) (w':World):Prop:=e= .returned (.int .i64 (r.1:Int))∧zaZ B p c n r.2 W w'
section
variable {W:World} {B n:Nat} {p:RBp} {c:zb7} {s:BS}
set_option maxRecDepth 100000 in
theorem refB_drainNo (z:ByteArray) (v:Bool) (h:zcE W B p c n s) (hz:z∉hosts s.st):
 Calls Tryz.prog 23 #[.pointer (some ⟨p.mb,0,none⟩),.string z,.bool v] W fun e w'=>e= .returned (.int .i64 5)∧W=w':=by
 obtain ⟨rs,hR,hM⟩:=h.h
 have HF:Hid (Calls Tryz.prog 46 #[.pointer (some ⟨p.mh,0,none⟩),.string z] W fun e w'=>e= .returned (.int .i64 (-1))∧W=w'):=Lib.hid (by
  have:=refFind z W hR (by have:=hM.le;have:=hM.len;omega)
  rw [←hM.hosts] at this
  exact this.mono fun e w' ⟨a,b⟩=>⟨by rw [a,zbV (fun t ht e=>hz (by rw [e];exact ht))],b⟩)
 have c0:=h.cells.1
 clear h hR hM hz
 go_enter Tryz.func23,Tryz.ntmps23
 go_wp2_with fail
 refine HF.out.mono ?_
 rintro e w1 ⟨rfl,rfl⟩
 go_wp2
 go_ret
 exact ⟨rfl,rfl⟩
theorem refB_drainAny (z:ByteArray) (v:Bool) (h:zcE W B p c n s) (hB:B≤W.heap.size) (hs:hosts s.st=c.hosts) (hn:n≤900):
 Calls Tryz.prog 23 #[.pointer (some ⟨p.mb,0,none⟩),.string z,.bool v] W (RefDrainC B p c (n+1) (drainR c s z v) W):=by
 unfold drainR
 by_cases hz:has c.hosts z=true
 ·rw [if_pos hz]
  exact refB_drain z v h hB (by rw [hs];exact zbw.1 hz) hn
 ·rw [if_neg hz]
  exact (refB_drainNo z v h (by rw [hs];exact fun hm=>hz (zbw.2 hm))).mono fun e w' ⟨a,b⟩=>⟨a,by rw [←b];exact zaZ.refl (h.more (Nat.le_succ n))⟩
end
end Go.Proofs.YthkfhfldoniolaaGreatDoor
