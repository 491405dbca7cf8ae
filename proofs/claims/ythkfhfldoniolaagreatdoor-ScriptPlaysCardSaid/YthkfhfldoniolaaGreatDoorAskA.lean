/-
  The law's asked: rival, ring. The law's asked: table, moves. The law's asked: moves.
-/
import Derived.Test.YthkfhfldoniolaaGreatDoorAnsA
import Derived.Test.YthkfhfldoniolaaGreatDoorFillA
import Derived.Test.YthkfhfldoniolaaGreatDoorRingA
set_option maxHeartbeats 4000000
namespace Go.Proofs.YthkfhfldoniolaaGreatDoor
open Go.RowKit
section
variable {w W W':World} {mp n c now:Nat} {p:RBp} {A:Option Addr} {hs:List ByteArray} {s:BS}
def zfj (t:ByteArray) (W:World) (e:Ending) (w':World):Prop:=e= .returned (.string t)∧Below W.heap.size W w'
theorem hosts_12 (hI:PlI hs n now s):hs.length≤12:=(zal.1 hI.ok.hf).1
set_option maxRecDepth 100000 in
theorem ask_rival (hM:zdO w W mp n p A c hs s now) (hI:PlI hs n now s) (k:Nat) (hk:k≤9999999) {Al:Option Addr} {cl c2:Nat} {ad:Addr} (hN:w.cell? ad=some (.int .i64 (k:Int))):
 Calls Tryz.prog 27 #[.pointer (some ⟨mp,0,none⟩),.agg #[.string ⟨#[114,105,118,97,108]⟩,.slice Al 0 cl,.slice (some ad) 1 c2]] W (zfj (zbA (zbm k hs) [32]) W):=by
 obtain ⟨W1,hW1⟩:∃W1,W1=W.alloc (.cells #[.string ⟨#[114,105,118,97,108]⟩,.slice Al 0 cl,.slice (some ad) 1 c2] 31):=⟨_,rfl⟩
 have hb1:Below W.heap.size W W1:=by rw [hW1];exact (Below.refl _ _).alloc (Nat.le_refl _) _
 have hk1:Blk W1 W.heap.size 31 #[.string ⟨#[114,105,118,97,108]⟩,.slice Al 0 cl,.slice (some ad) 1 c2]:=by rw [hW1];exact Blk.new _ _ _
 have hM1:=hM.below hb1
 have hwm:IntKind.u64.wrap (k:Int)=(k:Int):=by rw [IntKind.wrap_u64];omega
 have hU:U64 k:=by unfold U64;omega
 have h12:=hosts_12 hI
 have HSq:Hid (∀w',Below W1.heap.size W1 w'→w'.cell? ⟨mp,1,none⟩=some (.slice A hs.length c)∧w'.cell? ⟨W.heap.size,2,none⟩=some (.slice (some ad) 1 c2)∧w'.cell? ad=some (.int .i64 (k:Int))):=Lib.hid fun w' hb=>
  ⟨(hM1.below hb).blk.cell 1,(hk1.below hb hk1.lt).cell 2,((hM1.below hb).b.cell (World.block_lt_of_cell? _ _ hN)).trans hN⟩
 have hS0:=HSq.out W1.drew (zad (Below.refl _ _))
 have htx:=hM.tx.below (hM1.below (zad (Below.refl _ _))).b
 have HC:=Lib.hid (orderOf_any A c hs k W1.drew htx.r (by omega) htx.s hU)
 have hol:=zfB k hs
 have hsm:∀y∈zbm k hs,y.size≤1000:=fun y hy=>by
  have:=hI.small y ((zbY k hs).1.mem_iff.1 hy)
  omega
 have HJ:Hid (∀w2 B A' c',w2.ownsRow B 9 1 (.slice A' (zbm k hs).length c') (zbm k hs).length (zak (zbm k hs))→Calls Tryz.prog 24 #[.slice A' (zbm k hs).length c',.string ⟨#[32]⟩] w2 fun e w'=>e= .returned (.string (zbA (zbm k hs) [32]))∧w2=w'):=Lib.hid fun w2 B A' c' ho=>zdY A' c' (zbm k hs) ⟨#[32]⟩ w2 (Reads.zbv ho) (by omega) hsm (by decide)
 unfold zaL at HC
 have HB1:=Lib.hid hb1
 clear hM hI hN hM1 hb1 hk1 htx hU h12 hsm hol
 generalize zbm k hs=U at*
 generalize zbA U [32]=res at*
 go_enter Tryz.func27,Tryz.ntmps27
 go_wp2_with fail
 rw [←hW1]
 clear hW1
 go_region_held3 (fun w'=>w'.cell? ⟨mp,1,none⟩=some (.slice A hs.length c)∧w'.cell? ⟨W.heap.size,2,none⟩=some (.slice (some ad) 1 c2)∧w'.cell? ad=some (.int .i64 (k:Int))) (first|exact hS2|exact hS0|go_keep) (first
  |(go_at_call 53
    refine HC.out.mono ?_
    rintro e w2 ⟨A',c',rfl,ho,hb2⟩
    have hS2:=HSq.out w2 (zab hb2))
  |(go_at_call 24
    refine (HJ.out _ _ A' c' ho).mono ?_
    rintro e w3 ⟨rfl,rfl⟩))
 all_goals
  have HQ:=Lib.hid (zaa HB1.out (zab hb2))
  clear hS2 hS0 HC HSq HJ ho hb2
  go_wp2
  go_ret
  exact ⟨rfl,HQ.out⟩
theorem swapK {K:Act→World→Prop} {a:Act} {w:World} (hf:False) (d:Option Tmp) (v:Value) (_:K (a.put d v) w):K a w:=hf.elim
set_option maxRecDepth 100000 in
theorem ask_ring (hM:zdO w W mp n p A c hs s now) (hI:PlI hs n now s) (k m:Nat) (hk:k≤9999999) (hm:m≤9999999) {Al:Option Addr} {cl c2:Nat} {ad:Addr} (hN:w.cell? ad=some (.int .i64 (k:Int))) (hN2:w.cell? ⟨ad.block,ad.off+1,none⟩=some (.int .i64 (m:Int))):
 Calls Tryz.prog 27 #[.pointer (some ⟨mp,0,none⟩),.agg #[.string ⟨#[114,105,110,103]⟩,.slice Al 0 cl,.slice (some ad) 2 c2]] W (zfj (zbX (zaJ .ring ⟨[],[k,m]⟩ hs s now).1) W):=by
 obtain ⟨W1,hW1⟩:∃W1,W1=W.alloc (.cells #[.string ⟨#[114,105,110,103]⟩,.slice Al 0 cl,.slice (some ad) 2 c2] 31):=⟨_,rfl⟩
 have hb1:Below W.heap.size W W1:=by rw [hW1];exact (Below.refl _ _).alloc (Nat.le_refl _) _
 have hk1:Blk W1 W.heap.size 31 #[.string ⟨#[114,105,110,103]⟩,.slice Al 0 cl,.slice (some ad) 2 c2]:=by rw [hW1];exact Blk.new _ _ _
 have hM1:=hM.below hb1
 have hwm:IntKind.u64.wrap (m:Int)=(m:Int):=by rw [IntKind.wrap_u64];omega
 have hU:U64 m:=by unfold U64;omega
 have HSq:Hid (∀w',Below W1.heap.size W1 w'→w'.cell? ⟨mp,1,none⟩=some (.slice A hs.length c)∧w'.cell? ⟨W.heap.size,2,none⟩=some (.slice (some ad) 2 c2)∧w'.cell? ad=some (.int .i64 (k:Int))∧w'.cell? ⟨ad.block,ad.off+1,none⟩=some (.int .i64 (m:Int))):=Lib.hid fun w' hb=>
  ⟨(hM1.below hb).blk.cell 1,(hk1.below hb hk1.lt).cell 2,((hM1.below hb).b.cell (World.block_lt_of_cell? _ _ hN)).trans hN,((hM1.below hb).b.cell (World.block_lt_of_cell? _ _ hN2)).trans hN2⟩
 have hS0:=HSq.out W1.drew (zad (Below.refl _ _))
 have hTX:Hid (∀w',Below W1.heap.size W1 w'→zcr w' A c hs):=Lib.hid fun w' hb=>hM.tx.below (hM1.below hb).b
 obtain ⟨fc,hfc⟩:∃fc:Int,((zcv (zaH hs (k:Int)):Nat):Int)=fc:=⟨_,rfl⟩
 obtain ⟨fa,hfa⟩:∃fa:Int,fAt (zaH hs (k:Int))=fa:=⟨_,rfl⟩
 have HC:Hid (∀w',Below W1.heap.size W1 w'→Calls Tryz.prog 50 #[.slice A hs.length c,.int .i64 (k:Int)] w' fun e w2=>e= .returned (.agg #[.int .i64 fc,.int .i64 fa])∧Below w'.heap.size w' w2):=Lib.hid fun w' hb=>by
  have ht:=hTX.out w' hb
  have:=ringFault_ref A c w'.heap.size hs (k:Int) w' ht.r (Nat.le_refl _) ht.lm ht.s
  unfold zaB at this
  rw [hfc,hfa] at this
  exact this
 have HB1:=Lib.hid hb1
 have hS1:=HSq.out (W1.drew.alloc (.cells #[.int .i64 0,.int .i64 0] 50)) ((zad (Below.refl W1.heap.size W1)).alloc (Nat.le_refl _) _)
 have hres:(∃f,zaH hs (k:Int)=some f∧fc=((f.code:Nat):Int)∧1≤f.code∧f.code≤9∧zbX (zaJ .ring ⟨[],[k,m]⟩ hs s now).1=ze8 f.code)∨(zaH hs (k:Int)=none∧fc=0):=by
  cases hrf:zaH hs (k:Int) with
  |some f=>
   have hcd:=ringFault_cd hrf
   refine .inl ⟨f,rfl,by rw [←hfc,hrf];rfl,hcd.1,by have:=hcd.2.1;omega, ?_⟩
   unfold zaJ
   dsimp only
   rw [show ([k,m]:List Nat).getD 0 0=k from rfl,hrf]
   unfold zbX
   rw [if_neg (by show¬f.code=0;have:=hcd.1;omega)]
  |none=>exact .inr ⟨rfl,by rw [←hfc,hrf];rfl⟩
 have hAll:Hid (zdO w W1 mp n p A c hs s now∧PlI hs n now s):=Lib.hid ⟨hM1,hI⟩
 clear hM hI hM1 hb1 hk1 hN hN2 hfc hfa
 generalize htl:zbX (zaJ .ring ⟨[],[k,m]⟩ hs s now).1=TL at*
 have HTL:=Lib.hid htl
 clear htl
 go_enter Tryz.func27,Tryz.ntmps27
 go_wp2_with fail
 rw [←hW1]
 clear hW1
 go_region_held3 (fun w'=>w'.cell? ⟨mp,1,none⟩=some (.slice A hs.length c)∧w'.cell? ⟨W.heap.size,2,none⟩=some (.slice (some ad) 2 c2)∧w'.cell? ad=some (.int .i64 (k:Int))∧w'.cell? ⟨ad.block,ad.off+1,none⟩=some (.int .i64 (m:Int))) (first|exact hS3|exact hS2|exact hS1|exact hS0|go_keep) (first
  |(go_at_call 50
    refine (HC.out W1.drew (zad (Below.refl _ _))).mono ?_
    rintro e w2 ⟨rfl,hb2⟩
    have hb3:Below W1.heap.size W1 w2:=zab hb2
    have hS2:=HSq.out w2 hb3
    have HX:Hid (Below W1.heap.size W1 (w2.alloc (.cells #[.int .i64 fc,.int .i64 fa] 50))∧Blk (w2.alloc (.cells #[.int .i64 fc,.int .i64 fa] 50)) w2.heap.size 50 #[.int .i64 fc,.int .i64 fa]):=Lib.hid ⟨zaa hb3 ((Below.refl _ _).alloc (Nat.le_refl _) _),Blk.new _ _ _⟩
    have hS3:=HSq.out _ HX.out.1
    clear hb3 hb2)
  |(go_at_call 50
    refine (HC.out (W1.drew.alloc (.cells #[.int .i64 0,.int .i64 0] 50)) ((zad (Below.refl W1.heap.size W1)).alloc (Nat.le_refl _) _)).mono ?_
    rintro e w2 ⟨rfl,hb2⟩
    have hz:=Blk.new W1.drew 50 #[.int .i64 0,.int .i64 0]
    have hb3:Below W1.heap.size W1 w2:=zab (zaa ((Below.refl W1.drew.heap.size W1.drew).alloc (Nat.le_refl _) (.cells #[.int .i64 0,.int .i64 0] 50)) hb2)
    have hS2:=HSq.out w2 hb3
    have hz2:Blk w2 W1.heap.size 50 #[.int .i64 0,.int .i64 0]:=hz.below hb2 hz.lt
    have q0:=hz2.cell 0
    have q1:=hz2.cell 1
    have z0:=hz2.frozen 0
    have z1:=hz2.frozen 1
    have HX:Hid (Below W1.heap.size W1 ((w2.setCell ⟨W1.heap.size,0,none⟩ (.int .i64 fc)).setCell ⟨W1.heap.size,1,none⟩ (.int .i64 fa))∧Blk ((w2.setCell ⟨W1.heap.size,0,none⟩ (.int .i64 fc)).setCell ⟨W1.heap.size,1,none⟩ (.int .i64 fa)) W1.heap.size 50 #[.int .i64 fc,.int .i64 fa]):=Lib.hid ⟨(hb3.setCell (p:=⟨W1.heap.size,0,none⟩) (Nat.le_refl _) _).setCell (p:=⟨W1.heap.size,1,none⟩) (Nat.le_refl _) _,(hz2.zbk 0 _).zbk 1 _⟩
    have hS3:=HSq.out _ HX.out.1
    clear hz hb3 hz2 hb2))
 all_goals first
  |(obtain ⟨W2,hW2⟩:∃W2,W2=w2.alloc (.cells #[.int .i64 fc,.int .i64 fa] 50):=⟨_,rfl⟩
    rw [←hW2] at HX
    rw [←hW2]
    clear hW2
    obtain ⟨h3,k3⟩:=HX.out
    have HB2:=Lib.hid h3
    have HK2:=Lib.hid k3
    clear hS0 hS1 hS2 hS3 HX h3 k3 HC
    generalize w2.heap.size=g3 at*)
  |(obtain ⟨W2,hW2⟩:∃W2,W2=(w2.setCell ⟨W1.heap.size,0,none⟩ (.int .i64 fc)).setCell ⟨W1.heap.size,1,none⟩ (.int .i64 fa):=⟨_,rfl⟩
    rw [←hW2] at HX
    rw [←hW2]
    clear hW2
    obtain ⟨h3,k3⟩:=HX.out
    have HB2:=Lib.hid h3
    have HK2:=Lib.hid k3
    clear hS0 hS1 hS2 hS3 HX h3 k3 HC q0 q1 z0 z1
    generalize hg3:W1.heap.size=g3 at HK2 ⊢
    clear hg3)
 all_goals
  have HB12:=Lib.hid (zaa HB1.out HB2.out)
  rcases hres with ⟨f,hrf,hfcv,h1,h9,htl⟩|⟨hrf,hfcv⟩
  ·obtain ⟨kf,hkf⟩:∃kf,f.code=kf+1:=⟨f.code-1,by omega⟩
   have HT:=Lib.hid (zci kf (by omega) W2)
   have HE:Hid (ze8 (kf+1)=TL):=Lib.hid (by rw [htl,hkf])
   rw [hkf] at hfcv
   subst hfcv
   have c0:=HK2.out.cell 0
   simp only [List.getElem?_toArray,List.getElem?_cons_zero] at c0
   have d0:decide (((kf+1:Nat):Int)>0)=true:=by simp
   clear hrf htl h1 h9 hkf hAll HTL HK2 hTX HSq HB2 HB1
   go_wp2_with fail
   refine HT.out.mono ?_
   rintro e w3 ⟨rfl,hb3⟩
   have HQ:=Lib.hid (zaa HB12.out hb3)
   clear hb3 HT HB12
   go_wp2
   go_ret
   exact ⟨by rw [←HE.out];rfl,HQ.out⟩
  ·obtain ⟨x,hx0,hx1⟩:=hosts_first (l:=hs) (cp:=k) (key:=m) hAll.out.2.ok.h0 (by have:=(zcB hrf).2.2.1;omega)
   have hTLx:TL=x:=by
    rw [←HTL.out]
    unfold zaJ
    dsimp only
    rw [show ([k,m]:List Nat).getD 0 0=k from rfl,hrf]
    show (zcI hs k m).headD ⟨#[]⟩=x
    rw [List.headD_eq_head?_getD,List.head?_eq_getElem?,hx0]
    rfl
   have hS4:=HSq.out W2.drew (zad HB2.out)
   have hTd:=hTX.out W2.drew (zad HB2.out)
   have HRm:=Lib.hid (refMade A c hs k W2.drew hTd.r hrf hTd.s)
   have HNx:Hid (∀w4 rp,RefIs rp hs k w4→Calls Tryz.prog 52 #[.pointer (some ⟨rp,0,none⟩),.int .u64 (m:Int),.int .i64 1] w4 (OneP x w4)):=Lib.hid fun w4 rp h=>by
    have:=refIs_next 1 h hU
    rw [hx1] at this
    exact this.mono fun e w'=>oneP_of
   subst hfcv
   have c0:=HK2.out.cell 0
   simp only [List.getElem?_toArray,List.getElem?_cons_zero] at c0
   unfold RefMade at HRm
   unfold OneP at HNx
   have HSr:=Lib.hid (fun w4 (h:Below W2.heap.size W2 w4)=>HSq.out w4 (zaa HB2.out h))
   clear hrf hAll HTL HK2 hTX HSq HB2 HB1 hx0 hx1 hTd
   go_wp2_with fail
   go_region_held3 (fun w'=>w'.cell? ⟨mp,1,none⟩=some (.slice A hs.length c)∧w'.cell? ⟨W.heap.size,2,none⟩=some (.slice (some ad) 2 c2)∧w'.cell? ad=some (.int .i64 (k:Int))∧w'.cell? ⟨ad.block,ad.off+1,none⟩=some (.int .i64 (m:Int))) (first|exact hS6|exact hS5|exact hS4|go_keep) (first
    |(go_at_call 51
      refine HRm.out.mono ?_
      rintro e w5 ⟨rp,rfl,hri,hb5⟩
      have hS5:=HSr.out w5 (zab hb5))
    |(go_at_call 52
      refine (HNx.out w5 rp hri).mono ?_
      rintro e w6 ⟨g6,cap6,rfl,hc6,hcap6,hb6⟩
      have hS6:=HSr.out w6 (zaa (zab hb5) hb6)
      go_wp2_with fail
      have HQ:=Lib.hid (zaa HB12.out (zaa (zab hb5) hb6))
      have HX:=Lib.hid hTLx
      clear hb5 hb6 HNx HRm hri hTLx HSr c0
      rcases Classical.em False with hf|hf
      rotate_left
      ·rename_i K hK
       refine hK.out _ _ hS6 (fun hHeld=> ?_)
       clear hK K
       try simp only [Act.put,List.setIfInBounds_toArray,List.set_cons_zero,List.set_cons_succ]
       refine wpAnyH_ready (rs:=[15]) (by kernel_rfl) (by simp) (AllReadyH.cons (o:=_) rfl (fun K hK=> ?_) AllReadyH.nil)
       go_simp
       refine hK.out _ _ hS6 (fun hHeld=> ?_)
       clear hK K
       try simp only [Act.put,List.setIfInBounds_toArray,List.set_cons_zero,List.set_cons_succ]
       refine wpAnyH_ready (rs:=[16]) (by kernel_rfl) (by simp) (AllReadyH.cons (o:=_) rfl (fun K hK=> ?_) AllReadyH.nil)
       go_simp
       refine hK.out _ _ hS6 (fun hHeld=> ?_)
       clear hK K
       try simp only [Act.put,List.setIfInBounds_toArray,List.set_cons_zero,List.set_cons_succ]
       refine wpAnyH_ready (rs:=[17]) (by kernel_rfl) (by simp) (AllReadyH.cons (o:=_) rfl (fun K hK=> ?_) AllReadyH.nil)
       go_simp
       refine hK.out _ _ hS6 (fun hHeld=> ?_)
       clear hK K hS4 hS5 hS6 hHeld hc6
       refine wpAnyH_done (by kernel_rfl) ?_ _
       refine NoPanic.normal ?_
       go_wp2
       go_ret
       exact ⟨by rw [HX.out];rfl,HQ.out⟩
      refine swapK hf (some 142) (.slice (some ad) 1 1) ?_))
   all_goals exact hf.elim
end
section
variable {w W W':World} {mp n c now:Nat} {p:RBp} {A:Option Addr} {hs:List ByteArray} {s:BS}
set_option maxRecDepth 100000 in
theorem ask_table (hM:zdO w W mp n p A c hs s now) (hI:PlI hs n now s) (k:Nat) {Al:Option Addr} {cl c2:Nat} {ad:Addr} (hN:w.cell? ad=some (.int .i64 (k:Int))):
 Calls Tryz.prog 27 #[.pointer (some ⟨mp,0,none⟩),.agg #[.string ⟨#[116,97,98,108,101]⟩,.slice Al 0 cl,.slice (some ad) 1 c2]] W (zfj (zbX (zaJ .table ⟨[],[k]⟩ hs s now).1) W):=by
 obtain ⟨i0,hi0,hz0,hz1,hz2⟩:=info_parts zc6
 obtain ⟨W1,hW1⟩:∃W1,W1=W.alloc (.cells #[.string ⟨#[116,97,98,108,101]⟩,.slice Al 0 cl,.slice (some ad) 1 c2] 31):=⟨_,rfl⟩
 have hb1:Below W.heap.size W W1:=by rw [hW1];exact (Below.refl _ _).alloc (Nat.le_refl _) _
 have hk1:Blk W1 W.heap.size 31 #[.string ⟨#[116,97,98,108,101]⟩,.slice Al 0 cl,.slice (some ad) 1 c2]:=by rw [hW1];exact Blk.new _ _ _
 have hM1:=hM.below hb1
 have HSq:Hid (∀w',Below W1.heap.size W1 w'→w'.cell? ⟨mp,1,none⟩=some (.slice A hs.length c)∧w'.cell? ⟨W.heap.size,2,none⟩=some (.slice (some ad) 1 c2)∧w'.cell? ad=some (.int .i64 (k:Int))):=Lib.hid fun w' hb=>
  ⟨(hM1.below hb).blk.cell 1,(hk1.below hb hk1.lt).cell 2,((hM1.below hb).b.cell (World.block_lt_of_cell? _ _ hN)).trans hN⟩
 have hS0:=HSq.out W1.drew (zad (Below.refl _ _))
 have hTX:Hid (∀w',Below W1.heap.size W1 w'→zcr w' A c hs):=Lib.hid fun w' hb=>hM.tx.below (hM1.below hb).b
 obtain ⟨fc,hfc⟩:∃fc:Int,((zcv (zah hs (k:Int)):Nat):Int)=fc:=⟨_,rfl⟩
 obtain ⟨fa,hfa⟩:∃fa:Int,fAt (zah hs (k:Int))=fa:=⟨_,rfl⟩
 have HC:Hid (∀w',Below W1.heap.size W1 w'→Calls Tryz.prog 34 #[.slice A hs.length c,.int .i64 (k:Int)] w' fun e w2=>e= .returned (.agg #[.int .i64 fc,.int .i64 fa])∧Below w'.heap.size w' w2):=Lib.hid fun w' hb=>by
  have ht:=hTX.out w' hb
  have:=zeV hs (k:Int) w' A c ht
  unfold zaB at this
  rw [hfc,hfa] at this
  exact this
 have HB1:=Lib.hid hb1
 have hS1:=HSq.out (W1.drew.alloc (.cells #[.int .i64 0,.int .i64 0] 50)) ((zad (Below.refl W1.heap.size W1)).alloc (Nat.le_refl _) _)
 have hres:(∃f,zah hs (k:Int)=some f∧fc=((f.code:Nat):Int)∧1≤f.code∧f.code≤9∧zbX (zaJ .table ⟨[],[k]⟩ hs s now).1=ze8 f.code)∨(zah hs (k:Int)=none∧fc=0):=by
  cases hrf:zah hs (k:Int) with
  |some f=>
   have hcd:=zaC hrf
   refine .inl ⟨f,rfl,by rw [←hfc,hrf];rfl,hcd.1,by have:=hcd.2.1;omega, ?_⟩
   unfold zaJ
   dsimp only
   rw [show ([k]:List Nat).getD 0 0=k from rfl,hrf]
   unfold zbX
   rw [if_neg (by show¬f.code=0;have:=hcd.1;omega)]
  |none=>exact .inr ⟨rfl,by rw [←hfc,hrf];rfl⟩
 have hAll:Hid (zdO w W1 mp n p A c hs s now∧PlI hs n now s):=Lib.hid ⟨hM1,hI⟩
 clear hM hI hM1 hb1 hk1 hN hfc hfa
 generalize htl:zbX (zaJ .table ⟨[],[k]⟩ hs s now).1=TL at*
 have HTL:=Lib.hid htl
 clear htl
 go_enter Tryz.func27,Tryz.ntmps27
 go_wp2_with fail
 rw [←hW1]
 clear hW1
 go_region_held3 (fun w'=>w'.cell? ⟨mp,1,none⟩=some (.slice A hs.length c)∧w'.cell? ⟨W.heap.size,2,none⟩=some (.slice (some ad) 1 c2)∧w'.cell? ad=some (.int .i64 (k:Int))) (first|exact hS3|exact hS2|exact hS1|exact hS0|go_keep) (first
  |(go_at_call 34
    refine (HC.out W1.drew (zad (Below.refl _ _))).mono ?_
    rintro e w2 ⟨rfl,hb2⟩
    have hb3:Below W1.heap.size W1 w2:=zab hb2
    have hS2:=HSq.out w2 hb3
    have HX:Hid (Below W1.heap.size W1 (w2.alloc (.cells #[.int .i64 fc,.int .i64 fa] 50))∧Blk (w2.alloc (.cells #[.int .i64 fc,.int .i64 fa] 50)) w2.heap.size 50 #[.int .i64 fc,.int .i64 fa]):=Lib.hid ⟨zaa hb3 ((Below.refl _ _).alloc (Nat.le_refl _) _),Blk.new _ _ _⟩
    have hS3:=HSq.out _ HX.out.1
    clear hb3 hb2)
  |(go_at_call 34
    refine (HC.out (W1.drew.alloc (.cells #[.int .i64 0,.int .i64 0] 50)) ((zad (Below.refl W1.heap.size W1)).alloc (Nat.le_refl _) _)).mono ?_
    rintro e w2 ⟨rfl,hb2⟩
    have hz:=Blk.new W1.drew 50 #[.int .i64 0,.int .i64 0]
    have hb3:Below W1.heap.size W1 w2:=zab (zaa ((Below.refl W1.drew.heap.size W1.drew).alloc (Nat.le_refl _) (.cells #[.int .i64 0,.int .i64 0] 50)) hb2)
    have hS2:=HSq.out w2 hb3
    have hz2:Blk w2 W1.heap.size 50 #[.int .i64 0,.int .i64 0]:=hz.below hb2 hz.lt
    have q0:=hz2.cell 0
    have q1:=hz2.cell 1
    have z0:=hz2.frozen 0
    have z1:=hz2.frozen 1
    have HX:Hid (Below W1.heap.size W1 ((w2.setCell ⟨W1.heap.size,0,none⟩ (.int .i64 fc)).setCell ⟨W1.heap.size,1,none⟩ (.int .i64 fa))∧Blk ((w2.setCell ⟨W1.heap.size,0,none⟩ (.int .i64 fc)).setCell ⟨W1.heap.size,1,none⟩ (.int .i64 fa)) W1.heap.size 50 #[.int .i64 fc,.int .i64 fa]):=Lib.hid ⟨(hb3.setCell (p:=⟨W1.heap.size,0,none⟩) (Nat.le_refl _) _).setCell (p:=⟨W1.heap.size,1,none⟩) (Nat.le_refl _) _,(hz2.zbk 0 _).zbk 1 _⟩
    have hS3:=HSq.out _ HX.out.1
    clear hz hb3 hz2 hb2))
 all_goals first
  |(obtain ⟨W2,hW2⟩:∃W2,W2=w2.alloc (.cells #[.int .i64 fc,.int .i64 fa] 50):=⟨_,rfl⟩
    rw [←hW2] at HX
    rw [←hW2]
    clear hW2
    obtain ⟨h3,k3⟩:=HX.out
    have HB2:=Lib.hid h3
    have HK2:=Lib.hid k3
    clear hS0 hS1 hS2 hS3 HX h3 k3 HC
    generalize w2.heap.size=g3 at*)
  |(obtain ⟨W2,hW2⟩:∃W2,W2=(w2.setCell ⟨W1.heap.size,0,none⟩ (.int .i64 fc)).setCell ⟨W1.heap.size,1,none⟩ (.int .i64 fa):=⟨_,rfl⟩
    rw [←hW2] at HX
    rw [←hW2]
    clear hW2
    obtain ⟨h3,k3⟩:=HX.out
    have HB2:=Lib.hid h3
    have HK2:=Lib.hid k3
    clear hS0 hS1 hS2 hS3 HX h3 k3 HC q0 q1 z0 z1
    generalize hg3:W1.heap.size=g3 at HK2 ⊢
    clear hg3)
 all_goals
  have HB12:=Lib.hid (zaa HB1.out HB2.out)
  rcases hres with ⟨f,hrf,hfcv,h1,h9,htl⟩|⟨hrf,hfcv⟩
  ·obtain ⟨kf,hkf⟩:∃kf,f.code=kf+1:=⟨f.code-1,by omega⟩
   have HT:=Lib.hid (zci kf (by omega) W2)
   have HE:Hid (ze8 (kf+1)=TL):=Lib.hid (by rw [htl,hkf])
   rw [hkf] at hfcv
   subst hfcv
   have c0:=HK2.out.cell 0
   simp only [List.getElem?_toArray,List.getElem?_cons_zero] at c0
   have d0:decide (((kf+1:Nat):Int)>0)=true:=by simp
   clear hrf htl h1 h9 hkf hAll HTL HK2 hTX HSq HB2 HB1
   go_wp2_with fail
   refine HT.out.mono ?_
   rintro e w3 ⟨rfl,hb3⟩
   have HQ:=Lib.hid (zaa HB12.out hb3)
   clear hb3 HT HB12
   go_wp2
   go_ret
   exact ⟨by rw [←HE.out];rfl,HQ.out⟩
  ·have hI2:=hAll.out.2
   have hY:=zcU (fun _=>default) hs k hrf
   have hYl:=zbB hs k
   obtain ⟨_,_,n5,hn5,hn6,hn7,_⟩:=zaG hrf
   have hlen:((za2 hs k).map (zbT hs)).length=k:=by rw [List.length_map,hYl]
   have hat:∀i (hi:i<k),∃j:Nat,(za2 hs k)[i]? =some (j:Int)∧∃hj:j<hs.length,((za2 hs k).map (zbT hs))[i]? =some hs[j]:=fun i hi=>by
    obtain ⟨j,e1,e2⟩:=hY.slot i (by rw [hYl];exact hi)
    refine ⟨j,e1,e2, ?_⟩
    rw [List.getElem?_map,e1]
    simp [zbT,e2]
   have hsm:∀y∈(za2 hs k).map (zbT hs),y.size≤1000:=fun y hy=>by
    obtain ⟨i,hi,rfl⟩:=List.getElem_of_mem hy
    rw [hlen] at hi
    obtain ⟨j,_,hj,e⟩:=hat i hi
    have h2:=List.getElem?_eq_getElem (show i<((za2 hs k).map (zbT hs)).length by rw [hlen];exact hi)
    rw [h2] at e
    have:=hI2.small _ (List.getElem_mem hj)
    rw [Option.some.inj e]
    omega
   obtain ⟨xs,hxs⟩:∃xs,xs=(za2 hs k).map (zbT hs):=⟨_,rfl⟩
   rw [←hxs] at hat hsm hlen
   have hTLx:TL=zbA xs [32]:=by
    rw [←HTL.out]
    unfold zaJ
    dsimp only
    rw [show ([k]:List Nat).getD 0 0=k from rfl,hrf,hxs]
    rfl
   have hS4:=HSq.out W2.drew (zad HB2.out)
   have hTd:=hTX.out W2.drew (zad HB2.out)
   have HRm:=Lib.hid (hY.ref W2.drew A c hTd)
   have HSr:=Lib.hid (fun w4 (h:Below W2.heap.size W2 w4)=>HSq.out w4 (zaa HB2.out h))
   have HTr:=Lib.hid (fun w4 (h:Below W2.heap.size W2 w4)=>hTX.out w4 (zaa HB2.out h))
   have HJ:Hid (∀w2 B A3 c3,w2.ownsRow B 9 1 (.slice A3 k c3) k (zak xs)→Calls Tryz.prog 24 #[.slice A3 k c3,.string ⟨#[32]⟩] w2 fun e w'=>e= .returned (.string (zbA xs [32]))∧w2=w'):=Lib.hid fun w2 B A3 c3 ho=>by
    rw [←hlen] at ho ⊢
    exact zdY A3 c3 xs ⟨#[32]⟩ w2 (Reads.zbv ho) (by omega) hsm (by decide)
   have HRd:Hid (∀w2 A3,Reads w2 w2.heap.size 1 A3 k ((za2 hs k).map intV)→Below W2.heap.size W2 w2→∀w',Below w2.heap.size w2 w'→∀i,i<k→∃ad3 ah,∃j:Nat,∃hj:j<hs.length,A3=some ad3∧A=some ah∧w'.cell? (ad3.add i)=some (.int .i64 (j:Int))∧w'.cell? ⟨mp,1,none⟩=some (.slice A hs.length c)∧w'.cell? (ah.add j)=some (.string hs[j])∧xs[i]? =some hs[j]):=Lib.hid fun w2 A3 hr hb2 w' hb i hi=>by
    obtain ⟨j,e1,hj,e2⟩:=hat i hi
    obtain ⟨ad3,u,hA,_,hu,hc⟩:=((hr.below hb).more hb.size).at_ hi
    obtain ⟨ah,u2,hA2,_,hu2,hc2⟩:=(HTr.out w' (zaa hb2 hb)).r.at_ hj
    refine ⟨ad3,ah,j,hj,hA,hA2, ?_,(HSr.out w' (zaa hb2 hb)).1, ?_,e2⟩
    ·rw [hc,←hu,List.getElem?_map,e1]
     rfl
    ·rw [hc2,←hu2]
     simp [zak,hj]
   have HLn:=Lib.hid hlen
   have HTLx:=Lib.hid hTLx
   have hk503:k≤503:=by omega
   subst hfcv
   have c0:=HK2.out.cell 0
   simp only [List.getElem?_toArray,List.getElem?_cons_zero] at c0
   unfold IntsPost at HRm
   rw [hYl] at HRm
   clear hrf hAll HTL HK2 hTX HSq HB2 HB1 hTd hTLx hI2 hY hYl hn5 hn6 hn7 hlen hat hsm hxs HTr
   go_wp2_with fail
   go_region_held3 (fun w'=>w'.cell? ⟨mp,1,none⟩=some (.slice A hs.length c)∧w'.cell? ⟨W.heap.size,2,none⟩=some (.slice (some ad) 1 c2)∧w'.cell? ad=some (.int .i64 (k:Int))) (first|exact hS5|exact hS4|go_keep) (first
    |(go_at_call 42
      refine HRm.out.mono ?_
      rintro e w5 ⟨A3,c3,rfl,hr3,hb5⟩
      have hS5:=HSr.out w5 (zab hb5)))
   all_goals
    have HRd2:=Lib.hid (HRd.out w5 A3 hr3 (zab hb5))
    have HB5:=Lib.hid (zaa HB12.out (zab hb5))
    clear hr3 hb5 hS4 hS5 HSr HRm HRd c0 HB12
    go_wp2_with fail
    go_loopw [7,8] (fun ov iv wr=>∃(i:Nat) (A':Option Addr) (cap:Nat),i≤k∧ov= .slice A' i cap∧iv= .int .i64 (i:Int)∧Hid (wr.ownsRow w5.heap.size 9 1 (.slice A' i cap) i (zak (xs.take i)))∧Hid (Below w5.heap.size w5 wr)) (fun _ iv _=>k+1- (intOf iv).toNat)
    case atStart=>exact ⟨0,none,0,Nat.zero_le _,rfl,rfl,Lib.hid (World.ownsRow_nil _ _ _ _),Lib.hid (Below.refl _ _)⟩
    case round=>
     obtain ⟨i,A',cap,hile,rfl,rfl,hR,hB⟩:=hrel
     by_cases hil:i<k
     ·have hil2:(i:Int)<k:=by omega
      obtain ⟨ad3,ah,j,hj,rfl,rfl,c0,c1,c2',hxi⟩:=HRd2.out wr.drew (zad hB.out) i hil
      have hj0:(0:Int)≤(j:Int):=by omega
      have hj1:(j:Int)<(hs.length:Int):=by omega
      have hbA:=(zad (Below.refl wr.heap.size wr)).alloc (Nat.le_refl _) (.cells #[.string hs[j]] 9)
      have HRW:=Lib.hid (own_below hR.out hbA)
      have HNW:Hid (Reads (wr.drew.alloc (.cells #[.string hs[j]] 9)) (wr.drew.alloc (.cells #[.string hs[j]] 9)).heap.size 1 (some ⟨wr.heap.size,0,none⟩) 1 [.string hs[j]]):=Lib.hid (zbq (Blk.new wr.drew 9 [Value.string hs[j]].toArray))
      have HSZ:Hid (w5.heap.size≤(wr.drew.alloc (.cells #[.string hs[j]] 9)).heap.size):=Lib.hid (Nat.le_trans hB.out.size hbA.size)
      have HAP:Hid (∀v' W',W'.ownsRow w5.heap.size 9 1 v' (i+1) (zak (xs.take i)++[.string hs[j]])→(wr.drew.alloc (.cells #[.string hs[j]] 9)).grownBy W' (Value.slice A' i cap).ownBlock→∃A2 cap2,v'= .slice A2 (i+1) cap2∧Hid (W'.ownsRow w5.heap.size 9 1 (.slice A2 (i+1) cap2) (i+1) (zak (xs.take (i+1))))∧Hid (Below w5.heap.size w5 W')):=Lib.hid fun v' W' g1 g2=>by
       have e:zak (xs.take (i+1))=zak (xs.take i)++[.string hs[j]]:=by
        rw [List.take_add_one,hxi]
        simp [zak]
       rw [←e] at g1
       obtain ⟨A2,cap2,rfl,_⟩:=zai g1
       exact ⟨A2,cap2,rfl,Lib.hid g1,Lib.hid (za9 (zaa hB.out hbA) HRW.out g2)⟩
      clear hbA hR hB hxi
      generalize hs[j]=y at*
      generalize zak (xs.take i)=ys at*
      go_wp2_with fail
      go_region_law (first
       |(refine zbh _ rfl (.tmp 47) (.tmp 58) _ rfl w5.heap.size 9 i0 _ 1 16 Tryz.underlying24 hi0 hz0 hz1 hz2 rfl (by omega) (.slice A' i cap) i ys (by simp [Act.eval]) HRW.out _ (some ⟨wr.heap.size,0,none⟩) 1 1 [.string y] (by simp [Act.eval]) HNW.out (by simp [Value.oneCell']) (by simp only [maxLen];omega) (by omega) HSZ.out ?_
         intro v6 w6 hown6 hgrow6 _
         obtain ⟨A6,cap6,hv6,HR6,HB6⟩:=HAP.out v6 w6 hown6 hgrow6
         subst hv6
         clear hown6 hgrow6))
      all_goals
       clear c0 c1 c2'
       go_wp2
       go_roundw
       case rel=>exact ⟨i+1,A6,cap6,by omega,rfl,by go_num,HR6,HB6⟩
       case measure=>simp [intOf];omega
     ·obtain rfl:i=k:=by omega
      have hge:¬(i:Int)<i:=by omega
      have HJ2:=Lib.hid (HJ.out wr w5.heap.size A' cap (by
       have h:=hR.out
       rwa [List.take_of_length_le (by have:=HLn.out;omega)] at h))
      have HQ:=Lib.hid (zaa HB5.out hB.out)
      clear hR hB HJ HRd2 HB5
      go_wp2_with fail
      refine HJ2.out.mono ?_
      rintro e w3 ⟨rfl,rfl⟩
      go_wp2
      go_ret
      exact ⟨by rw [HTLx.out];rfl,HQ.out⟩
end
section
variable {ea:Nat→Addr} {w W W':World} {mp n c now:Nat} {p:RBp} {A:Option Addr} {hs:List ByteArray} {s:BS}
theorem ownTx_any (A:Option Addr) (n c B:Nat) (xs:List Value) (w:World) (hr:Reads w B 1 A n xs) (h1:∀u∈xs,u.oneCell'=true) (hn:n≤1000):
 Calls Tryz.prog 49 #[.slice A n c] w fun e w'=>∃A cap,e= .returned (.slice A n cap)∧w'.ownsRow w.heap.size 9 1 (.slice A n cap) n xs∧Below w.heap.size w w':=by
 obtain ⟨i0,hi,hz0,hz1,hz2⟩:=info_parts zb8
 go_enter Tryz.func49,Tryz.ntmps49
 go_wp2_with (at_builtin
              refine zac _ rfl (.tmp 4) (.tmp 5) _ rfl w.heap.size 9 i0 _ 1 16 Tryz.underlying24 hi hz0 hz1 hz2 rfl (by omega) (.slice none 0 0) 0 [] rfl (zcn _ _ _) B A n c xs rfl hr h1 (by simp only [maxLen];omega) (by omega) (Nat.le_refl _) ?_
              intro v1 w1 hown1 hg1 _)
 go_ret
 have h:w1.ownsRow w.heap.size 9 1 v1 n xs:=by simpa using hown1
 have hb:=(Below.refl w.heap.size w).grown hg1 (Nat.le_refl _) (by simp [Value.ownBlock])
 clear hown1 hg1
 obtain ⟨A5,cap,rfl,_⟩:=zai h
 exact ⟨A5,cap,rfl,h,hb⟩
def MvPost (cd mv:Nat) (W:World) (e:Ending) (w':World):Prop:=∃(m:Nat) (ev:Value),e= .returned (.tuple #[.int .i64 (m:Int),ev])∧m≤9999999∧(cd=0→m=mv)∧(ev= .nilIface∨∃t a,ev= .iface t (.pointer (some a))∧0<cd)∧Below W.heap.size W w'
theorem moves_ask {A' B':Option Addr} {c' d':Nat} {l:List ByteArray} {k:Nat} (hk:k≤9999999) (hE:zd4 ea W) (hT:zcr W A' c' hs) (hL:zcr W B' d' l):
 Calls Tryz.prog 48 #[.slice A' hs.length c',.slice B' l.length d',.int .i64 (k:Int)] W (MvPost (codeOf (zaz hs l k)) (zeb hs l k) W):=by
 unfold zaz
 cases hf1:zah hs (k:Int) with
 |some f=>
  exact (moves_bad1 ea A' B' c' d' hs l (k:Int) f W hE hT (make_no ea hf1)).mono fun e w' ⟨t,a,e1,h2,h3⟩=>⟨0,_,e1,by omega,fun h0=>by
   have:=zaC hf1
   unfold CdOk at this
   dsimp only [codeOf] at h0
   omega,.inr ⟨t,a,rfl,(zaC hf1).1⟩,h3⟩
 |none=>
  cases hf2:zah l (k:Int) with
  |some f=>
   exact (moves_bad2 ea A' B' c' d' hs l (k:Int) _ f W hE hT hL (zcU ea hs k hf1) (make_no ea hf2)).mono fun e w' ⟨t,a,e1,h2,h3⟩=>⟨0,_,e1,by omega,fun h0=>by
    have:=zaC hf2
    unfold CdOk at this
    dsimp only [codeOf] at h0
    omega,.inr ⟨t,a,rfl,(zaC hf2).1⟩,h3⟩
  |none=>
   have hle:=movN_le hs l (za2 hs k) (za2 l k) (za2 hs k).length
   have hsl:=zbB hs k
   rw [hsl] at hle
   refine (moves_good ea A' B' c' d' hs l (k:Int) _ _ W hE hT hL (zcU ea hs k hf1) (zcU ea l k hf2)).mono fun e w' ⟨e1,h3⟩=>⟨zeb hs l k,.nilIface, ?_,by unfold zeb;omega,fun _=>rfl,.inl rfl,h3⟩
   rw [e1,hsl]
   rfl
theorem tell_moves (l:List ByteArray) (k:Nat) {m:Nat} (h:codeOf (zaz hs l k)=0→m=zeb hs l k):zbX (zaJ .moves ⟨l,[k]⟩ hs s now).1=orT (codeOf (zaz hs l k)) ⟨(Lib.itoa (m:Int)).toArray⟩:=by
 rw [Lib.itoa_nonneg]
 unfold zaJ
 dsimp only
 rw [show ([k]:List Nat).getD 0 0=k from rfl]
 cases hmf:zaz hs l (k:Int) with
 |some f=>
  have:=(zd5 hmf).1
  have h0:¬f.code=0:=by omega
  show (if f.code=0 then _ else ze8 f.code)=if f.code=0 then _ else ze8 f.code
  rw [if_neg h0,if_neg h0]
 |none=>
  rw [hmf] at h
  rw [h rfl]
  rfl
set_option maxRecDepth 100000 in
theorem ask_moves (hE:zd4 ea w) (hM:zdO w W mp n p A c hs s now) (hI:PlI hs n now s) {l:List ByteArray} (hl:l.length≤1000) (k:Nat) (hk:k≤9999999) {Al:Option Addr} {cl c2:Nat} {ad:Addr} (hT:zcr w Al cl l) (hN:w.cell? ad=some (.int .i64 (k:Int))):
 Calls Tryz.prog 27 #[.pointer (some ⟨mp,0,none⟩),.agg #[.string ⟨#[109,111,118,101,115]⟩,.slice Al l.length cl,.slice (some ad) 1 c2]] W (zfj (zbX (zaJ .moves ⟨l,[k]⟩ hs s now).1) W):=by
 obtain ⟨W1,hW1⟩:∃W1,W1=W.alloc (.cells #[.string ⟨#[109,111,118,101,115]⟩,.slice Al l.length cl,.slice (some ad) 1 c2] 31):=⟨_,rfl⟩
 have hb1:Below W.heap.size W W1:=by rw [hW1];exact (Below.refl _ _).alloc (Nat.le_refl _) _
 have hk1:Blk W1 W.heap.size 31 #[.string ⟨#[109,111,118,101,115]⟩,.slice Al l.length cl,.slice (some ad) 1 c2]:=by rw [hW1];exact Blk.new _ _ _
 have hM1:=hM.below hb1
 have h12:=hosts_12 hI
 have HSq:Hid (∀w',Below W1.heap.size W1 w'→w'.cell? ⟨mp,1,none⟩=some (.slice A hs.length c)∧w'.cell? ⟨W.heap.size,1,none⟩=some (.slice Al l.length cl)∧w'.cell? ⟨W.heap.size,2,none⟩=some (.slice (some ad) 1 c2)∧w'.cell? ad=some (.int .i64 (k:Int))):=Lib.hid fun w' hb=>
  ⟨(hM1.below hb).blk.cell 1,(hk1.below hb hk1.lt).cell 1,(hk1.below hb hk1.lt).cell 2,((hM1.below hb).b.cell (World.block_lt_of_cell? _ _ hN)).trans hN⟩
 have hS0:=HSq.out W1.drew (zad (Below.refl _ _))
 have hTX:∀w',Below W1.heap.size W1 w'→zcr w' A c hs:=fun w' hb=>hM.tx.below (hM1.below hb).b
 have hTL:∀w',Below W1.heap.size W1 w'→zcr w' Al cl l:=fun w' hb=>hT.below (hM1.below hb).b
 obtain ⟨cd,hcd⟩:∃cd,cd=codeOf (zaz hs l k):=⟨_,rfl⟩
 have hcd9:cd≤9:=by
  rw [hcd]
  cases hmf:zaz hs l (k:Int) with
  |some f=>have:=(zd5 hmf).2.1;dsimp only [codeOf];omega
  |none=>exact Nat.zero_le _
 obtain ⟨fa,hfa⟩:∃fa:Int,fAt (zah hs (k:Int))=fa:=⟨_,rfl⟩
 obtain ⟨fb,hfb⟩:∃fb:Int,fAt (zah l (k:Int))=fb:=⟨_,rfl⟩
 obtain ⟨fc,hfc⟩:∃fc:Nat,zcv (zah hs (k:Int))=fc:=⟨_,rfl⟩
 obtain ⟨fd,hfd⟩:∃fd:Nat,zcv (zah l (k:Int))=fd:=⟨_,rfl⟩
 have hres:(0<fc∧fc=cd)∨(fc=0∧fd=cd):=by
  unfold zaz at hcd
  cases hf1:zah hs (k:Int) with
  |some f=>
   rw [hf1] at hcd hfc
   have:=(zaC hf1).1
   refine .inl ⟨?_, ?_⟩
   ·rw [←hfc];exact this
   ·rw [←hfc,hcd];rfl
  |none=>
   rw [hf1] at hcd hfc
   refine .inr ⟨hfc.symm, ?_⟩
   rw [hcd,←hfd]
   cases zah l (k:Int)<;>rfl
 have HC:Hid (∀w',Below W1.heap.size W1 w'→Calls Tryz.prog 34 #[.slice A hs.length c,.int .i64 (k:Int)] w' fun e w2=>e= .returned (.agg #[.int .i64 (fc:Int),.int .i64 fa])∧Below w'.heap.size w' w2):=Lib.hid fun w' hb=>by
  have:=zeV hs (k:Int) w' A c (hTX w' hb)
  unfold zaB at this
  rw [hfc,hfa] at this
  exact this
 have HC2:Hid (∀w',Below W1.heap.size W1 w'→Calls Tryz.prog 34 #[.slice Al l.length cl,.int .i64 (k:Int)] w' fun e w2=>e= .returned (.agg #[.int .i64 (fd:Int),.int .i64 fb])∧Below w'.heap.size w' w2):=Lib.hid fun w' hb=>by
  have:=zeV l (k:Int) w' Al cl (hTL w' hb)
  unfold zaB at this
  rw [hfd,hfb] at this
  exact this
 have HO1:Hid (∀w',Below W1.heap.size W1 w'→Calls Tryz.prog 49 #[.slice A hs.length c] w' fun e w2=>∃A' c',e= .returned (.slice A' hs.length c')∧zcr w2 A' c' hs∧Below w'.heap.size w' w2):=Lib.hid fun w' hb=>by
  have ht:=hTX w' hb
  refine (ownTx_any A hs.length c w'.heap.size (zak hs) w' ht.r str_one (by omega)).mono ?_
  rintro e w2 ⟨A',c',rfl,ho,hb2⟩
  exact ⟨A',c',rfl,⟨Reads.zbv ho,zfO ho,ht.lm,ht.s⟩,hb2⟩
 have HO2:Hid (∀w',Below W1.heap.size W1 w'→Calls Tryz.prog 49 #[.slice Al l.length cl] w' fun e w2=>∃A' c',e= .returned (.slice A' l.length c')∧zcr w2 A' c' l∧Below w'.heap.size w' w2):=Lib.hid fun w' hb=>by
  have ht:=hTL w' hb
  refine (ownTx_any Al l.length cl w'.heap.size (zak l) w' ht.r str_one (by omega)).mono ?_
  rintro e w2 ⟨A',c',rfl,ho,hb2⟩
  exact ⟨A',c',rfl,⟨Reads.zbv ho,zfO ho,ht.lm,ht.s⟩,hb2⟩
 have HMv:Hid (∀w' A' B' c' d',Below W1.heap.size W1 w'→zcr w' A' c' hs→zcr w' B' d' l→Calls Tryz.prog 48 #[.slice A' hs.length c',.slice B' l.length d',.int .i64 (k:Int)] w' (MvPost cd (zeb hs l k) w')):=Lib.hid fun w' A' B' c' d' hb h1 h2=>by
  rw [hcd]
  exact moves_ask hk (hE.below (hM1.below hb).b) h1 h2
 have HTell:Hid (∀m:Nat,(cd=0→m=zeb hs l k)→zbX (zaJ .moves ⟨l,[k]⟩ hs s now).1=orT cd ⟨(Lib.itoa (m:Int)).toArray⟩):=Lib.hid fun m h=>by
  rw [hcd] at h ⊢
  exact tell_moves l k h
 have HD:Hid (∀(m:Nat),m≤9999999→∀w2,Calls Tryz.prog 16 #[.int .i64 (m:Int)] w2 fun e w'=>e= .returned (.string ⟨(Lib.itoa (m:Int)).toArray⟩)∧Below w2.heap.size w2 w'):=Lib.hid fun m hm w2=>zb4 m (by omega) w2
 have HOr:=Lib.hid (fun (y:ByteArray) w2=>zdC cd y hcd9 w2)
 have HB1:=Lib.hid hb1
 unfold MvPost at HMv
 clear hM hI hM1 hb1 hk1 hN hfc hfd hfa hfb hE hT hTX hTL hcd hk hcd9 h12 hl
 generalize zbX (zaJ .moves ⟨l,[k]⟩ hs s now).1=TL at*
 generalize zeb hs l k=mv at*
 go_enter Tryz.func27,Tryz.ntmps27
 go_wp2_with fail
 rw [←hW1]
 clear hW1
 go_region_held3 (fun w'=>w'.cell? ⟨mp,1,none⟩=some (.slice A hs.length c)∧w'.cell? ⟨W.heap.size,1,none⟩=some (.slice Al l.length cl)∧w'.cell? ⟨W.heap.size,2,none⟩=some (.slice (some ad) 1 c2)∧w'.cell? ad=some (.int .i64 (k:Int))) (first|exact hS5|exact hS3|exact hS2|exact hS0|go_keep) (first
  |(go_at_call 49
    refine (HO1.out _ (zad (Below.refl _ _))).mono ?_
    rintro e w2 ⟨A2,d2,rfl,ht2,hb2⟩
    have hS2:=HSq.out w2 (zab hb2))
  |(go_at_call 49
    refine (HO2.out w2 (zab hb2)).mono ?_
    rintro e w3 ⟨A3,d3,rfl,ht3,hb3⟩
    have hS3:=HSq.out w3 (zaa (zab hb2) hb3))
  |(go_at_call 48
    refine (HMv.out w3 A2 A3 d2 d3 (zaa (zab hb2) hb3) (ht2.below hb3) ht3).mono ?_
    rintro e w5 ⟨m,ev,rfl,hm9,hmv,hev,hb5⟩
    have hS5:=HSq.out w5 (zaa (zaa (zab hb2) hb3) hb5)))
 all_goals
  have HB5:=Lib.hid (zaa (zaa (zab hb2) hb3) hb5)
  have HX:=Lib.hid (HTell.out m hmv)
  have HDm:=Lib.hid (HD.out m hm9)
  clear ht2 ht3 hb2 hb3 hb5 hmv hm9 hS0 hS2 hS3 hS5 HO1 HO2 HMv HTell HD
  have HSr:=Lib.hid (fun w' (h:Below w5.heap.size w5 w')=>HSq.out w' (zaa HB5.out h))
  have HCr:=Lib.hid (fun w' (h:Below w5.heap.size w5 w')=>HC.out w' (zaa HB5.out h))
  have HCs:=Lib.hid (fun w' (h:Below w5.heap.size w5 w')=>HC2.out w' (zaa HB5.out h))
  have HB15:=Lib.hid (zaa HB1.out HB5.out)
  have hS0:=HSr.out w5.drew (zad (Below.refl _ _))
  have hS1:=HSr.out (w5.drew.alloc (.cells #[.int .i64 0,.int .i64 0] 50)) ((zad (Below.refl w5.heap.size w5)).alloc (Nat.le_refl _) _)
  clear HSq HC HC2 HB1 HB5
  go_wp2_with fail
  go_region_held3 (fun w'=>w'.cell? ⟨mp,1,none⟩=some (.slice A hs.length c)∧w'.cell? ⟨W.heap.size,1,none⟩=some (.slice Al l.length cl)∧w'.cell? ⟨W.heap.size,2,none⟩=some (.slice (some ad) 1 c2)∧w'.cell? ad=some (.int .i64 (k:Int))) (first|exact hS3|exact hS2|exact hS1|exact hS0|go_keep) (first
   |(go_at_call 34
     refine (HCr.out w5.drew (zad (Below.refl _ _))).mono ?_
     rintro e w2 ⟨rfl,hb2⟩
     have hb3:Below w5.heap.size w5 w2:=zab hb2
     have hS2:=HSr.out w2 hb3
     have HY:Hid (Below w5.heap.size w5 (w2.alloc (.cells #[.int .i64 (fc:Int),.int .i64 fa] 50))∧Blk (w2.alloc (.cells #[.int .i64 (fc:Int),.int .i64 fa] 50)) w2.heap.size 50 #[.int .i64 (fc:Int),.int .i64 fa]∧w5.heap.size≤w2.heap.size):=Lib.hid ⟨zaa hb3 ((Below.refl _ _).alloc (Nat.le_refl _) _),Blk.new _ _ _,hb3.size⟩
     have hS3:=HSr.out _ HY.out.1
     clear hb3 hb2)
   |(go_at_call 34
     refine (HCr.out (w5.drew.alloc (.cells #[.int .i64 0,.int .i64 0] 50)) ((zad (Below.refl w5.heap.size w5)).alloc (Nat.le_refl _) _)).mono ?_
     rintro e w2 ⟨rfl,hb2⟩
     have hz:=Blk.new w5.drew 50 #[.int .i64 0,.int .i64 0]
     have hb3:Below w5.heap.size w5 w2:=zab (zaa ((Below.refl w5.drew.heap.size w5.drew).alloc (Nat.le_refl _) (.cells #[.int .i64 0,.int .i64 0] 50)) hb2)
     have hS2:=HSr.out w2 hb3
     have hz2:Blk w2 w5.heap.size 50 #[.int .i64 0,.int .i64 0]:=hz.below hb2 hz.lt
     have q0:=hz2.cell 0
     have q1:=hz2.cell 1
     have z0:=hz2.frozen 0
     have z1:=hz2.frozen 1
     have HY:Hid (Below w5.heap.size w5 ((w2.setCell ⟨w5.heap.size,0,none⟩ (.int .i64 (fc:Int))).setCell ⟨w5.heap.size,1,none⟩ (.int .i64 fa))∧Blk ((w2.setCell ⟨w5.heap.size,0,none⟩ (.int .i64 (fc:Int))).setCell ⟨w5.heap.size,1,none⟩ (.int .i64 fa)) w5.heap.size 50 #[.int .i64 (fc:Int),.int .i64 fa]∧w5.heap.size≤w5.heap.size):=Lib.hid ⟨(hb3.setCell (p:=⟨w5.heap.size,0,none⟩) (Nat.le_refl _) _).setCell (p:=⟨w5.heap.size,1,none⟩) (Nat.le_refl _) _,(hz2.zbk 0 _).zbk 1 _,Nat.le_refl _⟩
     have hS3:=HSr.out _ HY.out.1
     clear hz hb3 hz2 hb2))
  all_goals first
   |(obtain ⟨W2,hW2⟩:∃W2,W2=w2.alloc (.cells #[.int .i64 (fc:Int),.int .i64 fa] 50):=⟨_,rfl⟩
     rw [←hW2] at HY
     rw [←hW2]
     clear hW2
     obtain ⟨h3,k3,l3⟩:=HY.out
     have HB2:=Lib.hid h3
     have HK2:=Lib.hid k3
     have HL2:=Lib.hid l3
     clear hS0 hS1 hS2 hS3 HY h3 k3 l3 HCr
     generalize w2.heap.size=g3 at*)
   |(obtain ⟨W2,hW2⟩:∃W2,W2=(w2.setCell ⟨w5.heap.size,0,none⟩ (.int .i64 (fc:Int))).setCell ⟨w5.heap.size,1,none⟩ (.int .i64 fa):=⟨_,rfl⟩
     rw [←hW2] at HY
     rw [←hW2]
     clear hW2
     obtain ⟨h3,k3,l3⟩:=HY.out
     have HB2:=Lib.hid h3
     have HK2:=Lib.hid k3
     clear hS0 hS1 hS2 hS3 HY h3 k3 l3 HCr q0 q1 z0 z1
     generalize hg3:w5.heap.size=g3 at HK2 ⊢
     have HL2:Hid (w5.heap.size≤g3):=Lib.hid (Nat.le_of_eq hg3)
     clear hg3)
  all_goals
   have HB12:=Lib.hid (zaa HB15.out HB2.out)
   have c0:=HK2.out.cell 0
   simp only [List.getElem?_toArray,List.getElem?_cons_zero] at c0
   rcases hres with ⟨hfp,hfe⟩|⟨hfp,hfe⟩
   ·have hfi:(fc:Int)=(cd:Int):=by rw [hfe]
    rw [hfi] at c0 HK2
    have z1:¬(cd:Int)=0:=by omega
    have z2:((cd:Int)==0)=false:=by simpa using z1
    have z3:decide ((cd:Int)=0)=false:=by simpa using z1
    have HK3:=HK2
    clear hfi HK2 HSr HCs HB2 HL2
    rcases hev with rfl|⟨tv,av,rfl,hpos⟩
    all_goals
     (try have z1:¬(cd:Int)=0:=by omega)
     (try have z2:((cd:Int)==0)=false:=by simpa using z1)
     (try have z3:decide ((cd:Int)=0)=false:=by simpa using z1)
     go_wp2_with fail
     have c0d:=(HK3.out.below (zad (Below.refl _ _)) HK3.out.lt).cell 0
     simp only [List.getElem?_toArray,List.getElem?_cons_zero] at c0d
     go_region_held3 (fun w'=>w'.cell? ⟨g3,0,none⟩=some (.int .i64 (cd:Int))) (first|exact c5d|exact c4d|exact c0d|go_keep) (first
      |(go_at_call 16
        refine (HDm.out _).mono ?_
        rintro e w7 ⟨rfl,hb7⟩
        have c4d:=(HK3.out.below (zab hb7) HK3.out.lt).cell 0)
      |(go_at_call 20
        refine (HOr.out _ w7).mono ?_
        rintro e w8 ⟨rfl,hb8⟩
        have c5d:=(HK3.out.below (zaa (zab hb7) hb8) HK3.out.lt).cell 0))
     all_goals
      have HQ:=Lib.hid (zaa HB12.out (zaa (zab hb7) hb8))
      clear c0 c0d c4d c5d hb7 hb8 HK3 HDm HOr
      (try clear z1 z2 z3)
      go_wp2
      go_ret
      exact ⟨by rw [HX.out];rfl,HQ.out⟩
   ·have hfi:(fc:Int)=0:=by rw [hfp];rfl
    have hfi2:(fd:Int)=(cd:Int):=by rw [hfe]
    rw [hfi] at c0 HK2
    have HSs:=Lib.hid (fun w' (h:Below W2.heap.size W2 w')=>HSr.out w' (zaa HB2.out h))
    have hS4:=HSs.out W2.drew (zad (Below.refl _ _))
    have HCt:=Lib.hid (HCs.out W2.drew (zad HB2.out))
    rw [hfi2] at HCt
    have HZ:Hid (∀w7,Below W2.heap.size W2 w7→Below w5.heap.size w5 ((w7.setCell ⟨g3,0,none⟩ (.int .i64 (cd:Int))).setCell ⟨g3,1,none⟩ (.int .i64 fb))∧Blk ((w7.setCell ⟨g3,0,none⟩ (.int .i64 (cd:Int))).setCell ⟨g3,1,none⟩ (.int .i64 fb)) g3 50 #[.int .i64 (cd:Int),.int .i64 fb]∧Blk w7 g3 50 #[.int .i64 0,.int .i64 fa]):=Lib.hid fun w7 h7=>by
     have hk7:=HK2.out.below h7 HK2.out.lt
     exact ⟨((zaa HB2.out h7).setCell (p:=⟨g3,0,none⟩) HL2.out _).setCell (p:=⟨g3,1,none⟩) HL2.out _,(hk7.zbk 0 _).zbk 1 _,hk7⟩
    clear hfi hfi2 HCs HK2 HB2 HL2
    go_wp2_with fail
    go_region_held3 (fun w'=>w'.cell? ⟨mp,1,none⟩=some (.slice A hs.length c)∧w'.cell? ⟨W.heap.size,1,none⟩=some (.slice Al l.length cl)∧w'.cell? ⟨W.heap.size,2,none⟩=some (.slice (some ad) 1 c2)∧w'.cell? ad=some (.int .i64 (k:Int))) (first|exact hS8|exact hS7|exact hS4|go_keep) (first
     |(go_at_call 34
       refine HCt.out.mono ?_
       rintro e w7 ⟨rfl,hb7⟩
       obtain ⟨r1,r2,r3⟩:=HZ.out w7 (zab hb7)
       have hS7:=HSs.out w7 (zab hb7)
       have hS8:=HSr.out _ r1
       have q0:=r3.cell 0
       have q1:=r3.cell 1
       have z0:=r3.frozen 0
       have z1:=r3.frozen 1
       have HB3:=Lib.hid r1
       have HK3:=Lib.hid r2
       clear r1 r2 r3 hb7))
    all_goals
     obtain ⟨W3,hW3⟩:∃W3,W3=(w7.setCell ⟨g3,0,none⟩ (.int .i64 (cd:Int))).setCell ⟨g3,1,none⟩ (.int .i64 fb):=⟨_,rfl⟩
     rw [←hW3] at HB3 HK3
     rw [←hW3]
     clear hW3 hS4 hS7 hS8 q0 q1 z0 z1 HCt HZ HSs HSr c0
     have HB13:=Lib.hid (zaa HB15.out HB3.out)
     have c0:=HK3.out.cell 0
     simp only [List.getElem?_toArray,List.getElem?_cons_zero] at c0
     rcases hev with rfl|⟨tv,av,rfl,hpos⟩
     all_goals
      (try have z1:¬(cd:Int)=0:=by omega)
      (try have z2:((cd:Int)==0)=false:=by simpa using z1)
      (try have z3:decide ((cd:Int)=0)=false:=by simpa using z1)
      go_wp2_with fail
      have c0d:=(HK3.out.below (zad (Below.refl _ _)) HK3.out.lt).cell 0
      simp only [List.getElem?_toArray,List.getElem?_cons_zero] at c0d
      go_region_held3 (fun w'=>w'.cell? ⟨g3,0,none⟩=some (.int .i64 (cd:Int))) (first|exact c5d|exact c4d|exact c0d|go_keep) (first
       |(go_at_call 16
         refine (HDm.out _).mono ?_
         rintro e w7 ⟨rfl,hb7⟩
         have c4d:=(HK3.out.below (zab hb7) HK3.out.lt).cell 0)
       |(go_at_call 20
         refine (HOr.out _ w7).mono ?_
         rintro e w8 ⟨rfl,hb8⟩
         have c5d:=(HK3.out.below (zaa (zab hb7) hb8) HK3.out.lt).cell 0))
      all_goals
       have HQ:=Lib.hid (zaa HB13.out (zaa (zab hb7) hb8))
       clear c0 c0d c4d c5d hb7 hb8 HK3 HDm HOr
       (try clear z1 z2 z3)
       go_wp2
       go_ret
       exact ⟨by rw [HX.out];rfl,HQ.out⟩
end
end Go.Proofs.YthkfhfldoniolaaGreatDoor
