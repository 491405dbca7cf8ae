/-
  The law's lineOf.
-/
import Derived.Test.YthkfhfldoniolaaGreatDoorScrLine
import Derived.Test.YthkfhfldoniolaaGreatDoorScrRefText
import Derived.Test.YthkfhfldoniolaaGreatDoorArgLines
set_option maxHeartbeats 4000000
namespace Go.Proofs.YthkfhfldoniolaaGreatDoor
open Go.RowKit
def lineV (o:Option ByteArray):Value:= .tuple #[.string (o.getD ⟨#[]⟩),.bool o.isSome]
theorem fit_ways (h:Int) (n:Nat) (H:List ByteArray) (N:List Int):
 (zeX h n H N=false∧(¬(N.length:Int)=(n:Int)∨((N.length:Int)=(n:Int)∧decide (h≥0)=true∧¬(H.length:Int)=h)∨((N.length:Int)=(n:Int)∧decide (h≥0)=false∧decide (h<0)=true∧(H.length:Int)=0)))∨
 (zeX h n H N=true∧(N.length:Int)=(n:Int)∧((decide (h≥0)=true∧decide (h<0)=false∧(H.length:Int)=h)∨(decide (h≥0)=false∧decide (h<0)=true∧¬(H.length:Int)=0))):=by
 unfold zeX
 by_cases h1:N.length=n
 ·by_cases h2:h<0
  ·rw [if_pos h2]
   by_cases h3:0<H.length
   ·refine .inr ⟨by simp [h1,h3],by omega,.inr ⟨by simp;omega,by simp;omega,by omega⟩⟩
   ·refine .inl ⟨by simp [h3],.inr (.inr ⟨by omega,by simp;omega,by simp;omega,by omega⟩)⟩
  ·rw [if_neg h2]
   by_cases h3:(H.length:Int)=h
   ·refine .inr ⟨by simp [h1,h3],by omega,.inl ⟨by simp;omega,by simp;omega,h3⟩⟩
   ·refine .inl ⟨by simp [h3],.inr (.inl ⟨by omega,by simp;omega,h3⟩)⟩
 ·exact .inl ⟨by simp [h1],.inl (by omega)⟩
theorem ok_ways (h v:Int):
 (zb1 h v=false∧(decide (v<0)=true∨(decide (v<0)=false∧decide (v>9999999)=true)∨(decide (v<0)=false∧decide (v>9999999)=false∧decide (h=1)=true∧decide (v>1)=true)))∨
 (zb1 h v=true∧decide (v<0)=false∧decide (v>9999999)=false∧((decide (h=1)=true∧decide (v>1)=false)∨decide (h=1)=false)):=by
 unfold zb1
 by_cases h1:v<0
 ·exact .inl ⟨by simp;omega,.inl (by simpa using h1)⟩
 by_cases h2:9999999<v
 ·exact .inl ⟨by simp;omega,.inr (.inl ⟨by simp;omega,by simpa using h2⟩)⟩
 by_cases h3:h=1
 ·by_cases h4:1<v
  ·exact .inl ⟨by simp [h3,h4],.inr (.inr ⟨by simp;omega,by simp;omega,by simpa using h3,by simpa using h4⟩)⟩
  ·exact .inr ⟨by simp [h3,h4];omega,by simp;omega,by simp;omega,.inl ⟨by simpa using h3,by simp;omega⟩⟩
 ·exact .inr ⟨by simp [h3];omega,by simp;omega,by simp;omega,.inr (by simpa using h3)⟩
theorem lineT_no1 {c:ByteArray} {H:List ByteArray} {N:List Int} (h:zcx c=none):zcW c H N=none:=by unfold zcW;rw [h]
theorem lineT_no2 {c:ByteArray} {H:List ByteArray} {N:List Int} {h:Int} {n:Nat} (hf:zcx c=some (h,n)) (hn:¬(zeX h n H N=true∧H.all isName=true∧N.all (zb1 h)=true)):zcW c H N=none:=by
 unfold zcW;rw [hf];dsimp only;rw [if_neg hn]
theorem lineT_yes {c:ByteArray} {H:List ByteArray} {N:List Int} {h:Int} {n:Nat} (hf:zcx c=some (h,n)) (hn:zeX h n H N=true∧H.all isName=true∧N.all (zb1 h)=true):zcW c H N=some (bt (c.data.toList++zas (zbl c H N))):=by
 unfold zcW;rw [hf];dsimp only;rw [if_pos hn]
theorem allT_no {α:Type} {l:List α} {p:α→Bool} {i:Nat} (h:i<l.length) (hp:p l[i]=false):¬l.all p=true:=fun hh=>by
 have:=List.all_eq_true.1 hh l[i] (List.getElem_mem h)
 rw [hp] at this
 cases this
theorem allT_succ {α:Type} {l:List α} {p:α→Bool} {i:Nat} (h:i<l.length) (h1:(l.take i).all p=true) (hp:p l[i]=true):(l.take (i+1)).all p=true:=by
 rw [List.take_succ_eq_append_getElem h,List.all_append,h1]
 simp [hp]
theorem spaced_app (a b:List (List UInt8)):zas (a++b)=zas a++zas b:=by simp [zas]
theorem bt_blank (q:List UInt8) (x:ByteArray):bt q++⟨#[32]⟩++x=bt (q++32::x.data.toList):=by
 rw [zdJ,zdJ]
 simp [bt]
theorem host_next {H:List ByteArray} {i:Nat} (h:i<H.length):bt (zas (zb0 (H.take i)))++⟨#[32]⟩++H[i]=bt (zas (zb0 (H.take (i+1)))):=by
 rw [bt_blank,List.take_succ_eq_append_getElem h]
 unfold zb0 zas
 simp only [List.map_append,List.flatMap_append,List.map_cons,List.map_nil,List.flatMap_cons,List.flatMap_nil,List.append_nil]
theorem num_next {N:List Int} {i m:Nat} (h:i<N.length) (hm:N[i]=(m:Int)):bt (zas (zdK (N.take i)))++⟨#[32]⟩++⟨(Lib.itoa (m:Int)).toArray⟩=bt (zas (zdK (N.take (i+1)))):=by
 rw [bt_blank,List.take_succ_eq_append_getElem h,Lib.itoa_nonneg]
 unfold zdK zas
 simp only [List.map_append,List.flatMap_append,List.map_cons,List.map_nil,List.flatMap_cons,List.flatMap_nil,List.append_nil,hm,Int.toNat_natCast]
theorem host_small {H:List ByteArray} {i:Nat} (h:(H.take i).all isName=true) (hi:i≤30):(bt (zas (zb0 (H.take i)))).size≤1000:=by
 have h1:=zeQ (zb0 (H.take i)) 12 fun x hx=>by
  obtain ⟨y,hy,rfl⟩:=List.mem_map.1 hx
  have:=zeT (List.all_eq_true.1 h y hy)
  have e:y.data.toList.length=y.size:=by simp
  omega
 have h2:(zb0 (H.take i)).length≤30:=by unfold zb0;rw [List.length_map,List.length_take];omega
 have h3:(bt (zas (zb0 (H.take i)))).size=(zas (zb0 (H.take i))).length:=zf7 _
 have:=Nat.mul_le_mul_right 13 h2
 omega
theorem num_small {N:List Int} {i:Nat} {h:Int} (ha:(N.take i).all (zb1 h)=true) (hi:i≤5):(bt (zas (zdK (N.take i)))).size≤1000:=by
 have h1:=zeQ (zdK (N.take i)) 20 fun x hx=>by
  obtain ⟨y,hy,rfl⟩:=List.mem_map.1 hx
  have:=zb3 (List.all_eq_true.1 ha y hy)
  exact zb9 (by unfold U64;omega)
 have h2:(zdK (N.take i)).length≤5:=by unfold zdK;rw [List.length_map,List.length_take];omega
 have h3:(bt (zas (zdK (N.take i)))).size=(zas (zdK (N.take i))).length:=zf7 _
 have:=Nat.mul_le_mul_right 21 h2
 omega
theorem itoa_small {m:Nat} (h:m≤9999999):(⟨(Lib.itoa (m:Int)).toArray⟩:ByteArray).size≤20:=by
 rw [Lib.itoa_nonneg]
 have:=zb9 (n:=m) (by unfold U64;omega)
 simpa [ByteArray.size] using this
theorem end_moves {c:ByteArray} {H:List ByteArray} {N:List Int} (h:c=zco):c++bt (zas (zdK N))++bt (zas (zb0 H))=bt (c.data.toList++zas (zbl c H N)):=by
 unfold zbl
 rw [if_pos h,spaced_app,zdJ,zdJ]
 simp [bt]
theorem end_other {c:ByteArray} {H:List ByteArray} {N:List Int} (h:c≠zco):c++bt (zas (zb0 H))++bt (zas (zdK N))=bt (c.data.toList++zas (zbl c H N)):=by
 unfold zbl
 rw [if_neg h,spaced_app,zdJ,zdJ]
 simp [bt]
theorem numAt {w:World} {B:Nat} {A:Option Addr} {l:List Int} {k:Nat} (h:Reads w B 1 A l.length (l.map intV)) (hk:k<l.length):∃ad,A=some ad∧w.cell? (ad.add k)=some (.int .i64 l[k]):=by
 obtain ⟨ad,u,hA,_,hx,hc⟩:=h.at_ hk
 refine ⟨ad,hA, ?_⟩
 rw [hc]
 simp [hk] at hx
 rw [←hx]
 rfl
theorem form_h {c:ByteArray} {h:Int} {n:Nat} (hf:zcx c=some (h,n)):h= -1∨h=0∨h=1:=by
 unfold zcx at hf
 split at hf
 ·cases hf;exact .inl rfl
 split at hf
 ·cases hf;exact .inl rfl
 split at hf
 ·cases hf;exact .inr (.inl rfl)
 split at hf
 ·cases hf;exact .inr (.inl rfl)
 split at hf
 ·cases hf;exact .inr (.inr rfl)
 split at hf
 ·cases hf;exact .inr (.inl rfl)
 ·cases hf
set_option maxRecDepth 100000 in
theorem lineOf_any (x:zcT) (w:World) (hx:zc3 w x) (hw:x.word.size≤60) (hh:x.h.length≤30) (hn:x.n.length≤5):
 Calls Tryz.prog 8 #[.agg #[.string x.word,.slice x.A x.h.length x.c,.slice x.A2 x.n.length x.c2]] w fun e w'=>e= .returned (lineV (zcW x.word x.h x.n))∧Below w.heap.size w w':=by
 obtain ⟨c,H,N,A,cp,A2,cp2⟩:=x
 dsimp only at hw hh hn hx ⊢
 obtain ⟨_,hr,_,_,hs,hr2,_,_,hnb⟩:=hx
 dsimp only at hr hs hr2 hnb
 obtain ⟨W1,hW1⟩:∃W1,W1=w.alloc (.cells #[.string c,.slice A H.length cp,.slice A2 N.length cp2] 31):=⟨_,rfl⟩
 have hb1:Below w.heap.size w W1:=by rw [hW1];exact (Below.refl _ _).alloc (Nat.le_refl _) _
 have hk1:Blk W1 w.heap.size 31 #[.string c,.slice A H.length cp,.slice A2 N.length cp2]:=by rw [hW1];exact Blk.new _ _ _
 have HB1:=Lib.hid hb1
 have HC:Hid (∀W,Below W1.heap.size W1 W→W.cell? ⟨w.heap.size,0,none⟩=some (.string c)∧W.cell? ⟨w.heap.size,1,none⟩=some (.slice A H.length cp)∧W.cell? ⟨w.heap.size,2,none⟩=some (.slice A2 N.length cp2)):=Lib.hid fun W hb=>⟨(hk1.below hb hk1.lt).cell 0,(hk1.below hb hk1.lt).cell 1,(hk1.below hb hk1.lt).cell 2⟩
 have HH:Hid (∀W,Below W1.heap.size W1 W→∀i (h:i<H.length),∃ad,A=some ad∧W.cell? (ad.add i)=some (.string H[i])):=Lib.hid fun W hb i h=>zcq (hr.below (zaa hb1 hb)) h
 have HN:Hid (∀W,Below W1.heap.size W1 W→∀i (h:i<N.length),∃ad,A2=some ad∧W.cell? (ad.add i)=some (.int .i64 N[i])):=Lib.hid fun W hb i h=>numAt (hr2.below (zaa hb1 hb)) h
 have HS:Hid (∀y∈H,y.size≤maxLen):=Lib.hid hs
 have HV:Hid (∀v∈N,-9223372036854775808≤v∧v≤9223372036854775807):=Lib.hid hnb
 obtain ⟨e0,e1,e2⟩:=HC.out W1 (Below.refl _ _)
 have HF:=Lib.hid (formOf_any c W1)
 obtain ⟨o,ho⟩:∃o,o=zcW c H N:=⟨_,rfl⟩
 have HO:=Lib.hid ho
 rw [←ho]
 clear hb1 hk1 hr hr2 hs hnb ho
 cases hf:zcx c with
 |none=>
  rw [hf] at HF
  have HE:Hid (o=none):=Lib.hid (by rw [HO.out,lineT_no1 hf])
  unfold formV at HF
  simp only [Option.isSome_none] at HF
  clear HC HH HN HS HV HO
  go_enter Tryz.func8,Tryz.ntmps8
  go_wp2_with fail
  rw [←hW1]
  clear hW1
  go_wp2_with fail
  refine HF.out.mono ?_
  rintro e w2 ⟨rfl,rfl⟩
  go_wp2
  go_ret2
  exact ⟨by rw [HE.out];rfl,HB1.out⟩
 |some f=>
  obtain ⟨h0,n⟩:=f
  obtain ⟨h,hh0⟩:∃h,Hid (h=h0):=⟨h0,Lib.hid rfl⟩
  rw [hf] at HF
  unfold formV at HF
  simp only [Option.isSome_some] at HF
  have HNo:Hid (¬(zeX h n H N=true∧H.all isName=true∧N.all (zb1 h)=true)→o=none):=Lib.hid fun hno=>by rw [hh0.out] at hno;rw [HO.out,lineT_no2 hf hno]
  have HYes:Hid ((zeX h n H N=true∧H.all isName=true∧N.all (zb1 h)=true)→o=some (bt (c.data.toList++zas (zbl c H N)))):=Lib.hid fun hy=>by rw [hh0.out] at hy;rw [HO.out,lineT_yes hf hy]
  have hways:=fit_ways h n H N
  have HWay:=Lib.hid (fun v=>ok_ways h v)
  have hform:=form_h hf
  clear HO hf
  rw [hh0.out] at hways
  rcases hways with ⟨hfit,hbad⟩|⟨hfit,t1,hgood⟩
  ·have HE:Hid (o=none):=Lib.hid (HNo.out fun hh=>by rw [hh0.out,hfit] at hh;cases hh.1)
   clear HC HH HN HS HV HNo HYes hfit HWay hh0
   rcases hform with rfl|rfl|rfl
   all_goals
    rcases hbad with t1|⟨t1,t2,t3⟩|⟨t1,t2,t3,t4⟩
    all_goals try (exfalso;revert t2;decide)
    all_goals try (have z1:¬H=[]:=fun e=>by rw [e] at t3;exact t3 rfl)
    all_goals
     go_enter Tryz.func8,Tryz.ntmps8
     go_wp2_with fail
     rw [←hW1]
     clear hW1
     go_wp2_with fail
     refine HF.out.mono ?_
     rintro e w2 ⟨rfl,rfl⟩
     go_wp2
     go_ret2
     exact ⟨by rw [HE.out];rfl,HB1.out⟩
  obtain rfl:n=N.length:=by omega
  clear t1
  have HFit:Hid (zeX h N.length H N=true):=Lib.hid (by rw [hh0.out];exact hfit)
  clear hfit
  rcases hform with rfl|rfl|rfl
  all_goals
   rcases hgood with ⟨t2,t3,t4⟩|⟨t2,t3,t4⟩
   all_goals try (exfalso;revert t2;decide)
   all_goals try (have z0:((H.length:Int)==0)=false:=beq_eq_false_iff_ne.2 t4)
  all_goals
   go_enter Tryz.func8,Tryz.ntmps8
   go_wp2_with fail
   rw [←hW1]
   clear hW1
   go_wp2_with fail
   refine HF.out.mono ?_
   rintro e w2 ⟨rfl,rfl⟩
   clear HF
   go_wp2_with fail
   clear t2 t3 t4
   go_loop [7,8] (fun qv iv=>∃(i:Nat) (q:ByteArray),qv= .string q∧iv= .int .i64 (i:Int)∧i≤H.length∧Hid (q=bt (zas (zb0 (H.take i)))∧(H.take i).all isName=true)) (fun _ iv=>H.length- (intOf iv).toNat)
   case atStart=>exact ⟨0,_,rfl,rfl,Nat.zero_le _,Lib.hid ⟨rfl,rfl⟩⟩
   case round=>
    obtain ⟨i,q,rfl,rfl,hi,hq⟩:=hrel
    have hqs:q.size≤1000:=by rw [hq.out.1];exact host_small hq.out.2 (by omega)
    by_cases hlt:i<H.length
    ·obtain ⟨ad,rfl,hc⟩:=HH.out _ (Below.refl _ _) i hlt
     have hlt2:(i:Int)<(H.length:Int):=by omega
     have HQ:=Lib.hid (isName_any H[i] W1 (HS.out _ (List.getElem_mem hlt)))
     unfold NameQ at HQ
     have HNx:=Lib.hid (host_next hlt)
     have HAll:=Lib.hid (fun (hp:isName H[i]=true)=>allT_succ (p:=isName) hlt hq.out.2 hp)
     have HNot:=Lib.hid (fun (hp:isName H[i]=false)=>allT_no (p:=isName) hlt hp)
     have HSm:=Lib.hid (fun (hp:isName H[i]=true)=>zeT hp)
     generalize H[i]=y at*
     cases hb:isName y with
     |false=>
      rw [hb] at HQ
      have HE:Hid (o=none):=Lib.hid (HNo.out fun hh=>HNot.out hb hh.2.1)
      clear HNx HAll HNot HSm HNo HYes hb
      go_wp2_with fail
      refine HQ.out.mono ?_
      rintro e w3 ⟨rfl,rfl⟩
      go_wp2
      go_ret2
      exact ⟨by rw [HE.out];rfl,HB1.out⟩
     |true=>
      rw [hb] at HQ
      have hys:=HSm.out hb
      have HAl2:=Lib.hid (HAll.out hb)
      have HQe:Hid (q++⟨#[32]⟩++y=bt (zas (zb0 (H.take (i+1))))):=Lib.hid (by rw [hq.out.1];exact HNx.out)
      clear HNx HAll HNot HSm hb hq
      go_wp2_with fail
      refine HQ.out.mono ?_
      rintro e w3 ⟨rfl,rfl⟩
      go_wp2_with fail
      go_round
      case rel=>exact ⟨i+1,_,rfl,by go_num,by omega,Lib.hid ⟨HQe.out,HAl2.out⟩⟩
      case measure=>simp [intOf];omega
    ·obtain rfl:i=H.length:=by omega
     have hq1:=hq.out
     rw [List.take_length] at hq1
     have HQ1:=Lib.hid hq1.1
     have HA1:=Lib.hid hq1.2
     clear hq1 hq
     go_wp2_with fail
     go_loopw [10,11] (fun qv iv wq=>∃(k:Nat) (q2:ByteArray),qv= .string q2∧iv= .int .i64 (k:Int)∧k≤N.length∧Hid (q2=bt (zas (zdK (N.take k)))∧(N.take k).all (zb1 h)=true)∧Hid (Below W1.heap.size W1 wq)) (fun _ iv _=>N.length- (intOf iv).toNat)
     case atStart=>exact ⟨0,_,rfl,rfl,Nat.zero_le _,Lib.hid ⟨rfl,rfl⟩,Lib.hid (Below.refl _ _)⟩
     case round=>
      obtain ⟨k,q2,rfl,rfl,hk,hq2,hbq⟩:=hrel
      have hq2s:q2.size≤1000:=by rw [hq2.out.1];exact num_small hq2.out.2 (by omega)
      obtain ⟨g0,g1,g2⟩:=HC.out wr hbq.out
      have HBq:=Lib.hid (zaa HB1.out hbq.out)
      by_cases hklt:k<N.length
      ·obtain ⟨ad2,rfl,hc2⟩:=HN.out wr hbq.out k hklt
       have hklt2:(k:Int)<(N.length:Int):=by omega
       have HNx:=Lib.hid (fun (m:Nat) (hm:N[k]=(m:Int))=>num_next hklt hm)
       have HAll2:=Lib.hid (fun (hp:zb1 h N[k]=true)=>allT_succ (p:=zb1 h) hklt hq2.out.2 hp)
       have HNot2:=Lib.hid (fun (hp:zb1 h N[k]=false)=>allT_no (p:=zb1 h) hklt hp)
       have hw:=HWay.out N[k]
       rw [hh0.out] at hw
       have HNot3:Hid (zb1 _ N[k]=false→o=none):=Lib.hid fun hp=>HNo.out fun hh=>HNot2.out (by rw [hh0.out];exact hp) hh.2.2
       have HAll3:=Lib.hid (fun (hp:zb1 _ N[k]=true)=>HAll2.out (by rw [hh0.out];exact hp))
       clear HAll2 HNot2
       generalize N[k]=v at*
       rcases hw with ⟨hno,u1|⟨u1,u2⟩|⟨u1,u2,u3,u4⟩⟩|⟨hyes,u1,u2,⟨u3,u4⟩|u3⟩
       all_goals try (exfalso;revert u3;decide)
       all_goals first
        |(have HE:Hid (o=none):=Lib.hid (HNot3.out hno)
          clear HNx HAll3 HNot3 HNo HYes hno hq2 HC HH HN HS HV HWay
          go_wp2
          go_ret2
          exact ⟨by rw [HE.out];rfl,HBq.out⟩)
        |skip
       all_goals
        obtain ⟨m,rfl⟩:∃m:Nat,v=(m:Int):=⟨v.toNat,by have:=of_decide_eq_false u1;omega⟩
        have hm9:m≤9999999:=by have:=of_decide_eq_false u2;omega
        have HD:=Lib.hid (zb4 m (by omega) wr)
        have HQe:Hid (q2++⟨#[32]⟩++⟨(Lib.itoa (m:Int)).toArray⟩=bt (zas (zdK (N.take (k+1))))∧(N.take (k+1)).all (zb1 h)=true):=Lib.hid ⟨by rw [hq2.out.1];exact HNx.out m rfl,HAll3.out hyes⟩
        have hds:=itoa_small hm9
        have HBx:=Lib.hid hbq.out
        clear HNx HAll3 HNot3 HNo HYes hyes hq2 hbq HC HH HN HS HV HWay
        generalize (⟨(Lib.itoa (m:Int)).toArray⟩:ByteArray)=dg at*
        go_wp2_with fail
        refine HD.out.mono ?_
        rintro e w5 ⟨rfl,hb5⟩
        have HB5:=Lib.hid (zaa HBx.out hb5)
        clear hb5 HD HBx
        go_wp2_with fail
        go_roundw
        case rel=>exact ⟨k+1,_,rfl,by go_num,by omega,HQe,HB5⟩
        case measure=>simp [intOf];omega
      ·obtain rfl:k=N.length:=by omega
       have hq3:=hq2.out
       rw [List.take_length] at hq3
       have hyes:=HYes.out ⟨HFit.out,HA1.out,hq3.2⟩
       by_cases hmv:c=zco
       ·have HEnd:Hid (o=some (c++q2++q)):=Lib.hid (by rw [hyes,←end_moves hmv,hq3.1,HQ1.out])
        have hlit:=zdq hmv
        clear hyes hq3 hmv HNo HYes hq2 hbq HC HH HN HS HV HQ1 HA1
        go_wp2
        go_ret2
        exact ⟨by rw [HEnd.out];rfl,HBq.out⟩
       ·have HEnd:Hid (o=some (c++q++q2)):=Lib.hid (by rw [hyes,←end_other hmv,hq3.1,HQ1.out])
        have hlit:=zao hmv
        clear hyes hq3 hmv HNo HYes hq2 hbq HC HH HN HS HV HQ1 HA1
        go_wp2
        go_ret2
        exact ⟨by rw [HEnd.out];rfl,HBq.out⟩
end Go.Proofs.YthkfhfldoniolaaGreatDoor
