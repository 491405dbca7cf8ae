/-
  The reference's RingOf: the points, as they come. The reference's order of points from a place on, in plain words. The reference's less and NextOf. The reference's RingFault. The reference's ring: made, its next host.
-/
import Derived.Test.YthkfhfldoniolaaGreatDoorRinged
import Derived.Test.YthkfhfldoniolaaGreatDoorRefTables
import Derived.Test.YthkfhfldoniolaaGreatDoorLists
import Derived.Test.YthkfhfldoniolaaGreatDoorMixes
import Derived.Test.YthkfhfldoniolaaGreatDoorRefFault
import Derived.Test.YthkfhfldoniolaaGreatDoorFillA
set_option maxHeartbeats 4000000
namespace Go.Proofs.YthkfhfldoniolaaGreatDoor
open Go.RowKit Go.Sort
theorem info_rpoint:(Tryz.prog.info? 142).map (fun i=>(i.zero,i.size,i.bytes))=some (some (.agg #[.int .u64 0,.string ⟨#[]⟩]),2,24):=by kernel_rfl
structure RefR (w:World) (B rp:Nat) (s:List Pt) (sv:Value):Prop where
 blk:Blk w rp 139 #[sv]
 own:w.ownsRow B 142 2 sv s.length (zcg s)
 base:B≤rp
theorem RefR.push {w w1:World} {B rp n:Nat} {s:List Pt} {sv v:Value} {p:Pt} {o:Obj} (h:RefR w B rp s sv) (hB:B≤w.heap.size) (hg:(w.alloc o).drew.grownBy w1 sv.ownBlock) (hn:Hid (s.length=n))
 (ho:w1.ownsRow B 142 2 v (n+1) (zcg s++zeh p)):
 Hid (RefR (w1.setCell ⟨rp,0,none⟩ v) B rp (s++[p]) v∧zaA B [139,142] w (w1.setCell ⟨rp,0,none⟩ v))∧w1.cell? ⟨rp,0,none⟩=some sv∧w1.frozen? ⟨rp,0,none⟩=false:=by
 have hg2:=zfH hg
 have k1:zaA B [142] w w1:=((zaA.alloc0 hB o).more (by simp)).trans (zaA.of_app (h.own.alloc o) hg2 (by simp;omega))
 have hb3:=k1.blk h.blk (by decide)
 have k2:zaA B [139] w1 (w1.setCell ⟨rp,0,none⟩ v):=(zaA.refl _ _ _).setCell hb3 (by simp) h.base v
 have e:zcg (s++[p])=zcg s++zeh p:=by simp [zcg]
 refine ⟨Lib.hid ⟨⟨hb3.zbk 0 v, ?_,h.base⟩,(k1.more (by simp)).trans (k2.more (by simp))⟩,hb3.cell 0,hb3.frozen 0⟩
 rw [List.length_append,List.length_singleton,hn.out,e]
 exact k2.own ho (by decide)
theorem rpt_cell (w:World) (x:Int) (y:ByteArray):∀(j:Nat) (u:Value),[Value.int .u64 x,.string y][j]? =some u→(w.alloc (.cells #[.int .u64 x,.string y] 142)).cell? ((⟨w.heap.size,0,none⟩:Addr).add j)=some u:=by
 intro j u hu
 have hB:=Blk.new w 142 #[.int .u64 x,.string y]
 have e:((⟨w.heap.size,0,none⟩:Addr).add j)=⟨w.heap.size,j,none⟩:=by
  by_cases h0:j=0
  ·subst h0;rfl
  ·simp [Addr.add,h0]
 rw [e]
 refine (hB.cell j).trans ?_
 simpa using hu
def RefRingPost (l:List ByteArray) (copies:Nat) (w:World) (e:Ending) (w':World):Prop:=
 ∃rp sv,e= .returned (.pointer (some ⟨rp,0,none⟩))∧RefR w' w.heap.size rp (zaQ l copies) sv∧Below w.heap.size w w'
set_option maxRecDepth 100000 in
theorem ringOf_any (A:Option Addr) (c:Nat) (l:List ByteArray) (copies:Nat) (w:World) (hr:Reads w w.heap.size 1 A l.length (zak l)) (hl12:l.length≤12) (hs:∀s∈l,s.size≤maxLen) (h2:copies≤16):
 Calls Tryz.prog 51 #[.slice A l.length c,.int .i64 (copies:Int)] w (RefRingPost l copies w):=by
 obtain ⟨i0,hi0,hz0,hz1,hz2⟩:=info_parts info_rpoint
 go_enter Tryz.func51,Tryz.ntmps51
 go_wp2_with fail
 go_loopw [6] (fun iv wr=>∃(k:Nat) (sv:Value),k≤l.length∧iv= .int .i64 (k:Int)∧Hid (RefR wr w.heap.size w.heap.size (zaQ (l.take k) copies) sv)∧Below w.heap.size w wr) (fun iv _=>l.length- (intOf iv).toNat)
 case atStart=>exact ⟨0,.slice none 0 0,Nat.zero_le _,rfl,Lib.hid ⟨Blk.new _ _ _,⟨rfl,.inl ⟨rfl,rfl⟩⟩,Nat.le_refl _⟩,(Below.refl _ _).alloc (Nat.le_refl _) _⟩
 case round=>
  obtain ⟨k,sv,hk,rfl,hR,hb⟩:=hrel
  by_cases hlt:k<l.length
  ·obtain ⟨ad,hA,hX⟩:=zdh hr hlt
   subst hA
   have hlt2:(k:Int)<l.length:=by omega
   have hszk:=hs l[k] (List.getElem_mem hlt)
   have hPT:=Lib.hid (points_take (copies:=copies) hlt)
   have hpl:=zbQ (l.take k) copies
   have hpk:(l.take k).length=k:=by rw [List.length_take];omega
   rw [hpk] at hpl
   have hkc:k*copies≤12*16:=Nat.mul_le_mul (by omega) h2
   have HOf:=Lib.hid (fun (q:Nat) (hq:q<16) W=>zdr l[k] (1000+q) W hszk (by unfold U64;omega))
   have HPL:=Lib.hid hpl
   clear hpl hpk
   generalize zaQ (l.take k) copies=pk at*
   generalize l[k]=x at*
   have HX:=Lib.hid hX
   clear hX
   go_wp2_with fail
   obtain ⟨wo,rfl⟩:∃wo:World,wo=wr:=⟨_,rfl⟩
   go_loopw [7] (fun jv wq=>∃(q:Nat) (sv:Value),q≤copies∧jv= .int .i64 (q:Int)∧Hid (RefR wq w.heap.size w.heap.size (pk++(List.range q).map (ptOf x)) sv)∧Below w.heap.size w wq) (fun jv _=>copies- (intOf jv).toNat)
   case atStart=>exact ⟨0,sv,Nat.zero_le _,rfl,by simpa using hR,hb⟩
   case round=>
    obtain ⟨q,sv2,hq,rfl,hR2,hb2⟩:=hrel
    by_cases hqt:q<copies
    ·have hqt2:(q:Int)<copies:=by omega
     obtain ⟨N,hN⟩:∃N:Nat,ofN x (1000+q)=N:=⟨_,rfl⟩
     have HOq:Hid (∀W,Calls Tryz.prog 74 #[.string x,.int .u64 (1000+(q:Int))] W (zcD N W)):=Lib.hid fun W=>by
      have:=HOf.out q (by omega) W
      rw [hN,Int.natCast_add] at this
      exact this
     have hw1:IntKind.u64.wrap (1000+(q:Int))=1000+(q:Int):=by
      rw [IntKind.wrap_u64]
      exact Int.emod_eq_of_lt (by omega) (Int.lt_trans (show 1000+(q:Int)<2000 by omega) (by decide))
     have hw0:IntKind.i64.wrap (1000+(q:Int))=1000+(q:Int):=IntWalk.i64_in _ (by omega)
     have hlenq:(pk++(List.range q).map (ptOf x)).length=k*copies+q:=by rw [List.length_append,HPL.out];simp
     have hown:=hR2.out.own
     rw [hlenq] at hown
     have HLQ:=Lib.hid hlenq
     have hEn:Hid (zeh (ptOf x q)=[.int .u64 (N:Int),.string x]):=Lib.hid (by rw [←hN];rfl)
     have c2:wr.cell? ⟨w.heap.size,0,none⟩=some sv2:=hR2.out.blk.cell 0
     have hx0:=HX.out wr hb2
     have hml:w.heap.size<wr.heap.size:=hR2.out.blk.lt
     have hmn:¬w.heap.size=wr.heap.size:=by omega
     obtain ⟨Av,cv,hsv,_⟩:=zai hown
     subst hsv
     have HW:Hid (((wr.alloc (.cells #[.int .u64 (N:Int),.string x] 142)).drew).ownsRow w.heap.size 142 2 (.slice Av (k*copies+q) cv) (k*copies+q) (zcg (pk++(List.range q).map (ptOf x)))):=Lib.hid (hown.alloc _)
     have HR2:Hid (Reads ((wr.alloc (.cells #[.int .u64 (N:Int),.string x] 142)).drew) (wr.heap.size+1) 2 (some ⟨wr.heap.size,0,none⟩) 1 [.int .u64 (N:Int),.string x]):=Lib.hid ⟨rfl,fun _=>⟨_,rfl,by simp,rpt_cell wr N x⟩⟩
     have HBW:Hid (w.heap.size≤((wr.alloc (.cells #[.int .u64 (N:Int),.string x] 142)).drew).heap.size):=Lib.hid (by have:=hb2.size;simp;omega)
     have hM:k*copies+q+1≤1000:=by omega
     clear hN hlenq hown
     generalize hM2:k*copies+q=M at*
     clear hM2
     go_wp2_with fail
     go_region_law (first
      |(refine zbh _ rfl (.tmp 25) (.tmp 39) _ rfl w.heap.size 142 i0 _ 2 24 Tryz.underlying137 hi0 hz0 hz1 hz2 rfl (by omega) (.slice Av M cv) M _ (by simp [Act.eval]) HW.out (wr.heap.size+1) (some ⟨wr.heap.size,0,none⟩) 1 1 _ (by simp [Act.eval]) HR2.out (by simp [Value.oneCell']) (by simp only [maxLen];omega) (by omega) HBW.out ?_
        intro v' w3 hown3 hgrow _
        obtain ⟨HP,cc,cf⟩:=hR2.out.push (p:=ptOf x q) hb2.size hgrow HLQ (by rw [hEn.out];exact hown3)
        obtain ⟨A3,cap3,hv3,_⟩:=zai hown3
        subst hv3)
      |(go_simp;go_at_call 74;refine (HOq.out _).mono ?_;rintro e w' ⟨rfl,rfl⟩))
     all_goals
      go_wp2
      go_roundw
      case rel=>exact ⟨q+1,_,by omega,by go_num,by rw [range_snoc,←List.append_assoc];exact Lib.hid HP.out.1,hb2.trans (HP.out.2.1)⟩
      case measure=>simp [intOf];omega
    ·have hqe:q=copies:=by omega
     subst hqe
     have hge:¬(q:Int)<q:=by omega
     go_wp2
     go_roundw
     case rel=>exact ⟨k+1,sv2,by omega,by go_num,by rw [hPT.out];exact hR2,hb2⟩
     case measure=>simp [intOf];omega
  ·have hke:k=l.length:=by omega
   subst hke
   have hge:¬(l.length:Int)<l.length:=by omega
   have hR':=hR.out
   rw [List.take_length] at hR'
   have HRR:=Lib.hid hR'
   clear hR' hR
   go_wp2
   go_ret
   exact ⟨_,sv,rfl,HRR.out,hb⟩
end Go.Proofs.YthkfhfldoniolaaGreatDoor
namespace Go.Proofs.YthkfhfldoniolaaGreatDoor
def ltC (t:Nat) (a b:Pt):Bool:=if decide (a.at_<t)!=decide (b.at_<t) then decide (b.at_<t) else if a.at_ !=b.at_ then decide (a.at_<b.at_) else ltB a.host b.host
theorem ltC_iff (t:Nat) (a b:Pt):ltC t a b=true↔(t≤a.at_∧b.at_<t)∨((a.at_<t↔b.at_<t)∧ltP a b=true):=by
 unfold ltC ltP
 generalize ltB a.host b.host=z
 generalize a.at_=x
 generalize b.at_=y
 cases z<;>by_cases h1:x<t<;>by_cases h2:y<t<;>by_cases h3:x=y<;>simp [h1,h2,h3]<;>omega
theorem ltC_no {t:Nat} {a b:Pt}:ltC t a b=false↔¬((t≤a.at_∧b.at_<t)∨((a.at_<t↔b.at_<t)∧ltP a b=true)):=by
 rw [←ltC_iff,Bool.not_eq_true]
theorem ltC_irrefl (t:Nat) (a:Pt):ltC t a a=false:=by
 rw [ltC_no]
 rintro (h|⟨_,h⟩)
 ·omega
 ·rw [ltP_irrefl] at h;cases h
theorem ltC_trans {t:Nat} {a b c:Pt} (h1:ltC t a b=true) (h2:ltC t b c=true):ltC t a c=true:=by
 rw [ltC_iff] at*
 rcases h1 with h1|⟨h1,g1⟩<;>rcases h2 with h2|⟨h2,g2⟩
 ·omega
 ·left;omega
 ·left;omega
 ·right;exact ⟨by omega,zfD g1 g2⟩
theorem ltC_tri {t:Nat} {a b:Pt} (h1:ltC t a b=false) (h2:ltC t b a=false):a=b:=by
 rw [ltC_no] at h1 h2
 simp only [not_or,not_and] at h1 h2
 have hi:a.at_<t↔b.at_<t:=by omega
 refine ltP_tri ?_ ?_
 ·rw [←Bool.not_eq_true];exact h1.2 hi
 ·rw [←Bool.not_eq_true];exact h2.2 hi.symm
def cyc (t:Nat) (s:List Pt):List Pt:=s.filter (fun p=>decide (t≤p.at_))++s.filter (fun p=>decide (p.at_<t))
theorem around_cyc (t:Nat) (s:List Pt):around t s=(cyc t s).map (·.host):=rfl
theorem cyc_perm (t:Nat) (s:List Pt):(cyc t s).Perm s:=by
 have h:=List.filter_append_perm (fun p:Pt=>decide (t≤p.at_)) s
 have e:(fun p:Pt=>decide (p.at_<t))=fun p:Pt=> !decide (t≤p.at_):=by
  funext p
  by_cases h:p.at_<t
  ·simp [h]
  ·have h2:t≤p.at_:=by omega
   simp [h2]
 unfold cyc
 rw [e];exact h
theorem cyc_sorted (t:Nat) {s:List Pt} (h:s.Pairwise fun a b=>ltP b a=false):(cyc t s).Pairwise fun a b=>ltC t b a=false:=by
 unfold cyc
 refine List.pairwise_append.2 ⟨?_, ?_, ?_⟩
 ·refine (h.filter _).imp_of_mem fun {a b} ha hb hab=> ?_
  have h1:=(List.mem_filter.1 ha).2
  have h2:=(List.mem_filter.1 hb).2
  simp only [decide_eq_true_eq] at h1 h2
  rw [ltC_no]
  rintro (hx|⟨_,hx⟩)
  ·omega
  ·rw [hab] at hx;cases hx
 ·refine (h.filter _).imp_of_mem fun {a b} ha hb hab=> ?_
  have h1:=(List.mem_filter.1 ha).2
  have h2:=(List.mem_filter.1 hb).2
  simp only [decide_eq_true_eq] at h1 h2
  rw [ltC_no]
  rintro (hx|⟨_,hx⟩)
  ·omega
  ·rw [hab] at hx;cases hx
 ·intro a ha b hb
  have h1:=(List.mem_filter.1 ha).2
  have h2:=(List.mem_filter.1 hb).2
  simp only [decide_eq_true_eq] at h1 h2
  rw [ltC_no]
  rintro (hx|⟨hx,_⟩)<;>omega
theorem zcM {many:Int} {out:List ByteArray} (h:¬many≤out.length):∀(pre r:List ByteArray),(∀y∈pre,has out y=true)→zbd many out (pre++r)=zbd many out r
 |[],_,_=>rfl
 |y::pre,r,hp=>by
   rw [List.cons_append,nextGo_skip h (hp y List.mem_cons_self)]
   exact zcM h pre r fun z hz=>hp z (List.mem_cons_of_mem _ hz)
theorem next_none {many:Int} {out H:List ByteArray} (h:¬many≤out.length) (hp:∀y∈H,has out y=true):zbd many out H=out:=by
 have:=zcM h H [] hp
 rw [List.append_nil] at this
 rw [this];rfl
theorem next_again {many:Int} {out pre r:List ByteArray} {x:ByteArray} (h:¬many≤out.length) (hp:∀y∈pre,has out y=true) (hx:has out x=false):zbd many out (pre++x::r)=zbd many (out++[x]) (pre++x::r):=by
 rw [zcM h pre _ hp,nextGo_more h hx]
 by_cases h2:many≤(out++[x]).length
 ·rw [zdQ h2,zdQ h2]
 ·rw [zcM h2 pre _ fun y hy=> ?_,nextGo_skip h2 (zbw.2 (by simp))]
  exact zbw.2 (List.mem_append_left _ (zbw.1 (hp y hy)))
theorem next_best {many:Int} {out:List ByteArray} {t:Nat} {L C:List Pt} {q:Pt} (hp:C.Perm L) (hs:C.Pairwise fun a b=>ltC t b a=false) (h:¬many≤out.length) (hq:q∈L) (he:has out q.host=false) (hb:∀r∈L,has out r.host=false→ltC t r q=false):
 zbd many out (C.map (·.host))=zbd many (out++[q.host]) (C.map (·.host)):=by
 have hqC:q∈C:=hp.mem_iff.2 hq
 cases hf:C.find? fun p=> !has out p.host with
 |none=>
  have:=List.find?_eq_none.1 hf q hqC
  rw [he] at this;simp at this
 |some p=>
  obtain ⟨hpe,pre,r,hC,hpre⟩:=List.find?_eq_some_iff_append.1 hf
  have hpe':has out p.host=false:=by simpa using hpe
  have hpre':∀y∈pre,has out y.host=true:=fun y hy=>by simpa using hpre y hy
  have hpL:p∈L:=hp.mem_iff.1 (by rw [hC];simp)
  have h1:=hb p hpL hpe'
  have e:p=q:=by
   rw [hC] at hqC hs
   rcases List.mem_append.1 hqC with hm|hm
   ·rw [hpre' q hm] at he;cases he
   ·rcases List.mem_cons.1 hm with hm|hm
    ·exact hm.symm
    ·have h2:=(List.pairwise_cons.1 (List.pairwise_append.1 hs).2.1).1 q hm
     exact ltC_tri h1 h2
  subst e
  rw [hC,List.map_append,List.map_cons]
  exact next_again h (fun y hy=>by
   obtain ⟨z,hz,rfl⟩:=List.mem_map.1 hy
   exact hpre' z hz) hpe'
def zcs (out:List ByteArray) (t:Nat) (L:List Pt) (k:Nat) (b:Int):Prop:=
 (b= -1∧∀i p,i<k→L[i]? =some p→has out p.host=true)∨∃(j:Nat) (q:Pt),b=j∧j<k∧L[j]? =some q∧has out q.host=false∧∀i p,i<k→L[i]? =some p→has out p.host=false→ltC t p q=false
theorem zcs.zero (out:List ByteArray) (t:Nat) (L:List Pt):zcs out t L 0 (-1):= .inl ⟨rfl,fun i p h=>absurd h (by omega)⟩
theorem zcs.skip {out:List ByteArray} {t:Nat} {L:List Pt} {k:Nat} {b:Int} {p:Pt} (h:zcs out t L k b) (hk:L[k]? =some p) (hh:has out p.host=true):zcs out t L (k+1) b:=by
 rcases h with ⟨rfl,h⟩|⟨j,q,rfl,hj,hq,he,h⟩
 ·refine .inl ⟨rfl,fun i p' hi hp'=> ?_⟩
  rcases Nat.lt_succ_iff_lt_or_eq.1 hi with hi|rfl
  ·exact h i p' hi hp'
  ·rw [hk] at hp';obtain rfl:=Option.some.inj hp';exact hh
 ·refine .inr ⟨j,q,rfl,by omega,hq,he,fun i p' hi hp' he'=> ?_⟩
  rcases Nat.lt_succ_iff_lt_or_eq.1 hi with hi|rfl
  ·exact h i p' hi hp' he'
  ·rw [hk] at hp';obtain rfl:=Option.some.inj hp';rw [hh] at he';cases he'
theorem zcs.first {out:List ByteArray} {t:Nat} {L:List Pt} {k:Nat} {p:Pt} (h:zcs out t L k (-1)) (hk:L[k]? =some p) (hh:has out p.host=false):zcs out t L (k+1) (k:Int):=by
 rcases h with ⟨_,h⟩|⟨j,q,hj,_⟩
 ·refine .inr ⟨k,p,rfl,by omega,hk,hh,fun i p' hi hp' he'=> ?_⟩
  rcases Nat.lt_succ_iff_lt_or_eq.1 hi with hi|rfl
  ·rw [h i p' hi hp'] at he';cases he'
  ·rw [hk] at hp';obtain rfl:=Option.some.inj hp';exact ltC_irrefl _ _
 ·omega
theorem zcs.turn {out:List ByteArray} {t:Nat} {L:List Pt} {k j:Nat} {p q:Pt} (h:zcs out t L k (j:Int)) (hq:L[j]? =some q) (hk:L[k]? =some p) (hh:has out p.host=false) (hl:ltC t p q=true):zcs out t L (k+1) (k:Int):=by
 rcases h with ⟨h,_⟩|⟨j',q',hj,_,hq',he,h⟩
 ·omega
 ·obtain rfl:j=j':=by omega
  rw [hq] at hq'
  obtain rfl:=Option.some.inj hq'
  refine .inr ⟨k,p,rfl,by omega,hk,hh,fun i p' hi hp' he'=> ?_⟩
  rcases Nat.lt_succ_iff_lt_or_eq.1 hi with hi|rfl
  ·rw [←Bool.not_eq_true]
   intro hlt
   have h1:=h i p' hi hp' he'
   rw [ltC_trans hlt hl] at h1;cases h1
  ·rw [hk] at hp';obtain rfl:=Option.some.inj hp';exact ltC_irrefl _ _
theorem zcs.stay {out:List ByteArray} {t:Nat} {L:List Pt} {k j:Nat} {p q:Pt} (h:zcs out t L k (j:Int)) (hq:L[j]? =some q) (hk:L[k]? =some p) (hl:ltC t p q=false):zcs out t L (k+1) (j:Int):=by
 rcases h with ⟨h,_⟩|⟨j',q',hj,hjk,hq',he,h⟩
 ·omega
 ·obtain rfl:j=j':=by omega
  rw [hq] at hq'
  obtain rfl:=Option.some.inj hq'
  refine .inr ⟨j,q,rfl,by omega,hq,he,fun i p' hi hp' he'=> ?_⟩
  rcases Nat.lt_succ_iff_lt_or_eq.1 hi with hi|rfl
  ·exact h i p' hi hp' he'
  ·rw [hk] at hp';obtain rfl:=Option.some.inj hp';exact hl
end Go.Proofs.YthkfhfldoniolaaGreatDoor
namespace Go.Proofs.YthkfhfldoniolaaGreatDoor
open Go.RowKit Go.Sort
theorem RefR.ringAt {w:World} {B rp:Nat} {s:List Pt} {sv:Value} (h:RefR w B rp s sv) (h0:0<s.length) (hl:s.length≤1000):∃g cap,RingAt w rp g cap s:=by
 obtain ⟨g,cap,hsv,_⟩:=h.own.form h0
 subst hsv
 refine ⟨g,cap,h.blk.cell 0,fun k hk=> ?_,hl⟩
 have e0:(zcg s)[k*2]? =some (.int .u64 (s[k].at_:Int)):=by
  rw [zdG,show k*2/2=k by omega,show k*2%2=0 by omega,List.getElem?_eq_getElem hk];rfl
 have e1:(zcg s)[k*2+1]? =some (.string s[k].host):=by
  rw [zdG,show (k*2+1)/2=k by omega,show (k*2+1)%2=1 by omega,List.getElem?_eq_getElem hk];rfl
 exact ⟨(h.own.cellAt (k*2) (by omega)).trans e0,(h.own.cellAt (k*2+1) (by omega)).trans e1⟩
def LessIs (b:Bool) (w:World) (e:Ending) (w':World):Prop:=e= .returned (.bool b)∧Below w.heap.size w w'
theorem less_ways (t x y:Nat) (z:Bool) (hx:Bool) (h:hx=if decide (x<t)!=decide (y<t) then decide (y<t) else if x !=y then decide (x<y) else z):
 (decide (x<t)=true∧decide (y<t)=false∧hx=false)∨(decide (x<t)=false∧decide (y<t)=true∧hx=true)∨((∃b,decide (x<t)=b∧decide (y<t)=b)∧((((x:Int)!=(y:Int))=true∧hx=decide (x<y))∨(((x:Int)!=(y:Int))=false∧hx=z))):=by
 have e:((x:Int)!=(y:Int))=(x !=y):=by
  rw [Bool.eq_iff_iff]
  simp only [bne_iff_ne,ne_eq]
  omega
 rw [e]
 cases h1:decide (x<t)<;>cases h2:decide (y<t)<;>cases h3:(x !=y)<;>rw [h1,h2,h3] at h<;>simp at h<;>simp [h]
set_option maxRecDepth 100000 in
theorem less_any (t:Nat) (a b:Pt) (w:World):Calls Tryz.prog 75 #[.int .u64 (t:Int),.agg #[.int .u64 (a.at_:Int),.string a.host],.agg #[.int .u64 (b.at_:Int),.string b.host]] w (LessIs (ltC t a b) w):=by
 have hw:=less_ways t a.at_ b.at_ (ltB a.host b.host) (ltC t a b) rfl
 have hz:Op.bytesLess a.host.toList b.host.toList=ltB a.host b.host:=rfl
 have hb0:Below w.heap.size w ((w.alloc (.cells #[.int .u64 (a.at_:Int),.string a.host] 142)).alloc (.cells #[.int .u64 (b.at_:Int),.string b.host] 142)):=((Below.refl _ _).alloc (Nat.le_refl _) _).alloc (by simp) _
 generalize ltC t a b=hx at*
 generalize ltB a.host b.host=z at*
 obtain ⟨x,xh⟩:=a
 obtain ⟨y,yh⟩:=b
 dsimp only at*
 rcases hw with ⟨h1,h2,rfl⟩|⟨h1,h2,rfl⟩|⟨⟨q,h1,h2⟩,⟨h3,rfl⟩|⟨h3,rfl⟩⟩
 all_goals
  go_enter Tryz.func75,Tryz.ntmps75
  go_wp2
  go_ret
  exact ⟨by simp [*],hb0⟩
def lenV:Value→Nat
 | .slice _ n _=>n
 |_=>0
set_option maxRecDepth 100000 in
theorem nextOf_any (rp g cap key:Nat) (many:Int) (L C:List Pt) (w:World) (hR:RingAt w rp g cap L) (hk:U64 key) (hp:C.Perm L) (hs:C.Pairwise fun a b=>ltC (Mx.turn key) b a=false):
 Calls Tryz.prog 52 #[.pointer (some ⟨rp,0,none⟩),.int .u64 (key:Int),.int .i64 many] w (zaL (zbd many [] (C.map (·.host))) w):=by
 have HT:=Lib.hid (zcY key w hk)
 unfold zcD at HT
 have HLess:=Lib.hid (fun (a b:Pt) W=>less_any (Mx.turn key) a b W)
 have HNone:=Lib.hid (fun (out:List ByteArray) (b:Int) (h:zcs out (Mx.turn key) L L.length b) (hb:b= -1) (hm:¬many≤out.length)=>(show zbd many out (C.map (·.host))=out from by
  refine next_none hm fun y hy=> ?_
  obtain ⟨p,hpC,rfl⟩:=List.mem_map.1 hy
  obtain ⟨i,hi,rfl⟩:=List.getElem_of_mem (hp.mem_iff.1 hpC)
  rcases h with ⟨_,h⟩|⟨j,q,hj,_⟩
  ·exact h i _ hi (List.getElem?_eq_getElem hi)
  ·omega))
 have HBest:=Lib.hid (fun (out:List ByteArray) (j:Nat) (q:Pt) (hq:L[j]? =some q) (h:zcs out (Mx.turn key) L L.length (j:Int)) (hm:¬many≤out.length)=>(show has out q.host=false∧q.host∈C.map (·.host)∧zbd many out (C.map (·.host))=zbd many (out++[q.host]) (C.map (·.host)) from by
  rcases h with ⟨h,_⟩|⟨j',q',hj,_,hq',he,h⟩
  ·omega
  ·obtain rfl:j=j':=by omega
   rw [hq] at hq'
   obtain rfl:=Option.some.inj hq'
   obtain ⟨hjl,rfl⟩:=List.getElem?_eq_some_iff.1 hq
   have hm1:=List.getElem_mem hjl
   exact ⟨he,List.mem_map.2 ⟨_,hp.mem_iff.2 hm1,rfl⟩,next_best hp hs hm hm1 he fun r hr=>by
    obtain ⟨i,hi,rfl⟩:=List.getElem_of_mem hr
    exact h i _ hi (List.getElem?_eq_getElem hi)⟩))
 have hlH:(C.map (·.host)).length=L.length:=by rw [List.length_map,hp.length_eq]
 have HOut:=Lib.hid (fun (out:List ByteArray) (h1:out.Nodup) (h2:∀x∈out,x∈C.map (·.host))=>(show out.length≤L.length from by rw [←hlH];exact nodup_len h1 h2))
 have hl1000:=hR.l
 have HR:=Lib.hid hR
 obtain ⟨i0,hi0,hz0,hz1,hz2⟩:=info_parts zb8
 clear hR hp hs hk hlH
 generalize C.map (·.host)=H at*
 generalize Mx.turn key=t at*
 go_enter Tryz.func52,Tryz.ntmps52
 go_wp2_with fail
 refine HT.out.mono ?_
 rintro e w1 ⟨rfl,rfl⟩
 go_wp2_with fail
 go_loopw [8] (fun ov wr=>∃out:List ByteArray,wr.ownsRow w.heap.size 9 1 ov out.length (zak out)∧Hid (zbd many out H=zbd many [] H)∧Hid (out.Nodup∧∀x∈out,x∈H)∧Below w.heap.size w wr) (fun ov _=>L.length+1-lenV ov)
 case atStart=>exact ⟨[],by simp [zak,zcn],Lib.hid rfl,Lib.hid ⟨by simp,fun x h=>by cases h⟩,Below.refl _ _⟩
 case round=>
  obtain ⟨out,hown,hgo,hset,hb⟩:=hrel
  have hlen:=HOut.out out hset.out.1 hset.out.2
  obtain ⟨Ao,co,hov,hro,_,_⟩:=zai hown
  subst hov
  by_cases hm:(out.length:Int)<many
  ·have hm2:¬many≤out.length:=by omega
   go_wp2_with fail
   obtain ⟨wo,rfl⟩:∃wo:World,wo=wr:=⟨_,rfl⟩
   go_loopw [9,10] (fun bv kv wi=>∃(k:Nat) (b:Int),k≤L.length∧bv= .int .i64 b∧kv= .int .i64 (k:Int)∧Hid (zcs out t L k b)∧Below wo.heap.size wo wi) (fun _ kv _=>L.length- (intOf kv).toNat)
   case atStart=>exact ⟨0,-1,Nat.zero_le _,rfl,rfl,Lib.hid (zcs.zero _ _ _),Below.refl _ _⟩
   case round=>
    obtain ⟨k,b,hk,rfl,rfl,hbest,hbo⟩:=hrel
    have hRA:=HR.out.below (zaa hb hbo)
    have cr:=hRA.r
    by_cases hkl:k<L.length
    ·have hkl2:(k:Int)<L.length:=by omega
     obtain ⟨p0,p1⟩:=hRA.p k hkl
     have hpk:L[k]? =some L[k]:=List.getElem?_eq_getElem hkl
     have hk1:k+1≤L.length:=hkl
     have HIX:=Lib.hid (zfz Ao co wr.heap.size out L[k].host wr ((hro.below hbo).more hbo.size) (by unfold maxLen;omega))
     unfold zd7 at HIX
     have hidx:=zeJ out L[k].host
     have HP:=Lib.hid (fun j (hj:j<L.length)=>(⟨(hRA.p j hj).1,(hRA.p j hj).2⟩:wr.cell? ⟨g,j*2,none⟩=some (.int .u64 (L[j].at_:Int))∧wr.cell? ⟨g,j*2+1,none⟩=some (.string L[j].host)))
     have HRA:=Lib.hid hRA
     clear hRA
     cases hh:has out L[k].host with
     |true=>
      rw [hh] at hidx
      have HB:=Lib.hid (hbest.out.skip hpk hh)
      generalize L[k]=p at*
      obtain ⟨pa,ph⟩:=p
      dsimp only at*
      generalize idx out ph=ix at*
      have q1:decide (ix≥0)=true:=hidx
      clear hpk hh
      go_wp2_with fail
      refine HIX.out.mono ?_
      rintro e w3 ⟨rfl,rfl⟩
      go_wp2
      go_roundw
      case rel=>exact ⟨k+1,b,hk1,rfl,by go_num,HB,hbo⟩
      case measure=>simp [intOf];omega
     |false=>
      rw [hh] at hidx
      have q1:decide (idx out L[k].host≥0)=false:=hidx
      rcases hbest.out with ⟨rfl,hb1⟩|⟨j,q,rfl,hjk,hq,he,hb1⟩
      ·have HB:=Lib.hid (hbest.out.first hpk hh)
       generalize L[k]=p at*
       obtain ⟨pa,ph⟩:=p
       dsimp only at*
       generalize idx out ph=ix at*
       clear hpk hh hb1
       go_wp2_with fail
       refine HIX.out.mono ?_
       rintro e w3 ⟨rfl,rfl⟩
       go_wp2
       go_quiet (fail)
       go_wp2
       go_roundw
       case rel=>exact ⟨k+1,(k:Int),hk1,rfl,by go_num,HB,below_drewN hbo _⟩
       case measure=>simp [intOf];omega
      ·obtain ⟨hjl,hjq⟩:=List.getElem?_eq_some_iff.1 hq
       obtain ⟨r0,r1⟩:=HP.out j hjl
       rw [hjq] at r0 r1
       have hjl2:(j:Int)<L.length:=by omega
       have q2:decide ((j:Int)<0)=false:=by simp
       have HL:=Lib.hid (HLess.out L[k] q wr.drew)
       have HBt:=Lib.hid (fun (h:ltC t L[k] q=true)=>hbest.out.turn hq hpk hh h)
       have HBs:=Lib.hid (fun (h:ltC t L[k] q=false)=>hbest.out.stay hq hpk h)
       unfold LessIs at HL
       generalize hlt:ltC t L[k] q=lt at*
       have HQ:=Lib.hid hq
       have HC5:Hid (∀W',Below wr.heap.size wr W'→W'.cell? ⟨rp,0,none⟩=some (.slice (some ⟨g,0,none⟩) L.length cap)∧W'.cell? ⟨g,k*2,none⟩=some (.int .u64 (L[k].at_:Int))∧W'.cell? ⟨g,k*2+1,none⟩=some (.string L[k].host)∧
        W'.cell? ⟨g,j*2,none⟩=some (.int .u64 (q.at_:Int))∧W'.cell? ⟨g,j*2+1,none⟩=some (.string q.host)):=Lib.hid fun W' hW=>by
        have R:=HRA.out.below hW
        have e1:=R.p j hjl
        rw [hjq] at e1
        exact ⟨R.r,(R.p k hkl).1,(R.p k hkl).2,e1.1,e1.2⟩
       clear hpk hh hb1 he hq hjq hlt hbest
       generalize L[k]=p at*
       obtain ⟨pa,ph⟩:=p
       obtain ⟨qa,qh⟩:=q
       dsimp only at*
       generalize idx out ph=ix at*
       go_wp2_with fail
       refine HIX.out.mono ?_
       rintro e w3 ⟨rfl,rfl⟩
       go_wp2_with fail
       go_region_held3 (fun w'=>w'.cell? ⟨rp,0,none⟩=some (.slice (some ⟨g,0,none⟩) L.length cap)∧w'.cell? ⟨g,k*2,none⟩=some (.int .u64 (pa:Int))∧w'.cell? ⟨g,k*2+1,none⟩=some (.string ph)∧w'.cell? ⟨g,j*2,none⟩=some (.int .u64 (qa:Int))∧w'.cell? ⟨g,j*2+1,none⟩=some (.string qh)) (first|exact ⟨cr,p0,p1,r0,r1⟩|exact HC5.out _ (zep hb5)|go_keep)
        ((go_at_call 75;refine HL.out.mono ?_;rintro e w5 ⟨rfl,hb5⟩))
       have hb5':=zaa hbo (zep hb5)
       cases lt with
       |true=>
        have HB:=Lib.hid (HBt.out rfl)
        go_wp2
        go_roundw
        case rel=>exact ⟨k+1,(k:Int),hk1,rfl,by go_num,HB,hb5'⟩
        case measure=>simp [intOf];omega
       |false=>
        have HB:=Lib.hid (HBs.out rfl)
        go_wp2
        go_roundw
        case rel=>exact ⟨k+1,(j:Int),hk1,rfl,by go_num,HB,hb5'⟩
        case measure=>simp [intOf];omega
    ·obtain rfl:k=L.length:=by omega
     have hge:¬(L.length:Int)<L.length:=by omega
     have hbw:=zaa hb hbo
     rcases hbest.out with ⟨rfl,_⟩|⟨j,q,rfl,hjk,hq,he,hb1⟩
     ·have HE:Hid (zbd many [] H=out):=Lib.hid (by rw [←hgo.out];exact HNone.out out (-1) hbest.out rfl hm2)
      have hownr:=own_below hown hbo
      have HPst:Hid (zaL (zbd many [] H) w (.returned (.slice Ao out.length co)) wr):=Lib.hid (by rw [HE.out];exact ⟨Ao,co,rfl,hownr,hbw⟩)
      clear hbest
      go_wp2
      go_ret
      exact HPst.out
     ·obtain ⟨g1,g2,g3⟩:=HBest.out out j q hq hbest.out hm2
      obtain ⟨hjl,hjq⟩:=List.getElem?_eq_some_iff.1 hq
      obtain ⟨_,r1⟩:=hRA.p j hjl
      rw [hjq] at r1
      have hjl2:(j:Int)<L.length:=by omega
      have q2:decide ((j:Int)<0)=false:=by simp
      have HGo:Hid (zbd many (out++[q.host]) H=zbd many [] H):=Lib.hid (by rw [←g3];exact hgo.out)
      have HSet:Hid ((out++[q.host]).Nodup∧∀x∈out++[q.host],x∈H):=Lib.hid ⟨List.nodup_append.2 ⟨hset.out.1,by simp,fun a ha b hb=>by
       obtain rfl:b=q.host:=by simpa using hb
       rintro rfl
       rw [zbw.2 ha] at he;cases he⟩,fun x hx=>by
       rcases List.mem_append.1 hx with hx|hx
       ·exact hset.out.2 x hx
       ·obtain rfl:x=q.host:=by simpa using hx
        exact g2⟩
      have hlen2:=HOut.out _ HSet.out.1 HSet.out.2
      rw [List.length_append] at hlen2
      simp only [List.length_cons,List.length_nil] at hlen2
      have hownr:=own_below hown hbo
      clear hbest hq hjq he hb1 g1 g2 g3 hRA
      generalize q.host=qh at*
      go_wp2_with (at_builtin
                   go_must (refine wpList_append_own _ rfl _ _ 24 rfl w.heap.size 9 i0 (.string ⟨#[]⟩) 1 16 Tryz.underlying24 hi0 hz0 hz1 hz2 rfl (by decide) _ _ _ rfl (hownr.alloc _) ⟨wr.heap.size,0,none⟩ 1 1 [.string qh] rfl rfl (cell_one_new _ _ _) (by simp [Value.oneCell']) (by simp only [maxLen];omega) (by omega) (zbi hbw) ?_)
                   intro v' w7 hown7 hgrow _)
      have hb7:=zbg hbw hownr hgrow
      obtain ⟨A7,c7,hv7,_⟩:=zai hown7
      subst hv7
      go_roundw
      case rel=>exact ⟨out++[qh],by simpa [zak] using hown7,HGo,HSet,hb7⟩
      case measure=>simp [lenV];omega
  ·have hm2:many≤out.length:=by omega
   have HE:Hid (zbd many [] H=out):=Lib.hid (by rw [←hgo.out];exact zdQ hm2 _)
   have HPst:Hid (zaL (zbd many [] H) w (.returned (.slice Ao out.length co)) wr):=Lib.hid (by rw [HE.out];exact ⟨Ao,co,rfl,hown,hb⟩)
   go_wp2
   go_ret
   exact HPst.out
end Go.Proofs.YthkfhfldoniolaaGreatDoor
namespace Go.Proofs.YthkfhfldoniolaaGreatDoor
open Go.RowKit
theorem copies_ways {cp:Int} (h:¬(1≤cp∧cp≤16)):(decide (cp<1)=true)∨(decide (cp<1)=false∧decide (cp>16)=true):=by
 simp only [decide_eq_true_eq,decide_eq_false_iff_not]
 omega
theorem ringFault_some (l:List ByteArray) (cp:Int):zaH l cp=match zaS l with|some f=>some f|none=>if 1≤cp∧cp≤16 then none else some ⟨2,none⟩:=by
 unfold zaH zaS
 by_cases h:l.length=0
 ·rw [if_pos h,if_pos h]
 ·rw [if_neg h,if_neg h]
  cases zaf l<;>rfl
set_option maxRecDepth 100000 in
theorem ringFault_ref (A:Option Addr) (c B:Nat) (l:List ByteArray) (cp:Int) (w:World) (hr:Reads w B 1 A l.length (zak l)) (hB:B≤w.heap.size) (hl:l.length≤maxLen) (hs:∀s∈l,s.size≤maxLen):
 Calls Tryz.prog 50 #[.slice A l.length c,.int .i64 cp] w (zaB (zaH l cp) w):=by
 have hb0:Below w.heap.size w (w.alloc (.cells #[.int .i64 0,.int .i64 0] 50)):=(Below.refl _ _).alloc (Nat.le_refl _) _
 have HH:=Lib.hid (zdS A c B l (w.alloc (.cells #[.int .i64 0,.int .i64 0] 50)) (hr.alloc hB _) (by simp;omega) hl hs)
 have HB0:=Lib.hid hb0
 have HN0:=Lib.hid (Blk.new w 50 #[.int .i64 0,.int .i64 0])
 have HFE:=Lib.hid (ringFault_some l cp)
 clear hr hB hb0
 cases ho:zaS l with
 |some f=>
  rw [ho] at HH HFE
  have hc:=zdy ho
  have HF:Hid (zaH l cp=some f):=Lib.hid HFE.out
  have hz:((zcv (some f):Int)==0)=false:=beq_eq_false_iff_ne.2 (by show (f.code:Int)≠0;omega)
  unfold zaB at HH
  clear ho hc HFE
  obtain ⟨fc,hfc⟩:∃fc:Int,(zcv (some f):Int)=fc:=⟨_,rfl⟩
  obtain ⟨fa,hfa⟩:∃fa:Int,fAt (some f)=fa:=⟨_,rfl⟩
  have HV:Hid (zax (some f)= .agg #[.int .i64 fc,.int .i64 fa]):=Lib.hid (by unfold zax;rw [hfc,hfa])
  rw [hfc] at HH hz
  rw [hfa] at HH
  clear hfc hfa
  go_enter Tryz.func50,Tryz.ntmps50
  go_wp2_with fail
  refine HH.out.mono ?_
  rintro e w1 ⟨rfl,hb1⟩
  have hB1:=HN0.out.below hb1 HN0.out.lt
  have c0:=hB1.cell 0
  have c1:=hB1.cell 1
  have f0:=hB1.frozen 0
  have f1:=hB1.frozen 1
  have hz1:w.heap.size<w1.heap.size:=hB1.lt
  have HB:=Lib.hid (HB0.out.trans (hb1.mono HB0.out.size))
  clear hB1 hb1
  simp at c0 c1
  go_wp2
  refine bodyPost_ret (v:= .agg #[.int .i64 fc,.int .i64 fa]) (by simp [results,Tryz.results50,go_sem,c0,c1,hz1]) rfl (zaw HF.out (by rw [HV.out]) ?_)
  exact Below.alloc ((HB.out.setCell (p:=⟨w.heap.size,0,none⟩) (Nat.le_refl _) _).setCell (p:=⟨w.heap.size,1,none⟩) (Nat.le_refl _) _) (by have:=HB.out.size;simpa [World.setCell] using this) _
 |none=>
  rw [ho] at HH HFE
  unfold zaB at HH
  by_cases he:1≤cp∧cp≤16
  ·have HF:Hid (zaH l cp=none):=Lib.hid (by rw [HFE.out];simp only [if_pos he])
   have a1:decide (cp<1)=false:=by simp;omega
   have a2:decide (cp>16)=false:=by simp;omega
   clear ho he HFE
   go_enter Tryz.func50,Tryz.ntmps50
   go_wp2_with fail
   refine HH.out.mono ?_
   rintro e w1 ⟨rfl,hb1⟩
   have hB1:=HN0.out.below hb1 HN0.out.lt
   have c0:=hB1.cell 0
   have c1:=hB1.cell 1
   have f0:=hB1.frozen 0
   have f1:=hB1.frozen 1
   have hz1:w.heap.size<w1.heap.size:=hB1.lt
   have HB:=Lib.hid (HB0.out.trans (hb1.mono HB0.out.size))
   clear hB1 hb1
   simp at c0 c1
   go_wp2
   refine bodyPost_ret (v:=zax none) (by simp [results,Tryz.results50,go_sem,zax,zcv,fAt,c0,c1,hz1]) rfl (zaw HF.out rfl ?_)
   exact Below.alloc ((HB.out.setCell (p:=⟨w.heap.size,0,none⟩) (Nat.le_refl _) _).setCell (p:=⟨w.heap.size,1,none⟩) (Nat.le_refl _) _) (by have:=HB.out.size;simpa [World.setCell] using this) _
  ·have HF:Hid (zaH l cp=some ⟨2,none⟩):=Lib.hid (by rw [HFE.out];simp only [if_neg he])
   have hw:=copies_ways he
   clear ho he HFE
   rcases hw with a1|⟨a1,a2⟩
   all_goals
    go_enter Tryz.func50,Tryz.ntmps50
    go_wp2_with fail
    refine HH.out.mono ?_
    rintro e w1 ⟨rfl,hb1⟩
    have hB1:=HN0.out.below hb1 HN0.out.lt
    have HB1:=Lib.hid (HB0.out.trans (hb1.mono HB0.out.size))
    have HX:=Lib.hid (hB1.alloc (.cells #[.int .i64 0,.int .i64 (-1)] 50))
    clear hB1 hb1
    go_wp2_with fail
    refine (zfP _ _).mono ?_
    rintro e w2 ⟨rfl,hb2⟩
    have hB2:=HX.out.below hb2 HX.out.lt
    have c0:=hB2.cell 0
    have c1:=hB2.cell 1
    have f0:=hB2.frozen 0
    have f1:=hB2.frozen 1
    have hz1:w.heap.size<w2.heap.size:=hB2.lt
    have hba:=HB1.out.alloc HB1.out.size (.cells #[.int .i64 0,.int .i64 (-1)] 50)
    have HB:=Lib.hid (hba.trans (hb2.mono hba.size))
    clear hB2 hb2 hba
    simp at c0 c1
    go_wp2
    refine bodyPost_ret (v:=zax (some ⟨2,none⟩)) (by simp [results,Tryz.results50,go_sem,zax,zcv,fAt,c0,c1]) rfl (zaw HF.out rfl ?_)
    exact (HB.out.setCell (p:=⟨w.heap.size,0,none⟩) (Nat.le_refl _) _).setCell (p:=⟨w.heap.size,1,none⟩) (Nat.le_refl _) _
end Go.Proofs.YthkfhfldoniolaaGreatDoor
namespace Go.Proofs.YthkfhfldoniolaaGreatDoor
open Go.RowKit Go.Sort
def RefIs (rp:Nat) (l:List ByteArray) (cp:Nat) (w:World):Prop:=∃g cap,RingAt w rp g cap (zaQ l cp)
theorem refIs_next {rp cp key:Nat} {l:List ByteArray} {w:World} (many:Int) (h:RefIs rp l cp w) (hk:U64 key):
 Calls Tryz.prog 52 #[.pointer (some ⟨rp,0,none⟩),.int .u64 (key:Int),.int .i64 many] w (zaL (zbd many [] (zcI l cp key)) w):=by
 obtain ⟨g,cap,h⟩:=h
 have hs:=zdT l cp
 have:=nextOf_any rp g cap key many (zaQ l cp) (cyc (Mx.turn key) (sortedOf l cp)) w h hk ((cyc_perm _ _).trans hs.1) (cyc_sorted _ hs.2)
 unfold zcI
 rw [around_cyc]
 exact this
def RefMade (l:List ByteArray) (cp:Nat) (w:World) (e:Ending) (w':World):Prop:=∃rp,e= .returned (.pointer (some ⟨rp,0,none⟩))∧RefIs rp l cp w'∧Below w.heap.size w w'
theorem refMade (A:Option Addr) (c:Nat) (l:List ByteArray) (cp:Nat) (w:World) (hr:Reads w w.heap.size 1 A l.length (zak l)) (hf:zaH l (cp:Int)=none) (hs:∀s∈l,s.size≤maxLen):
 Calls Tryz.prog 51 #[.slice A l.length c,.int .i64 (cp:Int)] w (RefMade l cp w):=by
 obtain ⟨h0,ho,hc1,hc2⟩:=zcB hf
 obtain ⟨h12,_,_⟩:=zal.1 ho
 have hpl:=zbQ l cp
 have hm:l.length*cp≤12*16:=Nat.mul_le_mul h12 (by omega)
 have hp:0<l.length*cp:=Nat.mul_pos h0 (by omega)
 refine (ringOf_any A c l cp w hr h12 hs (by omega)).mono fun e w' h=> ?_
 obtain ⟨rp,sv,he,hR,hb⟩:=h
 obtain ⟨g,cap,hA⟩:=hR.ringAt (by omega) (by omega)
 exact ⟨rp,he,⟨g,cap,hA⟩,hb⟩
def OneP (x:ByteArray) (w:World) (e:Ending) (w':World):Prop:=∃g cap,e= .returned (.slice (some ⟨g,0,none⟩) 1 cap)∧w'.cell? ⟨g,0,none⟩=some (.string x)∧1≤cap∧Below w.heap.size w w'
theorem oneP_of {x:ByteArray} {w w':World} {e:Ending} (h:zaL [x] w e w'):OneP x w e w':=by
 obtain ⟨A,cap,he,ho,hb⟩:=h
 have hc:=zfO ho
 obtain ⟨g,cap',hv,_,_⟩:=ho.form (by simp)
 have hA:A=some ⟨g,0,none⟩:=by injection hv
 subst hA
 exact ⟨g,cap,he,(ho.cellAt 0 (by simp)).trans rfl,hc,hb⟩
theorem next_one1 (x:ByteArray) (r:List ByteArray):zbd 1 [] (x::r)=[x]:=by
 rw [nextGo_more (by simp) (by rfl),List.nil_append,zdQ (by simp)]
theorem hosts_first {l:List ByteArray} {cp key:Nat} (h0:0<l.length) (hc:1≤cp):∃x,(zcI l cp key)[0]? =some x∧zbd 1 [] (zcI l cp key)=[x]:=by
 have hm:l[0]∈zcI l cp key:=mem_hostsOf (List.getElem_mem h0) hc
 cases hH:zcI l cp key with
 |nil=>rw [hH] at hm;cases hm
 |cons x r=>exact ⟨x,rfl,next_one1 x r⟩
end Go.Proofs.YthkfhfldoniolaaGreatDoor
