/-
  A balance's New, Drain, Flows and Epoch. A balance's picks in plain words: a key stays with its host. A balance in a law's walk: what stands, and each act. A balance's Look. The closed fact balanced; the balances that the laws make.
-/
import Derived.Test.YthkfhfldoniolaaGreatDoorPick
import Derived.Test.YthkfhfldoniolaaGreatDoorLists
set_option maxHeartbeats 1000000
namespace Go.Proofs.YthkfhfldoniolaaGreatDoor
open Go.RowKit
theorem info_str:(Tryz.prog.info? 9).map (fun i=>(i.zero,i.size,i.bytes))=some (some (.string ⟨#[]⟩),1,16):=by kernel_rfl
theorem strV_one (l:List ByteArray):∀u∈zak l,u.oneCell'=true:=by
 intro u hu
 unfold zak at hu
 obtain ⟨s,_,rfl⟩:=List.mem_map.1 hu
 rfl
theorem own_empty (w:World) (e:TypeId) (size:Nat) (B:Nat) (hB:B≤w.heap.size):(w.alloc (.cells #[] e)).ownsRow B e size (.slice (some ⟨w.heap.size,0,none⟩) 0 0) 0 []:=
 ⟨by simp,.inr ⟨w.heap.size,0,#[],rfl,hB,heap_alloc_new w _,Nat.le_refl _,Nat.zero_le _,by simp,by simp⟩⟩
def zeP (l:List ByteArray) (w:World) (e:Ending) (w':World):Prop:=∃A cap,e= .returned (.slice A l.length cap)∧w'.ownsRow w.heap.size 9 1 (.slice A l.length cap) l.length (zak l)∧Below w.heap.size w w'
set_option maxRecDepth 100000 in
theorem clone_any (ad:Addr) (c:Nat) (l:List ByteArray) (w:World) (hr:Reads w w.heap.size 1 (some ad) l.length (zak l)) (hl:l.length≤1000):
 Calls Tryz.prog 83 #[.slice (some ad) l.length c] w (zeP l w):=by
 obtain ⟨i0,hi0,hz0,hz1,hz2⟩:=info_parts info_str
 have HR:=Lib.hid (hr.alloc (Nat.le_refl _) (.cells #[] 9))
 have HO:=Lib.hid (own_empty w 9 1 w.heap.size (Nat.le_refl _))
 have HN:=Lib.hid (strV_one l)
 have HP:Hid (∀v w1,w1.ownsRow w.heap.size 9 1 v l.length (zak l)→(w.alloc (.cells #[] 9)).grownBy w1 (some w.heap.size)→zeP l w (.returned v) w1):=Lib.hid fun v w1 h1 h2=>by
  obtain ⟨A,cap,rfl,_⟩:=zai h1
  exact ⟨A,cap,rfl,h1,((Below.refl _ _).alloc (Nat.le_refl _) _).trans ((zam.zaE (bs:=[w.heap.size]) h2 fun j hj=>by cases hj;simp).below (B:=w.heap.size) (by simp) (by simp))⟩
 have heq:∀W:World,(binOp .eql 24 (.slice (some ad) l.length c) (.slice none 0 0)).run Tryz.prog W= .ok (.bool false) W:=fun W=>Lib.run_eql_slice_nil W _ _ (some ad) _ _ _ _ Tryz.underlying24
 clear hr
 go_enter Tryz.func83,Tryz.ntmps83
 go_wp2_with (first
  |(at_builtin
    go_must (refine zac _ rfl (.tmp 5) (.tmp 6) _ rfl w.heap.size 9 i0 _ 1 16 Tryz.underlying24 hi0 hz0 hz1 hz2 rfl (by omega) (.slice (some ⟨w.heap.size,0,none⟩) 0 0) 0 [] rfl HO.out w.heap.size (some ad) l.length c _ rfl HR.out HN.out (by simp only [maxLen];omega) (by omega) (by simp) ?_)
    intro v1 w1 hown1 hg1 _
    simp only [Nat.zero_add,List.nil_append] at hown1
    have HO1:=Lib.hid (HP.out _ _ hown1 hg1)
    clear hown1 hg1))
 go_ret
 exact HO1.out
def newS (c:zb7):BS:=⟨fresh c.hosts,(0,[]),fun _=>false,0,0⟩
def NewBal (c:zb7) (w:World) (e:Ending) (w':World):Prop:=∃p,e= .returned (.tuple #[.pointer (some ⟨p.bp,0,none⟩),.nilIface])∧zaR w' w.heap.size p c (newS c)∧Below w.heap.size w w'
theorem fresh_looks (l:List ByteArray):∀x∈fresh l,x.looks<10:=by
 intro x hx
 obtain ⟨s,_,rfl⟩:=List.mem_map.1 hx
 show 0<10
 omega
theorem zfl (l:List ByteArray):hosts (fresh l)=l:=by simp [hosts,fresh,Function.comp_def]
set_option maxRecDepth 100000 in
theorem balNew_ok (ea:Nat→Addr) (A:Option Addr) (cp:Nat) (c:zb7) (w:World) (hE:zbO ea w) (hT:zcr w A cp c.hosts) (hO:BOk c):
 Calls Tryz.prog 82 #[.slice A c.hosts.length cp,.int .i64 (c.size:Int),.int .i64 (c.time:Int),.int .i64 (c.fall:Int),.int .i64 (c.rise:Int)] w (NewBal c w):=by
 obtain ⟨ad,rfl⟩:∃ad,A=some ad:=by obtain ⟨ad,h,_⟩:=hT.r.2 hO.h0;exact ⟨ad,h⟩
 obtain ⟨hl12,hsz⟩:=zbN hO.hf
 have h0:=hO.h0
 have H1:=Lib.hid (new_ok ea (some ad) cp w.heap.size c.hosts c.fall c.rise w hE.t.e3 hT.r (Nat.le_refl _) hT.lc hT.lm hsz hO.hf hl12 hO.f1 hO.f2 hO.r1 hO.r2)
 have H2:Hid (∀W,Below w.heap.size w W→Calls Tryz.prog 73 #[.slice (some ad) c.hosts.length cp,.int .i64 (c.size:Int)] W (zdW c.hosts c.size W)):=Lib.hid fun W hW=>make_good ea _ cp c.hosts c.size W (hE.below hW).t (hT.below hW) hO.tf
 have H3:Hid (∀W,Calls Tryz.prog 133 #[.int .i64 (c.time:Int)] W (NewFlows c.time W)):=Lib.hid fun W=>newFlows_ok c.time W hO.t1 hO.t2
 have H4:Hid (∀W,Below w.heap.size w W→Calls Tryz.prog 83 #[.slice (some ad) c.hosts.length cp] W (zeP c.hosts W)):=Lib.hid fun W hW=>clone_any ad cp c.hosts W (hT.below hW).r (by omega)
 have HF:Hid (∀w1 w2 w3 w4 hp sv ps fp mb A' cap',zay w1 w.heap.size hp c.fall c.rise (Go.Proofs.YthkfhfldoniolaaGreatDoor.fresh c.hosts) sv ps→Below w.heap.size w w1→Below w1.heap.size w1 w2→zaD w3 fp mb c.time 0 []→w2.heap.size≤fp→w2.heap.size≤mb→Below w2.heap.size w2 w3→w4.ownsRow w3.heap.size 9 1 (.slice A' c.hosts.length cap') c.hosts.length (zak c.hosts)→Below w3.heap.size w3 w4→
  NewBal c w (.returned (.tuple #[.pointer (some ⟨w4.heap.size+1,0,none⟩),.nilIface])) ((w4.alloc (.map #[] 0)).alloc (.cells #[.pointer (some ⟨hp,0,none⟩),.slice A' c.hosts.length cap',.int .i64 (c.size:Int),.pointer (some ⟨fp,0,none⟩),.map (some w4.heap.size),.int .i64 0] 166))):=Lib.hid fun w1 w2 w3 w4 hp sv ps fp mb A' cap' hH hb1 hb2 hf hfp hmb hb3 hrow hb4=>by
  have b5:=(Below.refl w4.heap.size w4).alloc (Nat.le_refl _) (.map #[] 0)
  have b6:=(Below.refl (w4.alloc (.map #[] 0)).heap.size (w4.alloc (.map #[] 0))).alloc (Nat.le_refl _) (.cells #[.pointer (some ⟨hp,0,none⟩),.slice A' c.hosts.length cap',.int .i64 (c.size:Int),.pointer (some ⟨fp,0,none⟩),.map (some w4.heap.size),.int .i64 0] 166)
  have b46:=zaa b5 b6
  have s1:=hb1.size
  have s2:=hb2.size
  have s3:=hb3.size
  have s4:=hb4.size
  have e5:(w4.alloc (.map #[] 0)).heap.size=w4.heap.size+1:=by simp
  have hmb4:=hf.map.lt
  refine ⟨⟨w4.heap.size+1,hp,fp,mb,w4.heap.size,.slice A' c.hosts.length cap',sv,ps⟩,rfl,⟨?_,zcQ (own_below hrow b46) (by omega),(((hH.below hb2).below hb3).below hb4).below b46,(hf.below hb4).below b46,(DrIs.made w4).below b6, ?_,zfl _,fresh_looks _, ?_, ?_, ?_, ?_⟩,zaa (zaa (zaa (zaa hb1 hb2) hb3) hb4) b46⟩
  ·have:=Blk.new (w4.alloc (.map #[] 0)) 166 #[.pointer (some ⟨hp,0,none⟩),.slice A' c.hosts.length cap',.int .i64 (c.size:Int),.pointer (some ⟨fp,0,none⟩),.map (some w4.heap.size),.int .i64 0]
   rw [e5] at this
   exact this
  ·dsimp only;omega
  ·dsimp only;omega
  ·dsimp only;omega
  ·dsimp only;omega
  ·dsimp only;omega
 have hne:¬(c.hosts.length:Int)=0:=by omega
 unfold ptr at H1
 unfold zdW at H2
 unfold NewFlows at H3
 unfold zeP at H4
 have hmm:= @run_makeMap Tryz.prog
 clear hE hT hO
 go_enter Tryz.func82,Tryz.ntmps82
 go_wp2_with fail
 refine H1.out.mono ?_
 rintro e w1 ⟨hp,sv,ps,rfl,hH,hb1⟩
 have H2':=Lib.hid (H2.out w1 hb1)
 have HH:=Lib.hid hH
 have HB1:=Lib.hid hb1
 clear hH hb1 H1 H2
 go_wp2_with fail
 refine H2'.out.mono ?_
 rintro e w2 ⟨g,rfl,_,_,hb2⟩
 have HB2:=Lib.hid hb2
 clear hb2 H2'
 go_wp2_with fail
 refine (H3.out w2).mono ?_
 rintro e w3 ⟨fp,mb,rfl,hf,hfp,hmb,hb3⟩
 have HFl:=Lib.hid hf
 have HFp:=Lib.hid hfp
 have HMb:=Lib.hid hmb
 have HB3:=Lib.hid hb3
 have H4':=Lib.hid (H4.out w3 (zaa (zaa HB1.out HB2.out) hb3))
 clear hf hfp hmb hb3 H3 H4
 go_wp2_with fail
 refine H4'.out.mono ?_
 rintro e w4 ⟨A',cap',rfl,hrow,hb4⟩
 have HG:=Lib.hid (HF.out w1 w2 w3 w4 hp sv ps fp mb A' cap' HH.out HB1.out HB2.out HFl.out HFp.out HMb.out HB3.out hrow hb4)
 clear hrow hb4 HF H4'
 go_wp2
 go_ret2
 exact HG.out
def DrainPost (ea:Nat→Addr) (lo:Nat) (p:BPl) (c:zb7) (s:BS) (x:ByteArray) (v:Bool) (w:World) (e:Ending) (w':World):Prop:=
 (x∈c.hosts∧e= .returned .nilIface∧zaR w' lo p c { s with dr:=fun y=>if y=x then v else s.dr y,nd:=s.nd+1 }∧zam [p.db] w w')∨(x∉c.hosts∧e= .returned (errB ea 5)∧zaR w' lo p c s∧Below w.heap.size w w')
set_option maxRecDepth 100000 in
theorem drain_any (ea:Nat→Addr) {lo:Nat} {p:BPl} {c:zb7} {s:BS} (x:ByteArray) (v:Bool) (w:World) (hE:zbO ea w) (h:zaR w lo p c s) (hx:x.size≤maxLen) (hn:s.nd<1000000):
 Calls Tryz.prog 100 #[.pointer (some ⟨p.bp,0,none⟩),.string x,.bool v] w (DrainPost ea lo p c s x v w):=by
 obtain ⟨A,cap,hv,hr,hcap,hm⟩:=zai h.row
 have c1:w.cell? ⟨p.bp,1,none⟩=some (.slice A c.hosts.length cap):=by rw [←hv];exact h.blk.cell 1
 have c4:w.cell? ⟨p.bp,4,none⟩=some (.map (some p.db)):=h.blk.cell 4
 have HC:=Lib.hid (zef A cap w.heap.size c.hosts x w hr hm)
 have e5:=hE.t.c5
 dsimp only [gv] at e5
 unfold DrainPost
 by_cases hmem:x∈c.hosts
 ·have hH:has c.hosts x=true:=zbw.2 hmem
  rw [hH] at HC
  obtain ⟨w',hrun,hd',hg⟩:=h.d.put v hx (by unfold maxLen;omega)
  have HP:Hid (zaR w' lo p c { s with dr:=fun y=>if y=x then v else s.dr y,nd:=s.nd+1 }∧zam [p.db] w w'):=Lib.hid (by
   have ht:zam [p.db] w w':=zam.zaE hg fun j hj=>by cases hj;simp
   exact ⟨h.turnD hd' ht,ht⟩)
  have HM:=Lib.hid hmem
  clear h hE hd' hg hH hmem hr hv
  go_enter Tryz.func100,Tryz.ntmps100
  go_wp2_with fail
  refine HC.out.mono ?_
  rintro e w1 ⟨rfl,rfl⟩
  go_wp2
  go_ret
  exact .inl ⟨HM.out,rfl,HP.out.1,HP.out.2⟩
 ·have hH:has c.hosts x=false:=by
   cases hb:has c.hosts x with
   |false=>rfl
   |true=>exact absurd (zbw.1 hb) hmem
  rw [hH] at HC
  have HP:Hid (zaR w lo p c s):=Lib.hid h
  have HM:=Lib.hid hmem
  clear h hE hH hmem hr hv
  go_enter Tryz.func100,Tryz.ntmps100
  go_wp2_with fail
  refine HC.out.mono ?_
  rintro e w1 ⟨rfl,rfl⟩
  go_wp2
  go_ret
  exact .inr ⟨HM.out,rfl,HP.out,Below.refl _ _⟩
theorem flowsB_any {lo:Nat} {p:BPl} {c:zb7} {s:BS} (w:World) (h:zaR w lo p c s):Calls Tryz.prog 105 #[.pointer (some ⟨p.bp,0,none⟩)] w (zd2 s.fs.2 w):=by
 have HL:=Lib.hid (list_any w h.f)
 have c3:w.cell? ⟨p.bp,3,none⟩=some (.pointer (some ⟨p.fp,0,none⟩)):=h.blk.cell 3
 unfold zd2 at HL ⊢
 generalize s.fs.2=L at*
 clear h
 go_enter Tryz.func105,Tryz.ntmps105
 go_wp2_with fail
 refine HL.out.mono ?_
 rintro e w1 ⟨v,rfl,ho,hb⟩
 have HO:=Lib.hid ho
 have HB:=Lib.hid hb
 clear ho hb
 go_wp2
 go_ret
 exact ⟨v,rfl,HO.out,HB.out⟩
end Go.Proofs.YthkfhfldoniolaaGreatDoor
namespace Go.Proofs.YthkfhfldoniolaaGreatDoor
open Go.RowKit
theorem putF_lowB {L:List Fl} {x:Fl} (hl:L.length<200):zeg L x=insF x (zed x.key L):=by
 have e:zct L x.key=L:=by unfold zct;rw [if_pos (.inr hl)]
 unfold zeg
 rw [e]
theorem rise_put {L:List Fl} (hr:zde L) (x:Fl):zde (zeg L x):=by
 unfold zeg
 exact (roomF_rise hr _).put
theorem put_mem {L:List Fl} {x y:Fl} (hl:L.length<200):y∈zeg L x↔y=x∨(y∈L∧y.key≠x.key):=by
 rw [putF_lowB hl,mem_insF]
 constructor
 ·rintro (h|h)
  ·exact .inl h
  ·exact .inr ⟨zeL h,delF_key h⟩
 ·rintro (h|⟨h1,h2⟩)
  ·exact .inl h
  ·exact .inr (List.mem_filter.2 ⟨h1,by simpa using h2⟩)
theorem put_len {L:List Fl} {x:Fl} (hl:L.length<200):(zeg L x).length≤L.length+1:=by
 rw [putF_lowB hl,zfh]
 have:=List.length_filter_le (fun y=> !decide (y.key=x.key)) L
 show (List.filter (fun y=> !decide (y.key=x.key)) L).length+1≤_
 omega
theorem tick_zero {l n:Nat} (h1:l≤n) (h2:n≤1099511627776):zbL l (n:Int)=0:=by
 unfold zbL
 rw [if_neg (by omega),if_neg (by omega)]
theorem pickS_step {c:zb7} {s:BS} {k n:Nat} (h1:s.fs.1≤n) (h2:n≤1099511627776) (ho:zaj s≠[]) (htf:zah (zaj s) (c.size:Int)=none) (h0:0<c.size):
 ∃(h:ByteArray) (kept:Bool),zbz c s k n=((h,kept,0),{ s with fs:=(n,zeg s.fs.2 ⟨k,h,(n:Int)+c.time⟩) })∧
  ((kept=true∧∃y,findF s.fs.2 k=some y∧(n:Int)<y.til∧y.host=h∧ze0 s.st h=true)∨(kept=false∧h∈zaj s∧∀y,findF s.fs.2 k=some y→¬((n:Int)<y.til∧ze0 s.st y.host=true))):=by
 unfold zbz
 rw [if_pos (tick_zero h1 h2),Int.toNat_natCast]
 cases hk:zee s k n with
 |some x=>
  refine ⟨x,true,rfl,.inl ⟨rfl, ?_⟩⟩
  unfold zee at hk
  cases hg:ze1 s.fs.2 k n with
  |none=>rw [hg] at hk;cases hk
  |some z=>
   rw [hg] at hk
   dsimp only at hk
   split at hk
   ·obtain rfl:=Option.some.inj hk
    unfold ze1 at hg
    cases hf:findF s.fs.2 k with
    |none=>rw [hf] at hg;cases hg
    |some y=>
     rw [hf] at hg
     dsimp only at hg
     split at hg
     ·cases hg
     ·obtain rfl:=Option.some.inj hg
      exact ⟨y,rfl,by omega,rfl,‹_›⟩
   ·cases hk
 |none=>
  dsimp only
  rw [if_neg ho]
  refine ⟨_,false,rfl,.inr ⟨rfl,zeO ho htf (Nat.mod_lt _ h0),fun y hf hy=> ?_⟩⟩
  unfold zee ze1 at hk
  rw [hf] at hk
  dsimp only at hk
  rw [if_neg (by omega)] at hk
  dsimp only at hk
  rw [if_pos hy.2] at hk
  cases hk
structure PInv (keys:List Nat) (was:List ByteArray) (Q:Nat→Prop) (n cnt:Nat) (s:BS):Prop where
 rise:zde s.fs.2
 len:s.fs.2.length≤cnt
 last:s.fs.1≤n
 up:∀y∈s.fs.2,ze0 s.st y.host=true∧20≤y.til
 old:∀(j k:Nat) (x:ByteArray),keys[j]? =some k→was[j]? =some x→Q j→∃y,findF s.fs.2 k=some y∧y.host=x
theorem upOf_fresh {l:List ByteArray} {x:ByteArray} (hx:x∈l):ze0 (fresh l) x=true:=by
 obtain ⟨j,hj,hi,_⟩:=zc4 hx
 unfold ze0
 rw [zfl,hi]
 have:(fresh l)[j]? =some ⟨l[j],true,0⟩:=by simp [fresh,List.getElem?_eq_getElem hj]
 show (match (fresh l)[j]? with|some s=>s.up|none=>false)=true
 rw [this]
theorem ups_fresh (l:List ByteArray):ups (fresh l)=l:=by
 unfold ups fresh
 rw [List.filter_eq_self.2 (by intro a ha;obtain ⟨s,_,rfl⟩:=List.mem_map.1 ha;rfl)]
 simp [Function.comp_def]
theorem openOf_new (c:zb7):zaj (newS c)=c.hosts:=by
 unfold zaj newS
 dsimp only
 rw [ups_fresh]
 simp
end Go.Proofs.YthkfhfldoniolaaGreatDoor
namespace Go.Proofs.YthkfhfldoniolaaGreatDoor
open Go.RowKit
def BPl.all (p:BPl):List Nat:=p.bp::p.hp::p.fp::p.mb::p.db::(p.ps++(p.hv.ownBlock.toList++p.sv.ownBlock.toList))
section
variable {ea:Nat→Addr} {w W W':World} {lo hi:Nat} {p:BPl} {c:zb7} {s s':BS} {bs:List Nat}
theorem zaR.lt (h:zaR W lo p c s):∀b∈p.all,b<W.heap.size:=by
 intro b hb
 unfold BPl.all at hb
 simp only [List.mem_cons,List.mem_append,Option.mem_toList] at hb
 rcases hb with rfl|rfl|rfl|rfl|rfl|hb|hb|hb
 ·exact h.blk.lt
 ·exact h.h.blk.lt
 ·exact h.f.blk.lt
 ·exact h.f.map.lt
 ·exact h.d.lt
 ·exact h.h.lt b hb
 ·exact (h.row.lt b hb).2
 ·exact (h.h.own.lt b hb).2
theorem zaR.away (h:zaR W lo p c s) (ht:zam bs W W') (hd:∀b∈p.all,b∉bs):zaR W' lo p c s:=by
 unfold BPl.all at hd
 simp only [List.mem_cons,List.mem_append,Option.mem_toList] at hd
 exact ⟨ht.blk h.blk (hd _ (.inl rfl)),ht.own h.row fun g hg=>hd g (.inr (.inr (.inr (.inr (.inr (.inr (.inl hg))))))),h.h.turn ht (hd _ (.inr (.inl rfl))) (fun q hq=>hd q (.inr (.inr (.inr (.inr (.inr (.inl hq))))))) (fun g hg=>hd g (.inr (.inr (.inr (.inr (.inr (.inr (.inr hg)))))))),h.f.turn ht (hd _ (.inr (.inr (.inl rfl)))) (hd _ (.inr (.inr (.inr (.inl rfl))))),h.d.turn ht (hd _ (.inr (.inr (.inr (.inr (.inl rfl)))))),h.ne,h.same,h.lk,h.ab⟩
structure BNow (ea:Nat→Addr) (w W:World) (lo hi:Nat) (p:BPl) (c:zb7) (s:BS):Prop where
 b:zaR W lo p c s
 le:w.heap.size≤lo
 hi:∀b∈p.all,b<hi
 w:Below w.heap.size w W
 e:zbO ea W
theorem BNow.below (h:BNow ea w W lo hi p c s) (hb:Below W.heap.size W W'):BNow ea w W' lo hi p c s:=⟨h.b.below hb,h.le,h.hi,zaa h.w hb,h.e.below hb⟩
theorem BNow.turn (h:BNow ea w W lo hi p c s) (hB:zaR W' lo p c s') (ht:zam bs W W') (hs:∀b∈bs,b∈p.bs):BNow ea w W' lo hi p c s':=
 ⟨hB,h.le,h.hi,h.w.trans (ht.below h.w.size fun b hb=>Nat.le_trans h.le (h.b.bsLo b (hs b hb))),h.e.turn h.b ht hs⟩
def NewAs (ea:Nat→Addr) (w:World) (c:zb7) (W:World) (e:Ending) (w':World):Prop:=∃p,e= .returned (.tuple #[.pointer (some ⟨p.bp,0,none⟩),.nilIface])∧BNow ea w w' W.heap.size w'.heap.size p c (newS c)∧Below W.heap.size W w'
theorem bn_new {A:Option Addr} {cp:Nat} (hE:zbO ea W) (hw:Below w.heap.size w W) (hT:zcr W A cp c.hosts) (hO:BOk c):
 Calls Tryz.prog 82 #[.slice A c.hosts.length cp,.int .i64 (c.size:Int),.int .i64 (c.time:Int),.int .i64 (c.fall:Int),.int .i64 (c.rise:Int)] W (NewAs ea w c W):=
 (balNew_ok ea A cp c W hE hT hO).mono fun _ _ ⟨p,a,b,d⟩=>⟨p,a,⟨b,hw.size,b.lt,zaa hw d,hE.below d⟩,d⟩
end
end Go.Proofs.YthkfhfldoniolaaGreatDoor
namespace Go.Proofs.YthkfhfldoniolaaGreatDoor
open Go.RowKit
def zbb (c:zb7) (s:BS) (x:ByteArray) (well:Bool):List St×Bool:=zbC s.st (idx (hosts s.st) x) fun q=>zbu c.fall c.rise q well
def zcl (c:zb7) (s:BS) (x:ByteArray) (well:Bool):(Bool×Nat)×BS:=
 (((zbb c s x well).2,zb5 (hosts s.st) x),if (zbb c s x well).2=true∧well=false then { s with st:=(zbb c s x well).1,fs:=(dropS s.fs x).2 } else { s with st:=(zbb c s x well).1 })
theorem lookSt_lk {fall rise:Nat} {q:St} {well:Bool} (h1:fall≤10) (h2:rise≤10) (hq:q.looks<10):(zbu fall rise q well).1.looks<10:=by
 unfold zbu
 split
 ·show 0<10;omega
 ·split
  ·split
   ·show q.looks+1<10;omega
   ·show 0<10;omega
  ·split
   ·show q.looks+1<10;omega
   ·show 0<10;omega
theorem zff {fall rise:Nat} {q:St} {well:Bool}:(zbu fall rise q well).1.host=q.host:=by
 unfold zbu
 split
 ·rfl
 ·split
  ·split<;>rfl
  ·split<;>rfl
theorem zdZ {st:List St} {k:Nat} {q q':St} (hq:st[k]? =some q) (hh:q'.host=q.host):hosts (st.set k q')=hosts st:=by
 unfold hosts
 rw [List.map_set,hh]
 have hk:k<st.length:=(List.getElem?_eq_some_iff.1 hq).1
 have:(st.map (·.host))[k]? =some q.host:=by rw [List.getElem?_map,hq];rfl
 apply List.ext_getElem?
 intro i
 rw [List.getElem?_set]
 split
 ·rename_i hi
  subst hi
  rw [this,if_pos (by simpa using hk)]
 ·rfl
theorem lookR1_facts {c:zb7} {s:BS} {x:ByteArray} {well:Bool} (h1:c.fall≤10) (h2:c.rise≤10) (hl:∀q∈s.st,q.looks<10):hosts (zbb c s x well).1=hosts s.st∧∀q∈(zbb c s x well).1,q.looks<10:=by
 unfold zbb zbC
 split
 ·exact ⟨rfl,hl⟩
 ·split
  ·rename_i q hq
   refine ⟨zdZ hq zff,fun r hr=> ?_⟩
   rcases List.mem_or_eq_of_mem_set hr with hr|rfl
   ·exact hl r hr
   ·exact lookSt_lk h1 h2 (hl q (List.mem_of_getElem? hq))
  ·exact ⟨rfl,hl⟩
section
variable {ea:Nat→Addr} {w W W':World} {lo hi:Nat} {p:BPl} {c:zb7} {s s':BS}
theorem zaR.turnH {st':List St} (h:zaR w lo p c s) (hh:zay W' lo p.hp c.fall c.rise st' p.sv p.ps) (ht:zam p.ps w W') (hs:hosts st'=hosts s.st) (hl:∀x∈st',x.looks<10):zaR W' lo p c { s with st:=st' }:=by
 obtain ⟨es,cl,hm⟩:=h.f.map.heap
 obtain ⟨es2,cl2,hd⟩:=h.d.heap
 have hn:∀{g t cs},Blk w g t cs→t≠225→g∉p.ps:=fun {g t cs} hb hne hg=>by
  obtain ⟨x,hx⟩:=h.pbs hg
  exact hb.ne_ hx hne rfl
 have hnm:∀{g es cl},w.heap[g]? =some (.map es cl)→g∉p.ps:=fun {g es cl} hm hg=>by
  obtain ⟨x,hx⟩:=h.pbs hg
  exact zaV hm hx rfl
 refine ⟨ht.blk h.blk (hn h.blk (by decide)),ht.own h.row fun g hg hgp=> ?_,hh,h.f.turn ht (hn h.f.blk (by decide)) (hnm hm),h.d.turn ht (hnm hd),h.ne,hs.trans h.same,hl,h.ab⟩
 obtain ⟨x,hx⟩:=h.pbs hgp
 exact zbe h.row hx (by decide) hg
def LookAs (ea:Nat→Addr) (w:World) (lo hi:Nat) (p:BPl) (c:zb7) (r:(Bool×Nat)×BS) (W:World) (e:Ending) (w':World):Prop:=
 e= .returned (.tuple #[.bool r.1.1,errZ ea r.1.2])∧BNow ea w w' lo hi p c r.2∧zam p.bs W w'
set_option maxRecDepth 100000 in
theorem bn_look (x:ByteArray) (well:Bool) (h:BNow ea w W lo hi p c s) (hO:BOk c):
 Calls Tryz.prog 98 #[.pointer (some ⟨p.bp,0,none⟩),.string x,.bool well] W (LookAs ea w lo hi p c (zcl c s x well) W):=by
 have hlk:=h.b.lk
 obtain ⟨hf1,hf2⟩:=lookR1_facts (c:=c) (s:=s) (x:=x) (well:=well) hO.f2 hO.r2 hlk
 have HL:=Lib.hid (look_op ea x well W h.b.h h.e.t.c5 (fun q hq=>Nat.lt_of_lt_of_le (hlk q hq) (by omega)))
 have hps:∀b∈p.ps,b∈p.bs:=fun b hb=>by unfold BPl.bs;simp [hb]
 have hL1:Hid (Calls Tryz.prog 152 #[.pointer (some ⟨p.hp,0,none⟩),.string x,.bool well] W fun e w'=>e= .returned (.tuple #[.bool (zbb c s x well).2,errZ ea (zb5 (hosts s.st) x)])∧BNow ea w w' lo hi p c { s with st:=(zbb c s x well).1 }∧zam p.bs W w'):=Lib.hid (HL.out.mono fun e w' ⟨a,b,t⟩=>by
  refine ⟨?_,h.turn (h.b.turnH b t hf1 hf2) t hps,t.more hps⟩
  rw [a]
  unfold errZ errB zb5
  split<;>rfl)
 have hD1:Hid (∀w1,BNow ea w w1 lo hi p c { s with st:=(zbb c s x well).1 }→zam p.bs W w1→Calls Tryz.prog 153 #[.pointer (some ⟨p.fp,0,none⟩),.string x] w1 fun e w'=>∃n:Nat,e= .returned (.int .i64 (n:Int))∧BNow ea w w' lo hi p c { s with st:=(zbb c s x well).1,fs:=(dropS s.fs x).2 }∧zam p.bs W w'):=Lib.hid fun w1 h1 t1=>by
  refine (drop_all (s:=s.fs) x h1.b.f).mono fun e w' ⟨a,b,t⟩=>⟨_,a,h1.turn (h1.b.turnF b t) t p.fm,t1.then (t.more p.fm)⟩
 have c0:W.cell? ⟨p.bp,0,none⟩=some (.pointer (some ⟨p.hp,0,none⟩)):=h.b.blk.cell 0
 have HP:Hid (∀e w',(e= .returned (.tuple #[.bool (zbb c s x well).2,errZ ea (zb5 (hosts s.st) x)])∧BNow ea w w' lo hi p c (if (zbb c s x well).2=true∧well=false then { s with st:=(zbb c s x well).1,fs:=(dropS s.fs x).2 } else { s with st:=(zbb c s x well).1 })∧zam p.bs W w')→LookAs ea w lo hi p c (zcl c s x well) W e w'):=Lib.hid fun e w' hh=>hh
 generalize hLB:zcl c s x well=LB at*
 clear hLB
 generalize zbb c s x well=r at*
 generalize errZ ea (zb5 (hosts s.st) x)=ev at*
 obtain ⟨st',tb⟩:=r
 dsimp only at hL1 hD1 HP
 clear HL h hf1 hf2 hlk hps
 cases tb<;>cases well
 case true.false=>
  go_enter Tryz.func98,Tryz.ntmps98
  go_wp2_with fail
  refine hL1.out.mono ?_
  rintro e w1 ⟨rfl,hB1,ht1⟩
  have c3:w1.cell? ⟨p.bp,3,none⟩=some (.pointer (some ⟨p.fp,0,none⟩)):=hB1.b.blk.cell 3
  have HD2:=Lib.hid (hD1.out w1 hB1 ht1)
  clear hB1 ht1 hL1 hD1
  go_wp2_with fail
  refine HD2.out.mono ?_
  rintro e w2 ⟨n,rfl,hB2,ht2⟩
  have HF:=Lib.hid (HP.out _ _ ⟨rfl,by rw [if_pos (by simp)];exact hB2,ht2⟩)
  clear hB2 ht2 HP
  go_wp2
  go_ret2
  exact HF.out
 all_goals
  go_enter Tryz.func98,Tryz.ntmps98
  go_wp2_with fail
  refine hL1.out.mono ?_
  rintro e w1 ⟨rfl,hB1,ht1⟩
  have HF:=Lib.hid (HP.out _ _ ⟨rfl,by rw [if_neg (by simp)];exact hB1,ht1⟩)
  clear hB1 ht1 hL1 hD1 HP
  go_wp2
  go_ret2
  exact HF.out
end
end Go.Proofs.YthkfhfldoniolaaGreatDoor
namespace Go.Proofs.YthkfhfldoniolaaGreatDoor
open Go.RowKit
theorem errsB_of {ea:Nat→Addr} {w:World} {gs:List Nat} (h:ErrsAt w ea gs) (h2:gv 2∈gs) (h3:gv 3∈gs) (h4:gv 4∈gs) (h5:gv 5∈gs) (h6:gv 6∈gs) (h8:gv 8∈gs):zbO ea w:=
 ⟨⟨⟨(h.at_ _ h2).1,(h.at_ _ h4).1,(h.at_ _ h6).1⟩,⟨(h.at_ _ h2).1,(h.at_ _ h3).1⟩,(h.at_ _ h5).1⟩,⟨(h.at_ _ h2).1,(h.at_ _ h4).1,(h.at_ _ h8).1⟩⟩
def sA:ByteArray:=⟨#[97]⟩
def sB:ByteArray:=⟨#[98]⟩
def sC:ByteArray:=⟨#[99]⟩
def sD:ByteArray:=⟨#[100]⟩
def c4:zb7:=⟨[sA,sB,sC,sD],31,20,1,1⟩
theorem size_ok {l:List ByteArray} {n:Nat} (hf:zaf l=none) (h0:0<l.length) (hs:zar (n:Int)=none):zah l (n:Int)=none:=by
 unfold zah
 rw [if_neg (by omega),hf]
 exact hs
theorem size_prime {n:Nat} (h1:2≤n) (h2:n≤503) (hd:zdV n):zar (n:Int)=none:=by
 unfold zar
 rw [if_neg (by omega),if_pos (by simpa using hd)]
theorem txIn_lit {w:World} {l:List ByteArray} (hl:l.length≤12) (hs:∀s∈l,s.size≤maxLen):zcr (w.alloc (.cells (zak l).toArray 9)) (some ⟨w.heap.size,0,none⟩) l.length l:=by
 refine ⟨?_,Nat.le_refl _,by unfold maxLen;omega,hs⟩
 have:=zbq (Blk.new w 9 (zak l).toArray)
 simpa [zak] using this
end Go.Proofs.YthkfhfldoniolaaGreatDoor
