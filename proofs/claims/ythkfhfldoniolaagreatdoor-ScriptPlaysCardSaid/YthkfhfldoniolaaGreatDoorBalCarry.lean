/-
  A balance's Export. A row of flows that is written in place. slices.DeleteFunc at flows with Import's closure: those whose host is not up go. A balance's Import. Two balances in a law's walk. What is added to nothing, in plain words.
-/
import Derived.Test.YthkfhfldoniolaaGreatDoorBalNow
import Derived.Test.YthkfhfldoniolaaGreatDoorCarText
import Derived.Test.YthkfhfldoniolaaGreatDoorFlows
import Derived.Test.YthkfhfldoniolaaGreatDoorFlowPlain
import Derived.Test.YthkfhfldoniolaaGreatDoorTexts
import Derived.Test.YthkfhfldoniolaaGreatDoorBaseA
import Derived.Lib.SliceRun
import Derived.Laws.IdiomCopy
import Derived.Test.YthkfhfldoniolaaGreatDoorPick
import Derived.Test.YthkfhfldoniolaaGreatDoorHealthOps
import Derived.Test.YthkfhfldoniolaaGreatDoorCarReads
import Derived.Test.YthkfhfldoniolaaGreatDoorAddOk
import Derived.Test.YthkfhfldoniolaaGreatDoorCarLaws
set_option maxHeartbeats 2000000
namespace Go.Proofs.YthkfhfldoniolaaGreatDoor
open Go.RowKit
section
variable {w w' W:World} {lo hi:Nat} {p:BPl} {c:zb7} {s:BS} {ea:Nat→Addr}
theorem zaR.turnE (h:zaR w lo p c s) (e:Nat):zaR (w.setCell ⟨p.bp,5,none⟩ (.int .i64 (e:Int))) lo p c { s with epoch:=e }∧zam [p.bp] w (w.setCell ⟨p.bp,5,none⟩ (.int .i64 (e:Int))):=by
 have ht:zam [p.bp] w (w.setCell ⟨p.bp,5,none⟩ (.int .i64 (e:Int))):=(zam.refl _ w).setCell (p:=⟨p.bp,5,none⟩) (.inl (by simp)) _
 obtain ⟨es,cl,hm⟩:=h.f.map.heap
 obtain ⟨es2,cl2,hd⟩:=h.d.heap
 have n1:=h.h.blk.ne_ h.blk (by decide)
 have n2:=h.f.blk.ne_ h.blk (by decide)
 have n3:=fun e=>zaV hm h.blk (Eq.symm e)
 have n4:=fun e=>zaV hd h.blk (Eq.symm e)
 refine ⟨⟨h.blk.zbk 5 _,ht.own h.row fun g hg=> ?_,h.h.turn ht (by simpa using n1) (fun q hq=> ?_) (fun g hg=> ?_),h.f.turn ht (by simpa using n2) (by simpa using n3),h.d.turn ht (by simpa using n4),h.ne,h.same,h.lk,h.ab⟩,ht⟩
 ·simp only [List.mem_singleton]
  rintro rfl
  exact zbe h.row h.blk (by decide) hg
 ·obtain ⟨x,hx⟩:=h.pbs hq
  simpa using hx.ne_ h.blk (by decide)
 ·simp only [List.mem_singleton]
  rintro rfl
  exact zbe h.h.own h.blk (by decide) hg
theorem BPl.be (p:BPl):∀b∈[p.bp],b∈p.bs:=by
 intro b hb
 rw [List.mem_singleton] at hb
 subst hb
 simp [BPl.bs]
def ExpAs (t:List UInt8) (ea:Nat→Addr) (w:World) (lo hi:Nat) (p:BPl) (c:zb7) (s':BS) (W:World) (e:Ending) (w':World):Prop:=
 e= .returned (.tuple #[.string ⟨t.toArray⟩,.nilIface])∧BNow ea w w' lo hi p c s'∧zam [p.bp] W w'
set_option maxRecDepth 100000 in
theorem bn_export (h:BNow ea w W lo hi p c s) (hW:zdz w) (hK:zcp ea w) (hz:∀x∈s.fs.2,x.host.size≤maxLen) (he:s.epoch≤1000000) (hc:zbJ ((s.epoch:Int)+1) s.fs.2=none):
 Calls Tryz.prog 108 #[.pointer (some ⟨p.bp,0,none⟩)] W (ExpAs (textOf ((s.epoch:Int)+1) s.fs.2) ea w lo hi p c { s with epoch:=s.epoch+1 } W):=by
 have HKC:Hid (∀W',Below W.heap.size W W'→W'.cell? ⟨p.bp,5,none⟩=some (.int .i64 (s.epoch:Int))∧W'.cell? ⟨p.bp,3,none⟩=some (.pointer (some ⟨p.fp,0,none⟩))):=Lib.hid fun W' hb=>⟨(h.below hb).b.blk.cell 5,(h.below hb).b.blk.cell 3⟩
 obtain ⟨c5,c3⟩:=HKC.out W (Below.refl _ _)
 have HL:=Lib.hid (fun W' (hb:Below W.heap.size W W')=>list_any W' (h.below hb).b.f)
 have HT:Hid (∀W' A cap,Below W.heap.size W W'→Reads W' W'.heap.size 3 A s.fs.2.length (zbr s.fs.2)→Calls Tryz.prog 157 #[.int .i64 ((s.epoch:Int)+1),.slice A s.fs.2.length cap] W' fun e w'=>e= .returned (.tuple #[.string ⟨(textOf ((s.epoch:Int)+1) s.fs.2).toArray⟩,.nilIface])∧Below W'.heap.size W' w'):=Lib.hid fun W' A cap hb hr=>by
  have:=text_any ea ((s.epoch:Int)+1) A cap W'.heap.size s.fs.2 W' (hW.below (zaa h.w hb)) (hK.below (zaa h.w hb)) hr (Nat.le_refl _) hz (fun x hx=>h.b.f.map.u64 x hx)
  unfold TxPost at this
  rw [hc] at this
  exact this
 have HE:Hid (∀W',Below W.heap.size W W'→(BNow ea w (W'.setCell ⟨p.bp,5,none⟩ (.int .i64 ((s.epoch:Int)+1))) lo hi p c { s with epoch:=s.epoch+1 }∧zam [p.bp] W (W'.setCell ⟨p.bp,5,none⟩ (.int .i64 ((s.epoch:Int)+1))))∧W'.cell? ⟨p.bp,5,none⟩=some (.int .i64 (s.epoch:Int))∧W'.frozen? ⟨p.bp,5,none⟩=false):=Lib.hid fun W' hb=>by
  have hB:=h.below hb
  obtain ⟨t1,t2⟩:=hB.b.turnE (s.epoch+1)
  rw [Int.natCast_add,Int.natCast_one] at t1 t2
  exact ⟨⟨hB.turn t1 t2 p.be,(zam.of_below hb:zam [p.bp] W W').then t2⟩,hB.b.blk.cell 5,hB.b.blk.frozen 5⟩
 have he2:(s.epoch:Int)≤1000000:=by omega
 have hRef:=Below.refl W.heap.size W
 unfold zd2 at HL
 have hws:IntKind.i64.wrap ((s.epoch:Int)+1)=(s.epoch:Int)+1:=IntWalk.i64_in _ (by omega)
 clear h hW hK hz hc he
 generalize s.epoch=ep at*
 generalize textOf ((s.epoch:Int)+1) s.fs.2=t at*
 generalize s.fs.2=L at*
 go_enter Tryz.func108,Tryz.ntmps108
 go_wp2_with fail
 go_region_held3 (fun w'=>w'.cell? ⟨p.bp,5,none⟩=some (.int .i64 (ep:Int))∧w'.cell? ⟨p.bp,3,none⟩=some (.pointer (some ⟨p.fp,0,none⟩))) (first|exact ⟨c5,c3⟩|exact HKC.out _ (zad hRef)|exact HKC.out _ hb1|exact HKC.out _ hb2|go_keep) (first
  |(go_at_call 155
    refine (HL.out _ (zad hRef)).mono ?_
    rintro e w1 ⟨v,rfl,ho1,hb1'⟩
    obtain ⟨A,cap,rfl,hr1,_,_⟩:=zai ho1
    have hb1:=zaa (zad hRef) hb1')
  |(go_at_call 157
    refine (HT.out _ A cap hb1 hr1).mono ?_
    rintro e w2 ⟨rfl,hb2'⟩
    have hb2:=zaa hb1 hb2'))
 all_goals
  obtain ⟨hP,d5,f5⟩:=HE.out _ hb2
  have HPost:=Lib.hid hP
  clear hP
  go_wp2_with fail
  go_ret2
  exact ⟨rfl,HPost.out.1,HPost.out.2⟩
end
end Go.Proofs.YthkfhfldoniolaaGreatDoor
namespace Go.Proofs.YthkfhfldoniolaaGreatDoor
open Go.RowKit
section
variable {w:World} {B g n cap size:Nat} {e:TypeId} {xs:List Value}
end
section
variable {w:World} {B g n cap:Nat} {e:TypeId} {L:List Fl}
end
structure KeptFl (p:Fl→Bool) (xs:List Fl) (i j:Nat) (M:List Fl):Prop where
 len:M.length=xs.length
 lt:i≤j
 le:j≤xs.length
 kept:M.take i=(xs.take j).filter p
 rest:M.drop j=xs.drop j
section
variable {p:Fl→Bool} {xs M:List Fl} {i j:Nat}
end
end Go.Proofs.YthkfhfldoniolaaGreatDoor
namespace Go.Proofs.YthkfhfldoniolaaGreatDoor
open Go.RowKit
end Go.Proofs.YthkfhfldoniolaaGreatDoor
namespace Go.Proofs.YthkfhfldoniolaaGreatDoor
open Go.RowKit
section
variable {w w' W:World} {lo hi:Nat} {p:BPl} {c:zb7} {s:BS} {ea:Nat→Addr}
end
end Go.Proofs.YthkfhfldoniolaaGreatDoor
namespace Go.Proofs.YthkfhfldoniolaaGreatDoor
open Go.RowKit
section
variable {ea:Nat→Addr} {w W W':World} {lo hi lo2 hi2:Nat} {p q:BPl} {c c2:zb7} {s s' s2:BS} {bs:List Nat}
theorem zaR.allLo (h:zaR W lo p c s):∀b∈p.all,lo≤b:=by
 intro b hb
 unfold BPl.all at hb
 simp only [List.mem_cons,List.mem_append,Option.mem_toList] at hb
 rcases hb with rfl|rfl|rfl|rfl|rfl|hb|hb|hb
 ·exact h.ab.1
 ·exact h.h.base.1
 ·exact h.ab.2.1
 ·exact h.ab.2.2.1
 ·exact h.ab.2.2.2
 ·exact h.h.base.2 b hb
 ·exact (h.row.lt b hb).1
 ·exact (h.h.own.lt b hb).1
theorem BNow.far (h:BNow ea w W lo hi p c s) (hE:zbO ea w) (ht:zam bs W W') (hs:∀b∈bs,w.heap.size≤b∧b∉p.all):BNow ea w W' lo hi p c s:=by
 have hb:Below w.heap.size w W':=h.w.trans (ht.below h.w.size fun b hb=>(hs b hb).1)
 exact ⟨h.b.away ht fun b hb hm=>(hs b hm).2 hb,h.le,h.hi,hb,hE.below hb⟩
end
theorem own_two {w:World} {B n cap size:Nat} {A:Option Addr} {e:TypeId} {xs:List Value} (h:w.ownsRow B e size (.slice A n cap) n xs):(A=none∧n=0∧cap=0)∨∃g,A=some ⟨g,0,none⟩:=by
 rcases h.2 with ⟨hv,_⟩|⟨g,c,cur,hv,_⟩
 ·injection hv with h1 h2 h3;exact .inl ⟨h1,h2,h3⟩
 ·injection hv with h1;exact .inr ⟨g,h1⟩
end Go.Proofs.YthkfhfldoniolaaGreatDoor
namespace Go.Proofs.YthkfhfldoniolaaGreatDoor
theorem ckGo_ok:∀(L:List Fl) (S:List Nat) (i:Nat),(∀x∈L,FlOk x)→zde L→(∀x∈L,x.key∉S)→ckGo S i L=none
 |[],_,_,_,_,_=>rfl
 |x::r,S,i,h,hr,hS=>by
  have hx:=h x List.mem_cons_self
  have hr1:=List.pairwise_cons.1 hr
  have h0:zfy S x=0:=by
   unfold zfy
   rw [if_neg (by rw [hx.1];decide),if_neg (by have:=hx.2.1;have:=hx.2.2;omega),if_neg (hS x List.mem_cons_self)]
  rw [ckGo,if_pos h0]
  refine ckGo_ok r (x.key::S) (i+1) (fun y hy=>h y (List.mem_cons_of_mem _ hy)) hr1.2 fun y hy hm=> ?_
  rcases List.mem_cons.1 hm with e|hm
  ·have:=hr1.1 y hy
   omega
  ·exact hS y (List.mem_cons_of_mem _ hy) hm
theorem checkOf_ok {e:Int} {L:List Fl} (h0:0≤e) (h1:e≤1099511627776) (hn:L.length≤200) (h:∀x∈L,FlOk x) (hr:zde L):zbJ e L=none:=by
 unfold zbJ
 rw [if_neg (by omega)]
 exact ckGo_ok L [] 0 h hr (fun _ _ hm=>by cases hm)
end Go.Proofs.YthkfhfldoniolaaGreatDoor
