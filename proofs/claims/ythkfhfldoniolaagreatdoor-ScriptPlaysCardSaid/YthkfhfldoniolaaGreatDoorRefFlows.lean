/-
  The reference's flows in memory; the walks of TickError, find, drop. The walk of the reference's lay. The reference's flows in plain words: where a key lies, the least, what is put. The walk of the reference's Put. The walks of the reference's Expire and Drop. The walk of the reference's Get; the errors of Expire.
-/
import Derived.Test.YthkfhfldoniolaaGreatDoorFlows
import Derived.Test.YthkfhfldoniolaaGreatDoorRefFault
import Derived.BigQuiet
set_option maxHeartbeats 4000000
namespace Go.Proofs.YthkfhfldoniolaaGreatDoor
open Go.RowKit
structure RFs (w:World) (B mp time last:Nat) (L:List Fl) (sv:Value):Prop where
 blk:Blk w mp 70 #[.int .i64 (time:Int),.int .i64 (last:Int),sv]
 row:w.ownsRow B 72 3 sv L.length (zbr L)
 len:L.length≤200
 base:B≤mp
def NotRow (w:World) (g:Nat):Prop:=∀cs fz,w.heap[g]?≠some (.cells cs 72 fz)
section
variable {w w':World} {B mp time last:Nat} {L:List Fl} {sv:Value}
theorem RFs.turn {bs:List Nat} (h:RFs w B mp time last L sv) (ht:zam bs w w') (h1:mp∉bs) (h2:∀g∈bs,NotRow w g):RFs w' B mp time last L sv:=
 ⟨ht.blk h.blk h1,ht.own h.row (fun g hg hm=>by
   rcases h.row.2 with ⟨rfl,_⟩|⟨g',cap,cur,rfl,_,hh,_⟩
   ·simp [Value.ownBlock] at hg
   ·have:g'=g:=by simpa [Value.ownBlock] using hg
    subst this
    exact h2 g' hm _ _ hh),h.len,h.base⟩
theorem RFs.below (h:RFs w B mp time last L sv) (hb:Below w.heap.size w w'):RFs w' B mp time last L sv:=h.turn (zam.of_below (bs:=[]) hb) (by simp) (by simp)
theorem RFs.form (h:RFs w B mp time last L sv):∃A cap,sv= .slice A L.length cap∧Reads w w.heap.size 3 A L.length (zbr L)∧L.length≤cap:=by
 obtain ⟨A,cap,hv,hr,hc,_⟩:=zai h.row
 exact ⟨A,cap,hv,hr,hc⟩
end
theorem ref_tick {B mp time last:Nat} {L:List Fl} {sv:Value} (now:Int) (w:World) (h:RFs w B mp time last L sv):Calls Tryz.prog 65 #[.pointer (some ⟨mp,0,none⟩),.int .i64 now] w fun e w'=>e= .returned (.int .i64 (zbL last now:Int))∧w=w':=by
 have c1:w.cell? ⟨mp,1,none⟩=some (.int .i64 (last:Int)):=h.blk.cell 1
 have hw:(zbL last now=2∧decide (now<0)=true)∨(zbL last now=2∧decide (now<0)=false∧decide (now>1099511627776)=true)∨(zbL last now=8∧decide (now<0)=false∧decide (now>1099511627776)=false∧decide (now<(last:Int))=true)∨(zbL last now=0∧decide (now<0)=false∧decide (now>1099511627776)=false∧decide (now<(last:Int))=false):=by
  unfold zbL
  simp only [decide_eq_true_eq,decide_eq_false_iff_not]
  by_cases h1:now<0∨1099511627776<now
  ·rw [if_pos h1];omega
  ·rw [if_neg h1]
   by_cases h2:now<last
   ·rw [if_pos h2];omega
   ·rw [if_neg h2];omega
 generalize zbL last now=te at*
 clear h
 rcases hw with ⟨rfl,t1⟩|⟨rfl,t1,t2⟩|⟨rfl,t1,t2,t3⟩|⟨rfl,t1,t2,t3⟩
 all_goals
  go_enter Tryz.func65,Tryz.ntmps65
  go_wp2
  go_ret
  exact ⟨rfl,rfl⟩
def posF (L:List Fl) (k:Nat):Int:=match L.findIdx? fun x=>decide (x.key=k) with|some i=>(i:Int)|none=> -1
theorem posF_hit {L:List Fl} {k i:Nat} (hi:i<L.length) (h:L[i].key=k) (hall:∀j (hj:j<L.length),j<i→L[j].key≠k):posF L k=(i:Int):=by
 unfold posF
 have:(L.findIdx? fun x=>decide (x.key=k))=some i:=by
  rw [List.findIdx?_eq_some_iff_getElem]
  exact ⟨hi,by simpa using h,fun j hj=>by simpa using hall j (by omega) hj⟩
 rw [this]
theorem posF_miss {L:List Fl} {k:Nat} (hall:∀x∈L,x.key≠k):posF L k= -1:=by
 unfold posF
 have:(L.findIdx? fun x=>decide (x.key=k))=none:=by
  rw [List.findIdx?_eq_none_iff]
  intro x hx
  simpa using hall x hx
 rw [this]
theorem ref_find {B mp time last:Nat} {L:List Fl} {sv:Value} (k:Nat) (w:World) (h:RFs w B mp time last L sv):Calls Tryz.prog 66 #[.pointer (some ⟨mp,0,none⟩),.int .u64 (k:Int)] w fun e w'=>e= .returned (.int .i64 (posF L k))∧w=w':=by
 obtain ⟨A,cap,rfl,_,hcap⟩:=h.form
 have c2:w.cell? ⟨mp,2,none⟩=some (.slice A L.length cap):=h.blk.cell 2
 have hl:=h.len
 have HRow:=Lib.hid h.row
 clear h
 go_enter Tryz.func66,Tryz.ntmps66
 go_wp2_with fail
 go_loop [5] (fun iv=>∃i:Nat,i≤L.length∧iv= .int .i64 (i:Int)∧Hid (∀j (hj:j<L.length),j<i→L[j].key≠k)) (fun iv=>L.length- (intOf iv).toNat)
 case atStart=>exact ⟨0,Nat.zero_le _,rfl,Lib.hid fun j _ h=>absurd h (by omega)⟩
 case round=>
  obtain ⟨i,hi,rfl,hall⟩:=hrel
  by_cases hlt:i<L.length
  ·have hlt2:(i:Int)<L.length:=by omega
   obtain ⟨g,cap',hv,_,_⟩:=HRow.out.form (by omega)
   injection hv with hA
   subst hA
   obtain ⟨a0,_,_⟩:=zc8 HRow.out hlt
   by_cases he:L[i].key=k
   ·have HP:=Lib.hid (posF_hit hlt he hall.out)
    rw [he] at a0
    have q1:((k:Int)==(k:Int))=true:=by simp
    clear he hall
    go_wp2
    go_ret
    exact ⟨by rw [HP.out];rfl,rfl⟩
   ·have q1:((L[i].key:Int)==(k:Int))=false:=by simp;omega
    have HA:Hid (∀j (hj:j<L.length),j<i+1→L[j].key≠k):=Lib.hid fun j hj h=>by
     rcases Nat.lt_succ_iff_lt_or_eq.1 h with h1|rfl
     ·exact hall.out j hj h1
     ·exact he
    clear he hall
    generalize L[i].key=y at*
    go_wp2
    go_round
    case rel=>exact ⟨i+1,by omega,by go_num,HA⟩
    case measure=>simp [intOf];omega
  ·obtain rfl:i=L.length:=by omega
   have hge:¬(L.length:Int)<L.length:=by omega
   have HP:=Lib.hid (posF_miss (k:=k) fun x hx=>by
    obtain ⟨j,hj,rfl⟩:=List.getElem_of_mem hx
    exact hall.out j hj hj)
   clear hall
   go_wp2
   go_ret
   exact ⟨by rw [HP.out];rfl,rfl⟩
theorem turn_app {w w1 w2:World} {e:TypeId} {size n:Nat} {v:Value} {xs:List Value} (ht:zam [] w w1) (ho:w1.ownsRow w.heap.size e size v n xs) (hg:w1.grownBy w2 v.ownBlock):zam [] w w2:=by
 cases hv:v.ownBlock with
 |none=>
  rw [hv] at hg
  exact ht.then (zam.zaE hg fun g e=>by cases e)
 |some g=>
  rw [hv] at hg
  exact ht.trans (zam.zaE (bs:=[g]) hg fun j e=>by cases e;simp) fun c hc=>by
   rw [List.mem_singleton] at hc
   subst hc
   exact .inr (ho.lt c hv).1
theorem zel {w w1 w2:World} {o:Obj} {e:TypeId} {size n:Nat} {v:Value} {xs:List Value} (ht:zam [] w w1) (ho:w1.ownsRow w.heap.size e size v n xs) (hg:(w1.alloc o).grownBy w2 v.ownBlock):zam [] w w2:=turn_app (ht.alloc o) (ho.alloc o) hg
theorem RFs.set {w w2:World} {B mp time last:Nat} {L L':List Fl} {sv v2:Value} (h:RFs w B mp time last L sv) (ht:zam [] w w2) (ho:w2.ownsRow w.heap.size 72 3 v2 L'.length (zbr L')) (hl:L'.length≤200) (hB:B≤w.heap.size):
 (RFs (w2.setCell ⟨mp,2,none⟩ v2) B mp time last L' v2∧zam [mp] w (w2.setCell ⟨mp,2,none⟩ v2))∧Blk w2 mp 70 #[.int .i64 (time:Int),.int .i64 (last:Int),sv]:=by
 have hb:=ht.blk h.blk (by simp)
 have hmp:=h.blk.lt
 have hne:∀g,v2.ownBlock=some g→g∉[mp]:=fun g hg hm=>by
  rw [List.mem_singleton] at hm
  have:=(ho.lt g hg).1
  omega
 have hT:zam [mp] w2 (w2.setCell ⟨mp,2,none⟩ v2):=(zam.refl [mp] w2).setCell (p:=⟨mp,2,none⟩) (.inl (by simp)) v2
 exact ⟨⟨⟨hb.zbk 2 v2,zcQ (hT.own ho hne) hB,hl,h.base⟩,(ht.more (by simp)).then hT⟩,hb⟩
def RefDrop (B mp time last:Nat) (L':List Fl) (w:World) (e:Ending) (w':World):Prop:=e= .returned (.tuple #[])∧∃sv',RFs w' B mp time last L' sv'∧zam [mp] w w'
theorem erase_flsC {L:List Fl} {k:Nat}:zbr (L.eraseIdx k)=(zbr L).take (k*3)++(zbr L).drop ((k+1)*3):=by
 rw [List.eraseIdx_eq_take_drop_succ,zfi,flsC_take,flsC_drop]
set_option maxRecDepth 100000 in
theorem ref_drop {B mp time last k:Nat} {L:List Fl} {sv:Value} (w:World) (h:RFs w B mp time last L sv) (hB:B≤w.heap.size) (hk:k<L.length):
 Calls Tryz.prog 67 #[.pointer (some ⟨mp,0,none⟩),.int .i64 (k:Int)] w (RefDrop B mp time last (L.eraseIdx k) w):=by
 obtain ⟨i0,hi0,hz0,hz1,hz2⟩:=info_parts info_flow
 have hln:=h.len
 obtain ⟨g,cap,hsv,_,hgl⟩:=h.row.form (by omega)
 subst hsv
 obtain ⟨_,_,hcap,_⟩:=zeB h.row
 have hc2:w.cell? ⟨mp,2,none⟩=some (.slice (some ⟨g,0,none⟩) L.length cap):=h.blk.cell 2
 have hr1:Reads w w.heap.size 3 (some ⟨g,0,none⟩) k ((zbr L).take (k*3)):=by
  have hr:=Reads.zbv h.row
  refine ⟨by rw [List.length_take,zbj];omega,fun _=> ?_⟩
  obtain ⟨ad,ha,hb,hc⟩:=hr.2 (by omega)
  refine ⟨ad,ha,hb,fun j u hu=>hc j u ?_⟩
  rw [List.getElem?_take] at hu
  split at hu
  ·exact hu
  ·cases hu
 have HN1:=Lib.hid (fun u (hu:u∈(zbr L).take (k*3))=>zeD L u (List.mem_of_mem_take hu))
 have HN2:=Lib.hid (fun u (hu:u∈(zbr L).drop ((k+1)*3))=>zeD L u (List.mem_of_mem_drop hu))
 have HR1:=Lib.hid hr1
 have HH:=Lib.hid h
 have HFIN:Hid (∀(w1 w2:World) (v1 v2:Value),w1.ownsRow w.heap.size 72 3 v1 k ((zbr L).take (k*3))→w.grownBy w1 none→w1.grownBy w2 v1.ownBlock→w2.ownsRow w.heap.size 72 3 v2 (k+(L.length- (k+1))) ((zbr L).take (k*3)++(zbr L).drop ((k+1)*3))→
  RefDrop B mp time last (L.eraseIdx k) w (.returned (.tuple #[])) (w2.setCell ⟨mp,2,none⟩ v2)∧Blk w2 mp 70 #[.int .i64 (time:Int),.int .i64 (last:Int),.slice (some ⟨g,0,none⟩) L.length cap]):=Lib.hid fun w1 w2 v1 v2 h1 hg1 hg2 h2=>by
  have t1:zam [] w w1:=zam.zaE hg1 fun g e=>by cases e
  have t2:=turn_app t1 h1 hg2
  rw [←erase_flsC,show k+(L.length- (k+1))=(L.eraseIdx k).length by rw [List.length_eraseIdx_of_lt hk];omega] at h2
  obtain ⟨⟨a,b⟩,c⟩:=HH.out.set t2 h2 (by rw [List.length_eraseIdx_of_lt hk];omega) hB
  exact ⟨⟨rfl,_,a,b⟩,c⟩
 have hkl:(k:Int)<L.length:=by omega
 have hkc:(k:Int)≤cap:=by omega
 have hk1:(k:Int)+1≤L.length:=by omega
 have hk2:((k:Int)+1).toNat=k+1:=by omega
 have hnc:(k:Int)+1≤cap:=by omega
 clear h hr1
 by_cases hcc:cap=k+1
 ·subst hcc
  have e0:Hid (L.length- (k+1)=0):=Lib.hid (by omega)
  have e1:Hid ((zbr L).drop ((k+1)*3)=[]):=Lib.hid (List.drop_eq_nil_of_le (by rw [zbj];omega))
  have HS:Hid (∀w1:World,w.grownBy w1 none→Reads w1 w1.heap.size 3 (some ⟨g,0,none⟩) 0 []):=Lib.hid fun w1 _=>⟨rfl,fun h=>absurd h (by omega)⟩
  go_enter Tryz.func67,Tryz.ntmps67
  go_wp2_with (first
   |(at_builtin
     refine zac _ rfl (.tmp 5) (.tmp 11) _ rfl w.heap.size 72 i0 _ 3 32 Tryz.underlying68 hi0 hz0 hz1 hz2 rfl (by omega) (.slice none 0 0) 0 [] rfl (World.ownsRow_nil _ _ _ _) w.heap.size (some ⟨g,0,none⟩) k (k+1) _ rfl HR1.out HN1.out (by simp only [maxLen];omega) (by omega) (Nat.le_refl _) ?_
     intro v1 w1 hown1 hg1 _
     simp only [Nat.zero_add,List.nil_append] at hown1
     have HO1:=Lib.hid hown1
     have HG1:=Lib.hid hg1
     have hc3:=(((zam.zaE hg1 (fun _ e=>by cases e):zam [] w w1)).blk HH.out.blk (by simp)).cell 2
     have hz1':=hg1.size
     clear hown1 hg1)
   |(at_builtin
     go_must (refine zac _ rfl (.tmp 14) (.tmp 21) _ rfl w.heap.size 72 i0 _ 3 32 Tryz.underlying68 hi0 hz0 hz1 hz2 rfl (by omega) _ k _ rfl HO1.out _ (some ⟨g,0,none⟩) 0 0 _ rfl (HS.out _ HG1.out) (by simp) (by simp only [maxLen];omega) (by omega) HG1.out.size ?_)
     intro v2 w2 hown2 hg2 _
     obtain ⟨hp,hb⟩:=HFIN.out _ _ _ _ HO1.out HG1.out hg2 (by rw [e0.out,e1.out];exact hown2)
     have HP:=Lib.hid hp
     have c9:=hb.cell 2
     have f9:=hb.frozen 2
     clear hp hb
     obtain ⟨A3,cap3,hv3,_⟩:=zai hown2
     subst hv3))
  go_end0
  exact HP.out
 ·have HS:Hid (∀w1:World,w.grownBy w1 none→Reads w1 w1.heap.size 3 (some ⟨g,(k+1)*3,none⟩) (L.length- (k+1)) ((zbr L).drop ((k+1)*3))):=Lib.hid fun w1 hg1=>by
   have:=((Reads.zbv HH.out.row).grown hg1 (Nat.le_refl _) (fun _ e=>by cases e)).cut (k:=k+1) (by omega) hcap
   rw [if_neg hcc] at this
   have e:(some (⟨g,0,none⟩:Addr)).map (·.add ((k+1)*3))=some ⟨g,(k+1)*3,none⟩:=by simp [Addr.add]
   rw [e] at this
   exact this.more hg1.size
  have hrl:L.length- (k+1)≤1000:=by omega
  go_enter Tryz.func67,Tryz.ntmps67
  go_wp2_with (first
   |(at_builtin
     refine zac _ rfl (.tmp 5) (.tmp 11) _ rfl w.heap.size 72 i0 _ 3 32 Tryz.underlying68 hi0 hz0 hz1 hz2 rfl (by omega) (.slice none 0 0) 0 [] rfl (World.ownsRow_nil _ _ _ _) w.heap.size (some ⟨g,0,none⟩) k (cap) _ rfl HR1.out HN1.out (by simp only [maxLen];omega) (by omega) (Nat.le_refl _) ?_
     intro v1 w1 hown1 hg1 _
     simp only [Nat.zero_add,List.nil_append] at hown1
     have HO1:=Lib.hid hown1
     have HG1:=Lib.hid hg1
     have hc3:=(((zam.zaE hg1 (fun _ e=>by cases e):zam [] w w1)).blk HH.out.blk (by simp)).cell 2
     have hz1':=hg1.size
     clear hown1 hg1)
   |(at_builtin
     go_must (refine zac _ rfl (.tmp 14) (.tmp 21) _ rfl w.heap.size 72 i0 _ 3 32 Tryz.underlying68 hi0 hz0 hz1 hz2 rfl (by omega) _ k _ rfl HO1.out _ (some ⟨g,(k+1)*3,none⟩) (L.length- (k+1)) ((cap) - (k+1)) _ rfl (HS.out _ HG1.out) HN2.out (by simp only [maxLen];omega) (by omega) HG1.out.size ?_)
     intro v2 w2 hown2 hg2 _
     obtain ⟨hp,hb⟩:=HFIN.out _ _ _ _ HO1.out HG1.out hg2 hown2
     have HP:=Lib.hid hp
     have c9:=hb.cell 2
     have f9:=hb.frozen 2
     clear hp hb
     obtain ⟨A3,cap3,hv3,_⟩:=zai hown2
     subst hv3))
  go_end0
  exact HP.out
end Go.Proofs.YthkfhfldoniolaaGreatDoor
namespace Go.Proofs.YthkfhfldoniolaaGreatDoor
open Go.RowKit
theorem insF_at {x:Fl} {L:List Fl} {k:Nat} (hk:k≤L.length) (hne:∀y∈L,y.key≠x.key) (hlt:∀j (hj:j<L.length),j<k→L[j].key<x.key) (hge:∀h:k<L.length,¬L[k].key<x.key):insF x L=L.take k++x::L.drop k:=by
 induction L generalizing k with
 |nil=>
  obtain rfl:k=0:=by simpa using hk
  rfl
 |cons y r ih=>
  cases k with
  |zero=>
   have h1:=hge (by simp)
   have h2:=hne y (List.mem_cons_self ..)
   unfold insF
   rw [if_pos (by simp at h1;omega)]
   rfl
  |succ k=>
   have h1:=hlt 0 (by simp) (by omega)
   unfold insF
   rw [if_neg (by simp at h1;omega),ih (by simpa using hk) (fun z hz=>hne z (List.mem_cons_of_mem _ hz)) (fun j hj hjk=>by have:=hlt (j+1) (by simpa using hj) (by omega);simpa using this) (fun h=>by have:=hge (by simpa using h);simpa using this)]
   rfl
theorem ins_flsC {x:Fl} {L:List Fl} {k:Nat}:zbr (L.take k++x::L.drop k)=(zbr L).take (k*3)++flC x++(zbr L).drop (k*3):=by
 rw [zfi,flsC_take,flsC_drop]
 simp [zbr]
set_option maxRecDepth 100000 in
theorem ref_lay {B mp time last:Nat} {L:List Fl} {sv:Value} (x:Fl) (w:World) (h:RFs w B mp time last L sv) (hB:B≤w.heap.size) (hl:L.length<200) (hne:∀y∈L,y.key≠x.key):
 Calls Tryz.prog 68 #[.pointer (some ⟨mp,0,none⟩),flV x] w (RefDrop B mp time last (insF x L) w):=by
 obtain ⟨i0,hi0,hz0,hz1,hz2⟩:=info_parts info_flow
 have hbx:Below w.heap.size w (w.alloc (.cells #[.int .u64 (x.key:Int),.string x.host,.int .i64 x.til] 72)):=(Below.refl _ _).alloc (Nat.le_refl _) _
 have hBx:=Blk.new w 72 #[.int .u64 (x.key:Int),.string x.host,.int .i64 x.til]
 have HT0:Hid (∀m,zam [] w ((w.alloc (.cells #[.int .u64 (x.key:Int),.string x.host,.int .i64 x.til] 72)).drewN m)):=Lib.hid fun m=>(zam.of_below hbx).drewN m
 have HT00:Hid (zam [] w (w.alloc (.cells #[.int .u64 (x.key:Int),.string x.host,.int .i64 x.til] 72))):=Lib.hid (zam.of_below hbx)
 have HBX0:Hid (zdM (w.alloc (.cells #[.int .u64 (x.key:Int),.string x.host,.int .i64 x.til] 72)) w.heap.size 0 x):=Lib.hid (zdM.blk hBx)
 obtain ⟨A,cap,hsv,hrd,hcap⟩:=h.form
 have HSV:=Lib.hid (fun W (hW:zam [] w W)=>(⟨hW.own h.row (by simp),hW.blk h.blk (by simp)⟩:W.ownsRow B 72 3 sv L.length (zbr L)∧Blk W mp 70 #[.int .i64 (time:Int),.int .i64 (last:Int),sv]))
 have HBX:Hid (∀m W,zam [] ((w.alloc (.cells #[.int .u64 (x.key:Int),.string x.host,.int .i64 x.til] 72)).drewN m) W→zdM W w.heap.size 0 x):=Lib.hid fun m W hW=>zdM.blk (hW.blk (hBx.drewN m) (by simp))
 have HFIN:Hid (∀(k:Nat) (w1 w2 w3:World) (v1 v2 v3:Value) (o:Obj),zam [] w w1→insF x L=L.take k++x::L.drop k→k≤L.length→w1.ownsRow w.heap.size 72 3 v1 k ((zbr L).take (k*3))→(w1.alloc o).grownBy w2 v1.ownBlock→w2.ownsRow w.heap.size 72 3 v2 (k+1) ((zbr L).take (k*3)++flC x)→w2.grownBy w3 v2.ownBlock→
  w3.ownsRow w.heap.size 72 3 v3 (k+1+(L.length-k)) ((zbr L).take (k*3)++flC x++(zbr L).drop (k*3))→RefDrop B mp time last (insF x L) w (.returned (.tuple #[])) (w3.setCell ⟨mp,2,none⟩ v3)∧Blk w3 mp 70 #[.int .i64 (time:Int),.int .i64 (last:Int),sv]):=Lib.hid fun k w1 w2 w3 v1 v2 v3 o t1 hi hk o1 g2 o2 g3 o3=>by
  have t2:=zel t1 o1 g2
  have t3:=turn_app t2 o2 g3
  have hlen:(insF x L).length=L.length+1:=zfh x L
  rw [←ins_flsC,←hi,show k+1+(L.length-k)=(insF x L).length by rw [hlen];omega] at o3
  obtain ⟨⟨a,b⟩,c⟩:=h.set t3 o3 (by rw [hlen];omega) hB
  exact ⟨⟨rfl,_,a,b⟩,c⟩
 have HIN:=Lib.hid (fun (k:Nat) (hk:k≤L.length) h1 h2=>insF_at (x:=x) (L:=L) hk hne h1 h2)
 have HN1:=Lib.hid (fun k u (hu:u∈(zbr L).take (k*3))=>zeD L u (List.mem_of_mem_take hu))
 have HN2:=Lib.hid (fun k u (hu:u∈(zbr L).drop (k*3))=>zeD L u (List.mem_of_mem_drop hu))
 have HNx:Hid (∀u∈flC x,u.oneCell'=true):=Lib.hid fun u hu=>zeD [x] u (by simpa [zbr] using hu)
 have HNC:=Lib.hid (fun W=>flcells_new W x)
 have hc2:w.cell? ⟨mp,2,none⟩=some sv:=h.blk.cell 2
 have hmpl:=h.blk.lt
 have HGL:Hid (0<L.length→∃g,A=some ⟨g,0,none⟩):=Lib.hid fun h0=>by
  obtain ⟨g,c',hv,_,_⟩:=h.row.form h0
  rw [hsv] at hv
  injection hv with hA
  exact ⟨g,hA⟩
 have HG0:Hid (L.length=0→A=none→cap=0):=Lib.hid fun h0 hA=>by
  have h3:=h.row
  rw [hsv,hA] at h3
  exact (own_none_of h3).2
 have HGA:Hid (∀ad,A=some ad→∃g,ad=⟨g,0,none⟩):=Lib.hid fun ad hA=>by
  have h3:=h.row
  rw [hsv,hA] at h3
  exact ⟨_,own_zero_of h3⟩
 subst hsv
 clear h hne hrd
 unfold flV
 go_enter Tryz.func68,Tryz.ntmps68
 go_wp2_with fail
 clear hbx hBx
 generalize w.alloc (.cells #[.int .u64 (x.key:Int),.string x.host,.int .i64 x.til] 72)=W0 at*
 go_loopw [4] (fun iv wi=>∃k m:Nat,k≤L.length∧iv= .int .i64 (k:Int)∧wi=W0.drewN m∧Hid (∀j (hj:j<L.length),j<k→L[j].key<x.key)) (fun iv _=>L.length- (intOf iv).toNat)
 case atStart=>exact ⟨0,0,Nat.zero_le _,rfl,rfl,Lib.hid fun j _ h=>absurd h (by omega)⟩
 case round=>
  obtain ⟨k,m,hk,rfl,rfl,hall⟩:=hrel
  have c2:W0.cell? ⟨mp,2,none⟩=some (.slice A L.length cap):=(HSV.out W0 HT00.out).2.cell 2
  obtain ⟨y0,y1,y2⟩:=HBX0.out
  by_cases hgo:∃h:k<L.length,L[k].key<x.key
  ·obtain ⟨hko,hp⟩:=hgo
   obtain ⟨g,rfl⟩:=HGL.out (by omega)
   have hko2:(k:Int)<L.length:=by omega
   obtain ⟨a0,_,_⟩:=zc8 (HSV.out W0 HT00.out).1 hko
   have d1:decide (L[k].key<x.key)=true:=by simpa using hp
   have HA:Hid (∀j (hj:j<L.length),j<k+1→L[j].key<x.key):=Lib.hid fun j hj h=>by
    rcases Nat.lt_succ_iff_lt_or_eq.1 h with h1|rfl
    ·exact hall.out j hj h1
    ·exact hp
   clear hall hp
   generalize L[k].key=ky at*
   go_wp2_with fail
   go_quiet (fail)
   go_wp2_with fail
   go_roundw
   case rel=>exact ⟨k+1,_,by omega,by go_num,rfl,HA⟩
   case measure=>simp [intOf];omega
  ·have HI:=Lib.hid (HIN.out k hk hall.out fun h h2=>hgo ⟨h,h2⟩)
   have hway:((k:Int)<L.length∧∃(g ky:Nat),A=some ⟨g,0,none⟩∧W0.cell? ⟨g,k*3,none⟩=some (.int .u64 (ky:Int))∧decide (ky<x.key)=false)∨¬((k:Int)<L.length):=by
    by_cases hko:k<L.length
    ·obtain ⟨g,hA⟩:=HGL.out (by omega)
     have hr:=(HSV.out W0 HT00.out).1
     rw [hA] at hr
     obtain ⟨a0,_,_⟩:=zc8 hr hko
     refine .inl ⟨by omega,g,L[k].key,hA,a0, ?_⟩
     simp only [decide_eq_false_iff_not]
     exact fun h2=>hgo ⟨hko,h2⟩
    ·exact .inr (by omega)
   have hkn:(k:Int)≤L.length:=by omega
   have hkc:(k:Int)≤cap:=by omega
   have HAc:Hid (A=none→L.length=0∧cap=0):=Lib.hid fun hA=>by
    rcases Nat.eq_zero_or_pos L.length with h0|h0
    ·exact ⟨h0,HG0.out h0 hA⟩
    ·obtain ⟨g,hg⟩:=HGL.out h0
     rw [hA] at hg;cases hg
   have HTk:=Lib.hid (fun W (hW:zam [] w W) g (hA:A=some ⟨g,0,none⟩)=>((by
    have hr:=Reads.zbv (HSV.out W hW).1
    refine ⟨by rw [List.length_take,zbj];omega,fun hk0=> ?_⟩
    obtain ⟨ad,ha,hb,hc⟩:=hr.2 (by omega)
    refine ⟨ad,by rw [←ha,hA],hb,fun j u hu=>hc j u ?_⟩
    rw [List.getElem?_take] at hu
    by_cases hj:j<k*3
    ·rwa [if_pos hj] at hu
    ·rw [if_neg hj] at hu;exact absurd hu (by simp)):Reads W W.heap.size 3 (some ⟨g,0,none⟩) k ((zbr L).take (k*3))))
   have HDk:=Lib.hid (fun W (hW:zam [] w W) g (hA:A=some ⟨g,0,none⟩) (hc:¬cap=k)=>((by
    have:=(Reads.zbv (HSV.out W hW).1).cut (k:=k) hk hcap
    rw [if_neg hc,hA] at this
    have e:(some (⟨g,0,none⟩:Addr)).map (·.add (k*3))=some ⟨g,k*3,none⟩:=by
     by_cases h0:k=0
     ·subst h0;rfl
     ·have:¬k*3=0:=by omega
      simp [Addr.add,this]
    rw [e] at this
    exact this):Reads W W.heap.size 3 (some ⟨g,k*3,none⟩) (L.length-k) ((zbr L).drop (k*3))))
   clear hgo hall
   cases hAo:A with
   |none=>
    subst hAo
    obtain ⟨hL0,rfl⟩:=HAc.out rfl
    have hL:L=[]:=List.eq_nil_of_length_eq_zero hL0
    subst hL
    obtain rfl:k=0:=by simpa using hk
    have HS1:Hid (Reads (W0.drewN m) (W0.drewN m).heap.size 3 none 0 []):=Lib.hid Reads.none_
    have HS3:Hid (∀W,zam [] w W→Reads W W.heap.size 3 none 0 []):=Lib.hid fun W _=>Reads.none_
    clear hway hkn hkc hk hL0 hcap
    go_wp2_with fail
    go_quiet (fail)
    go_wp2_with (first
     |(at_builtin
       refine zac _ rfl (.tmp 28) (.tmp 34) _ rfl w.heap.size 72 i0 _ 3 32 Tryz.underlying68 hi0 hz0 hz1 hz2 rfl (by omega) (.slice none 0 0) 0 [] rfl (World.ownsRow_nil _ _ _ _) _ none 0 0 _ rfl HS1.out (HN1.out 0) (by simp only [maxLen];omega) (by omega) (HT0.out _).size ?_
       intro v1 w1 hown1 hg1 _
       simp only [Nat.zero_add,List.nil_append] at hown1
       have HO1:=Lib.hid hown1
       have ht1:=zam.then (zam.refl [] _) (zam.zaE (bs:=[]) hg1 (fun _ e=>by cases e))
       have HT1:=Lib.hid ((HT0.out _).then ht1)
       obtain ⟨b0,b1,b2⟩:=HBX.out _ _ ht1
       clear hown1 hg1 ht1)
     |(at_builtin
       refine zac _ rfl (.tmp 36) (.tmp 38) _ rfl w.heap.size 72 i0 _ 3 32 Tryz.underlying68 hi0 hz0 hz1 hz2 rfl (by omega) _ 0 _ rfl (HO1.out.alloc _) (w1.heap.size+1) (some ⟨w1.heap.size,0,none⟩) 1 1 (flC x) rfl ⟨rfl,fun _=>⟨_,rfl,by simp,HNC.out w1⟩⟩ HNx.out (by simp only [maxLen];omega) (by omega) (by have:=HT1.out.size;simp;omega) ?_
       intro v2 w2 hown2 hg2 _
       have HO2:=Lib.hid hown2
       have HG2:=Lib.hid hg2
       have HT2:=Lib.hid (zel HT1.out HO1.out hg2)
       have d2:=(HSV.out _ HT2.out).2.cell 2
       simp only [List.getElem?_toArray,List.getElem?_cons_zero,List.getElem?_cons_succ] at d2
       clear hown2 hg2)
     |(at_builtin
       go_must (refine zac _ rfl (.tmp 41) (.tmp 47) _ rfl w.heap.size 72 i0 _ 3 32 Tryz.underlying68 hi0 hz0 hz1 hz2 rfl (by omega) _ (0+1) _ rfl HO2.out _ none 0 0 _ rfl (HS3.out _ HT2.out) (by simp) (by simp only [maxLen];omega) (by omega) HT2.out.size ?_)
       intro v3 w3 hown3 hg3 _
       obtain ⟨hp,hb⟩:=HFIN.out 0 w1 w2 w3 v1 v2 v3 _ HT1.out HI.out (by omega) HO1.out HG2.out HO2.out hg3 (by simpa [zbr] using hown3)
       have HP:=Lib.hid hp
       have c9:=hb.cell 2
       have f9:=hb.frozen 2
       clear hp hb
       obtain ⟨A3,cap3,hv3,_⟩:=zai hown3
       subst hv3)
     |fail)
    go_end0
    exact HP.out
   |some ad=>
    obtain ⟨g,rfl⟩:=HGA.out ad hAo
    subst hAo
    have HS1:=Lib.hid (HTk.out _ (HT0.out (m+1)) g rfl)
    by_cases hcc:cap=k
    ·subst hcc
     obtain rfl:cap=L.length:=by omega
     have hge:¬((L.length:Int)<L.length):=by omega
     have e0:Hid (L.length-L.length=0):=Lib.hid (by omega)
     have e1:Hid ((zbr L).drop (L.length*3)=[]):=Lib.hid (List.drop_eq_nil_of_le (by rw [zbj];omega))
     have HS3:Hid (∀W,zam [] w W→Reads W W.heap.size 3 (some ⟨g,0,none⟩) 0 []):=Lib.hid fun W _=>⟨rfl,fun h=>absurd h (by omega)⟩
     clear hway
     go_wp2_with fail
     go_quiet (fail)
     go_wp2_with (first
      |(at_builtin
        refine zac _ rfl (.tmp 28) (.tmp 34) _ rfl w.heap.size 72 i0 _ 3 32 Tryz.underlying68 hi0 hz0 hz1 hz2 rfl (by omega) (.slice none 0 0) 0 [] rfl (World.ownsRow_nil _ _ _ _) _ (some ⟨g,0,none⟩) L.length L.length _ rfl HS1.out (HN1.out L.length) (by simp only [maxLen];omega) (by omega) (HT0.out _).size ?_
        intro v1 w1 hown1 hg1 _
        simp only [Nat.zero_add,List.nil_append] at hown1
        have HO1:=Lib.hid hown1
        have ht1:=zam.then (zam.refl [] _) (zam.zaE (bs:=[]) hg1 (fun _ e=>by cases e))
        have HT1:=Lib.hid ((HT0.out _).then ht1)
        obtain ⟨b0,b1,b2⟩:=HBX.out _ _ ht1
        clear hown1 hg1 ht1)
      |(at_builtin
        refine zac _ rfl (.tmp 36) (.tmp 38) _ rfl w.heap.size 72 i0 _ 3 32 Tryz.underlying68 hi0 hz0 hz1 hz2 rfl (by omega) _ L.length _ rfl (HO1.out.alloc _) (w1.heap.size+1) (some ⟨w1.heap.size,0,none⟩) 1 1 (flC x) rfl ⟨rfl,fun _=>⟨_,rfl,by simp,HNC.out w1⟩⟩ HNx.out (by simp only [maxLen];omega) (by omega) (by have:=HT1.out.size;simp;omega) ?_
        intro v2 w2 hown2 hg2 _
        have HO2:=Lib.hid hown2
        have HG2:=Lib.hid hg2
        have HT2:=Lib.hid (zel HT1.out HO1.out hg2)
        have d2:=(HSV.out _ HT2.out).2.cell 2
        simp only [List.getElem?_toArray,List.getElem?_cons_zero,List.getElem?_cons_succ] at d2
        clear hown2 hg2)
      |(at_builtin
        go_must (refine zac _ rfl (.tmp 41) (.tmp 47) _ rfl w.heap.size 72 i0 _ 3 32 Tryz.underlying68 hi0 hz0 hz1 hz2 rfl (by omega) _ (L.length+1) _ rfl HO2.out _ (some ⟨g,0,none⟩) 0 0 _ rfl (HS3.out _ HT2.out) (by simp) (by simp only [maxLen];omega) (by omega) HT2.out.size ?_)
        intro v3 w3 hown3 hg3 _
        obtain ⟨hp,hb⟩:=HFIN.out L.length w1 w2 w3 v1 v2 v3 _ HT1.out HI.out (by omega) HO1.out HG2.out HO2.out hg3 (by rw [e0.out,e1.out];exact hown3)
        have HP:=Lib.hid hp
        have c9:=hb.cell 2
        have f9:=hb.frozen 2
        clear hp hb
        obtain ⟨A3,cap3,hv3,_⟩:=zai hown3
        subst hv3)
      |fail)
     go_end0
     exact HP.out
    ·have HS3:Hid (∀W,zam [] w W→Reads W W.heap.size 3 (some ⟨g,k*3,none⟩) (L.length-k) ((zbr L).drop (k*3))):=Lib.hid fun W hW=>HDk.out W hW g rfl hcc
     rcases hway with ⟨d2,g',ky,hA,cy,d1⟩|d2
     ·injection hA with hA
      injection hA with hA
      subst hA
      go_wp2_with fail
      go_quiet (fail)
      go_wp2_with (first
       |(at_builtin
         refine zac _ rfl (.tmp 28) (.tmp 34) _ rfl w.heap.size 72 i0 _ 3 32 Tryz.underlying68 hi0 hz0 hz1 hz2 rfl (by omega) (.slice none 0 0) 0 [] rfl (World.ownsRow_nil _ _ _ _) _ (some ⟨g,0,none⟩) k cap _ rfl HS1.out (HN1.out k) (by simp only [maxLen];omega) (by omega) (HT0.out _).size ?_
         intro v1 w1 hown1 hg1 _
         simp only [Nat.zero_add,List.nil_append] at hown1
         have HO1:=Lib.hid hown1
         have ht1:=zam.then (zam.refl [] _) (zam.zaE (bs:=[]) hg1 (fun _ e=>by cases e))
         have HT1:=Lib.hid ((HT0.out _).then ht1)
         obtain ⟨b0,b1,b2⟩:=HBX.out _ _ ht1
         clear hown1 hg1 ht1)
       |(at_builtin
         refine zac _ rfl (.tmp 36) (.tmp 38) _ rfl w.heap.size 72 i0 _ 3 32 Tryz.underlying68 hi0 hz0 hz1 hz2 rfl (by omega) _ k _ rfl (HO1.out.alloc _) (w1.heap.size+1) (some ⟨w1.heap.size,0,none⟩) 1 1 (flC x) rfl ⟨rfl,fun _=>⟨_,rfl,by simp,HNC.out w1⟩⟩ HNx.out (by simp only [maxLen];omega) (by omega) (by have:=HT1.out.size;simp;omega) ?_
         intro v2 w2 hown2 hg2 _
         have HO2:=Lib.hid hown2
         have HG2:=Lib.hid hg2
         have HT2:=Lib.hid (zel HT1.out HO1.out hg2)
         have d2:=(HSV.out _ HT2.out).2.cell 2
         simp only [List.getElem?_toArray,List.getElem?_cons_zero,List.getElem?_cons_succ] at d2
         clear hown2 hg2)
       |(at_builtin
         go_must (refine zac _ rfl (.tmp 41) (.tmp 47) _ rfl w.heap.size 72 i0 _ 3 32 Tryz.underlying68 hi0 hz0 hz1 hz2 rfl (by omega) _ (k+1) _ rfl HO2.out _ (some ⟨g,k*3,none⟩) (L.length-k) (cap-k) _ rfl (HS3.out _ HT2.out) (HN2.out k) (by simp only [maxLen];omega) (by omega) HT2.out.size ?_)
         intro v3 w3 hown3 hg3 _
         obtain ⟨hp,hb⟩:=HFIN.out k w1 w2 w3 v1 v2 v3 _ HT1.out HI.out (by omega) HO1.out HG2.out HO2.out hg3 hown3
         have HP:=Lib.hid hp
         have c9:=hb.cell 2
         have f9:=hb.frozen 2
         clear hp hb
         obtain ⟨A3,cap3,hv3,_⟩:=zai hown3
         subst hv3)
       |fail)
      go_end0
      exact HP.out
     ·obtain rfl:k=L.length:=by omega
      go_wp2_with fail
      go_quiet (fail)
      go_wp2_with (first
       |(at_builtin
         refine zac _ rfl (.tmp 28) (.tmp 34) _ rfl w.heap.size 72 i0 _ 3 32 Tryz.underlying68 hi0 hz0 hz1 hz2 rfl (by omega) (.slice none 0 0) 0 [] rfl (World.ownsRow_nil _ _ _ _) _ (some ⟨g,0,none⟩) L.length cap _ rfl HS1.out (HN1.out L.length) (by simp only [maxLen];omega) (by omega) (HT0.out _).size ?_
         intro v1 w1 hown1 hg1 _
         simp only [Nat.zero_add,List.nil_append] at hown1
         have HO1:=Lib.hid hown1
         have ht1:=zam.then (zam.refl [] _) (zam.zaE (bs:=[]) hg1 (fun _ e=>by cases e))
         have HT1:=Lib.hid ((HT0.out _).then ht1)
         obtain ⟨b0,b1,b2⟩:=HBX.out _ _ ht1
         clear hown1 hg1 ht1)
       |(at_builtin
         refine zac _ rfl (.tmp 36) (.tmp 38) _ rfl w.heap.size 72 i0 _ 3 32 Tryz.underlying68 hi0 hz0 hz1 hz2 rfl (by omega) _ L.length _ rfl (HO1.out.alloc _) (w1.heap.size+1) (some ⟨w1.heap.size,0,none⟩) 1 1 (flC x) rfl ⟨rfl,fun _=>⟨_,rfl,by simp,HNC.out w1⟩⟩ HNx.out (by simp only [maxLen];omega) (by omega) (by have:=HT1.out.size;simp;omega) ?_
         intro v2 w2 hown2 hg2 _
         have HO2:=Lib.hid hown2
         have HG2:=Lib.hid hg2
         have HT2:=Lib.hid (zel HT1.out HO1.out hg2)
         have d2:=(HSV.out _ HT2.out).2.cell 2
         simp only [List.getElem?_toArray,List.getElem?_cons_zero,List.getElem?_cons_succ] at d2
         clear hown2 hg2)
       |(at_builtin
         go_must (refine zac _ rfl (.tmp 41) (.tmp 47) _ rfl w.heap.size 72 i0 _ 3 32 Tryz.underlying68 hi0 hz0 hz1 hz2 rfl (by omega) _ (L.length+1) _ rfl HO2.out _ (some ⟨g,L.length*3,none⟩) 0 (cap-L.length) _ rfl (by have:=HS3.out _ HT2.out;rwa [Nat.sub_self] at this) (HN2.out L.length) (by simp only [maxLen];omega) (by omega) HT2.out.size ?_)
         intro v3 w3 hown3 hg3 _
         obtain ⟨hp,hb⟩:=HFIN.out L.length w1 w2 w3 v1 v2 v3 _ HT1.out HI.out (by omega) HO1.out HG2.out HO2.out hg3 (by rw [Nat.sub_self];exact hown3)
         have HP:=Lib.hid hp
         have c9:=hb.cell 2
         have f9:=hb.frozen 2
         clear hp hb
         obtain ⟨A3,cap3,hv3,_⟩:=zai hown3
         subst hv3)
       |fail)
      go_end0
      exact HP.out
end Go.Proofs.YthkfhfldoniolaaGreatDoor
namespace Go.Proofs.YthkfhfldoniolaaGreatDoor
open Go.RowKit
theorem erase_delF {L:List Fl} (hr:zde L) {i:Nat} (hi:i<L.length):L.eraseIdx i=zed L[i].key L:=by
 induction L generalizing i with
 |nil=>simp at hi
 |cons z r ih=>
  obtain ⟨h1,h2⟩:=List.pairwise_cons.1 hr
  cases i with
  |zero=>
   show r=zed z.key (z::r)
   unfold zed
   rw [List.filter_cons_of_neg (by simp)]
   exact (zfL fun y hy=>by have:=h1 y hy;omega).symm
  |succ i=>
   have hi':i<r.length:=by simpa using hi
   have hz:z.key≠r[i].key:=by have:=h1 r[i] (List.getElem_mem _);omega
   show z::r.eraseIdx i=zed r[i].key (z::r)
   rw [ih h2 hi']
   unfold zed
   rw [List.filter_cons_of_pos (by simpa using hz)]
theorem posF_cases {L:List Fl} (k:Nat):(∃i,∃hi:i<L.length,posF L k=(i:Int)∧L[i].key=k)∨(posF L k= -1∧findF L k=none):=by
 unfold posF
 cases h:L.findIdx? fun x=>decide (x.key=k) with
 |none=>
  refine .inr ⟨rfl, ?_⟩
  rw [List.findIdx?_eq_none_iff] at h
  exact List.find?_eq_none.2 fun x hx=>by simpa using h x hx
 |some i=>
  rw [List.findIdx?_eq_some_iff_getElem] at h
  obtain ⟨hi,h1,_⟩:=h
  exact .inl ⟨i,hi,rfl,by simpa using h1⟩
theorem findF_at {L:List Fl} (hr:zde L) {i:Nat} (hi:i<L.length):findF L L[i].key=some L[i]:=findF_mem hr (List.getElem_mem _)
theorem room_hit {L:List Fl} {i k:Nat} (hr:zde L) (hi:i<L.length) (h:L[i].key=k):L.eraseIdx i=zed k (zct L k)∧(L.eraseIdx i).length=L.length-1:=by
 have hf:=findF_at hr hi
 rw [h] at hf
 have e:zct L k=L:=by unfold zct;rw [if_pos (.inl (by rw [hf];rfl))]
 rw [e]
 refine ⟨?_,List.length_eraseIdx_of_lt hi⟩
 rw [erase_delF hr hi,h]
theorem room_free {L:List Fl} {k:Nat} (hf:findF L k=none) (hl:L.length<200):L=zed k (zct L k):=by
 have e:zct L k=L:=by unfold zct;rw [if_pos (.inr hl)]
 rw [e]
 exact (zfL (findF_none hf)).symm
theorem room_full {L:List Fl} {k l:Nat} (hr:zde L) (hf:findF L k=none) (hl:¬L.length<200) (h:l<L.length) (hm:L[l]=zew L):L.eraseIdx l=zed k (zct L k)∧(L.eraseIdx l).length=L.length-1:=by
 have e:zct L k=zed (zew L).key L:=by unfold zct;rw [if_neg (by rw [hf];simp;omega)]
 rw [e]
 refine ⟨?_,List.length_eraseIdx_of_lt h⟩
 rw [erase_delF hr h,hm]
 refine (zfL fun x hx=>findF_none hf x ?_).symm
 rw [←hm] at hx
 exact zeL hx
section
variable {w w':World} {B mp time last:Nat} {L:List Fl} {sv:Value}
theorem notRow_blk {t:TypeId} {xs:Array Value} {g:Nat} (h:Blk w g t xs) (ht:t≠72):NotRow w g:=fun cs fz h2=>by
 unfold Blk at h
 rw [h] at h2
 cases h2
 exact ht rfl
theorem RFs.tick (h:RFs w B mp time last L sv) (now:Nat):RFs (w.setCell ⟨mp,1,none⟩ (.int .i64 (now:Int))) B mp time now L sv∧zam [mp] w (w.setCell ⟨mp,1,none⟩ (.int .i64 (now:Int))):=by
 have hT:zam [mp] w (w.setCell ⟨mp,1,none⟩ (.int .i64 (now:Int))):=(zam.refl [mp] w).setCell (p:=⟨mp,1,none⟩) (.inl (by simp)) _
 have hN:=notRow_blk h.blk (by decide)
 refine ⟨⟨h.blk.zbk 1 _,hT.own h.row (fun g hg hm=> ?_),h.len,h.base⟩,hT⟩
 rw [List.mem_singleton] at hm
 rcases h.row.2 with ⟨rfl,_⟩|⟨g',cap,cur,rfl,_,hh,_⟩
 ·simp [Value.ownBlock] at hg
 ·have:g'=g:=by simpa [Value.ownBlock] using hg
  subst this
  subst hm
  exact hN _ _ hh
end
end Go.Proofs.YthkfhfldoniolaaGreatDoor
namespace Go.Proofs.YthkfhfldoniolaaGreatDoor
open Go.RowKit
theorem ref_name (s:ByteArray) (b:Bool) (w:World) (hs:s.size≤maxLen) (hn:isName s=b):Calls Tryz.prog 15 #[.string s] w fun e w'=>e= .returned (.bool b)∧w=w':=by
 subst hn
 exact isName_any s w hs
theorem least_step {L:List Fl} {l i:Nat} (h1:1≤i) (hi:i<L.length) (hl:l<L.length) (h:L[l]=zew (L.take i)):(L[i].til<L[l].til→L[i]=zew (L.take (i+1)))∧(¬L[i].til<L[l].til→L[l]=zew (L.take (i+1))):=by
 rw [minL_succ h1 hi,←h]
 exact ⟨fun h=>by rw [if_pos h],fun h=>by rw [if_neg h]⟩
def RefPutOk (B mp time now:Nat) (L':List Fl) (w:World) (e:Ending) (w':World):Prop:=e= .returned (.int .i64 0)∧∃sv',RFs w' B mp time now L' sv'∧zam [mp] w w'
set_option maxRecDepth 100000 in
theorem ref_put_ok {B mp time last:Nat} {L:List Fl} {sv:Value} (k:Nat) (s:ByteArray) (now:Nat) (w:World) (h:RFs w B mp time last L sv) (hr:zde L) (hB:B≤w.heap.size) (hs:s.size≤maxLen) (hn:isName s=true) (h1:last≤now) (h2:now≤1099511627776) (htm:time≤1099511627776):
 Calls Tryz.prog 40 #[.pointer (some ⟨mp,0,none⟩),.int .u64 (k:Int),.string s,.int .i64 (now:Int)] w (RefPutOk B mp time now (zeg L ⟨k,s,(now:Int)+time⟩) w):=by
 have HT:=Lib.hid (ref_tick (now:Int) w h)
 have ht0:zbL last (now:Int)=0:=by unfold zbL;rw [if_neg (by omega),if_neg (by omega)]
 rw [ht0] at HT
 have HN:=Lib.hid (ref_name s _ w hs hn)
 have c1:w.cell? ⟨mp,1,none⟩=some (.int .i64 (last:Int)):=h.blk.cell 1
 have f1:=h.blk.frozen 1
 obtain ⟨hF2,hT2⟩:=h.tick now
 have HF2:=Lib.hid hF2
 have HT2:=Lib.hid hT2
 have HFD:=Lib.hid (ref_find k _ hF2)
 have HSZ:Hid (∀W,zam [mp] w W→B≤W.heap.size):=Lib.hid fun W hW=>Nat.le_trans hB hW.size
 have HC0:Hid (∀W L' sv',RFs W B mp time now L' sv'→W.cell? ⟨mp,0,none⟩=some (.int .i64 (time:Int))):=Lib.hid fun W L' sv' h=>h.blk.cell 0
 have hin:IntKind.i64.wrap ((now:Int)+(time:Int))=(now:Int)+time:=IntWalk.i64_in _ (by omega)
 have HL:Hid (∀W sv' L2,RFs W B mp time now L2 sv'→zam [mp] w W→L2=zed k (zct L k)→L2.length<200→Calls Tryz.prog 68 #[.pointer (some ⟨mp,0,none⟩),.agg #[.int .u64 (k:Int),.string s,.int .i64 ((now:Int)+time)]] W fun e w'=>e= .returned (.tuple #[])∧∃sv2,RFs w' B mp time now (zeg L ⟨k,s,(now:Int)+time⟩) sv2∧zam [mp] w w'):=Lib.hid fun W sv' L2 hR hT e hl=>
  (ref_lay ⟨k,s,(now:Int)+time⟩ W hR (HSZ.out W hT) hl (fun y hy=>by rw [e] at hy;exact delF_key hy)).mono fun e' w' ⟨he,sv2,h3,h4⟩=>⟨he,sv2,by rw [e] at h3;exact h3,hT.then h4⟩
 have HD:Hid (∀W sv' j,RFs W B mp time now L sv'→zam [mp] w W→j<L.length→Calls Tryz.prog 67 #[.pointer (some ⟨mp,0,none⟩),.int .i64 (j:Int)] W fun e w'=>e= .returned (.tuple #[])∧∃sv2,RFs w' B mp time now (L.eraseIdx j) sv2∧zam [mp] w w'):=Lib.hid fun W sv' j hR hT hj=>
  (ref_drop W hR (HSZ.out W hT) hj).mono fun e' w' ⟨he,sv2,h3,h4⟩=>⟨he,sv2,h3,hT.then h4⟩
 have hlen:=h.len
 obtain ⟨A,cap,hsv,_,hcap⟩:=h.form
 have hcase:=posF_cases (L:=L) k
 have HM1:Hid (0<L.length→zew (L.take 1)=(L[0]?).getD flZ):=Lib.hid fun h0=>by rw [minL_one h0,List.getElem?_eq_getElem h0];rfl
 have HR:=Lib.hid hr
 generalize posF L k=pk at*
 clear h hF2 hT2 hB hs hn h1 ht0 hr
 go_enter Tryz.func40,Tryz.ntmps40
 go_wp2_with fail
 refine HT.out.mono ?_
 rintro e w1 ⟨rfl,rfl⟩
 go_wp2_with fail
 refine HN.out.mono ?_
 rintro e w2 ⟨rfl,rfl⟩
 go_wp2_with fail
 generalize w.setCell ⟨mp,1,none⟩ (.int .i64 (now:Int))=W0 at*
 refine HFD.out.mono ?_
 rintro e w3 ⟨rfl,rfl⟩
 clear c1 f1 HFD HN HT
 rcases hcase with ⟨i,hi,rfl,hik⟩|⟨rfl,hf⟩
 ·have q1:decide ((i:Int)≥0)=true:=by simp
  obtain ⟨e1,e2⟩:=room_hit HR.out hi hik
  have HE:=Lib.hid e1
  have HE2:Hid ((L.eraseIdx i).length<200):=Lib.hid (by rw [e2];omega)
  have HD2:=Lib.hid (HD.out W0 _ i HF2.out HT2.out hi)
  clear e1 e2 hik
  go_wp2_with fail
  refine HD2.out.mono ?_
  rintro e w4 ⟨rfl,sv2,hF4,hT4⟩
  have c0:=HC0.out _ _ _ hF4
  have HL2:=Lib.hid (HL.out _ _ _ hF4 hT4 HE.out HE2.out)
  clear hF4 hT4
  go_wp2_with fail
  refine HL2.out.mono ?_
  rintro e w5 ⟨rfl,sv3,hF5,hT5⟩
  go_wp2
  go_ret
  exact ⟨rfl,sv3,hF5,hT5⟩
 ·have c2:W0.cell? ⟨mp,2,none⟩=some sv:=HF2.out.blk.cell 2
  subst hsv
  by_cases hfull:200≤L.length
  ·obtain ⟨g,cap',hv,_,_⟩:=HF2.out.row.form (by omega)
   injection hv with hA
   subst hA
   have HCL:=Lib.hid (fun j (hj:j<L.length)=>zc8 HF2.out.row hj)
   have HFU:=Lib.hid (fun l (hl:l<L.length) hm=>room_full HR.out hf (by omega) hl hm)
   have H1:Hid (L[0]'(by omega)=zew (L.take 1)):=Lib.hid (minL_one (by omega)).symm
   have HLS:=Lib.hid (fun l i h1 hi hl h=>least_step (L:=L) (l:=l) (i:=i) h1 hi hl h)
   clear hf HM1
   go_wp2_with fail
   go_loopw [12,13] (fun lv iv wi=>∃l i m:Nat,1≤i∧i≤L.length∧l<L.length∧lv= .int .i64 (l:Int)∧iv= .int .i64 (i:Int)∧wi=W0.drewN m∧Hid (∃hl:l<L.length,L[l]=zew (L.take i))) (fun _ iv _=>L.length- (intOf iv).toNat)
   case atStart=>exact ⟨0,1,0,Nat.le_refl _,by omega,by omega,rfl,rfl,rfl,Lib.hid ⟨by omega,H1.out⟩⟩
   case round=>
    obtain ⟨l,i,m,hi1,hi,hl,rfl,rfl,rfl,hmin⟩:=hrel
    by_cases hil:i<L.length
    ·have hil2:(i:Int)<L.length:=by omega
     have hl2:(l:Int)<L.length:=by omega
     obtain ⟨_,_,y2⟩:=HCL.out i hil
     obtain ⟨_,_,z2⟩:=HCL.out l hl
     by_cases hlt:L[i].til<L[l].til
     ·have d1:decide (L[i].til<L[l].til)=true:=by simpa using hlt
      have HA:Hid (∃hl:i<L.length,L[i]=zew (L.take (i+1))):=Lib.hid ⟨hil,(HLS.out l i hi1 hil hl hmin.out.2).1 hlt⟩
      clear hmin hlt
      generalize L[i].til=y at*
      generalize L[l].til=z at*
      go_wp2_with fail
      go_quiet (fail)
      go_wp2_with fail
      go_roundw
      case rel=>exact ⟨i,i+1,_,by omega,by omega,hil,rfl,by go_num,rfl,HA⟩
      case measure=>simp [intOf];omega
     ·have d1:decide (L[i].til<L[l].til)=false:=by simpa using hlt
      have HA:Hid (∃hl:l<L.length,L[l]=zew (L.take (i+1))):=Lib.hid ⟨hl,(HLS.out l i hi1 hil hl hmin.out.2).2 (by omega)⟩
      clear hmin hlt
      generalize L[i].til=y at*
      generalize L[l].til=z at*
      go_wp2_with fail
      go_quiet (fail)
      go_wp2_with fail
      go_roundw
      case rel=>exact ⟨l,i+1,_,by omega,by omega,hl,rfl,by go_num,rfl,HA⟩
      case measure=>simp [intOf];omega
    ·obtain rfl:i=L.length:=by omega
     have hge:¬(L.length:Int)<L.length:=by omega
     obtain ⟨_,hm⟩:=hmin.out
     rw [List.take_length] at hm
     obtain ⟨e1,e2⟩:=HFU.out l hl hm
     have HE:=Lib.hid e1
     have HE2:Hid ((L.eraseIdx l).length<200):=Lib.hid (by rw [e2];omega)
     have HD2:=Lib.hid (HD.out (W0.drewN m) _ l (HF2.out.turn ((zam.refl [] _).drewN m) (by simp) (by simp)) (HT2.out.drewN m) hl)
     clear e1 e2 hm hmin
     go_wp2_with fail
     refine HD2.out.mono ?_
     rintro e w4 ⟨rfl,sv2,hF4,hT4⟩
     have c0:=HC0.out _ _ _ hF4
     have HL2:=Lib.hid (HL.out _ _ _ hF4 hT4 HE.out HE2.out)
     clear hF4 hT4
     go_wp2_with fail
     refine HL2.out.mono ?_
     rintro e w5 ⟨rfl,sv3,hF5,hT5⟩
     go_wp2
     go_ret
     exact ⟨rfl,sv3,hF5,hT5⟩
  ·have c0:=HC0.out _ _ _ HF2.out
   have HL2:=Lib.hid (HL.out _ _ _ HF2.out HT2.out (room_free hf (by omega)) (by omega))
   clear hf
   go_wp2_with fail
   refine HL2.out.mono ?_
   rintro e w5 ⟨rfl,sv3,hF5,hT5⟩
   go_wp2
   go_ret
   exact ⟨rfl,sv3,hF5,hT5⟩
end Go.Proofs.YthkfhfldoniolaaGreatDoor
namespace Go.Proofs.YthkfhfldoniolaaGreatDoor
open Go.RowKit
def zcN (q:Fl→Bool) (L:List Fl) (k:Nat):List Fl:=L.take k++(L.drop k).filter q
section
variable {q:Fl→Bool} {L:List Fl}
theorem sweep_all:zcN q L L.length=L:=by simp [zcN]
theorem sweep_zero:zcN q L 0=L.filter q:=by simp [zcN]
theorem sweep_len {k:Nat}:(zcN q L k).length≤L.length:=by
 have:=List.length_filter_le q (L.drop k)
 simp only [zcN,List.length_append,List.length_take]
 rw [List.length_drop] at this
 omega
theorem sweep_at {j:Nat} (h:j<L.length):∃h2:j<(zcN q L (j+1)).length,(zcN q L (j+1))[j]=L[j]:=by
 refine ⟨by simp [zcN];omega, ?_⟩
 simp only [zcN]
 rw [List.getElem_append_left (by simp;omega),List.getElem_take]
theorem sweep_keep {j:Nat} (h:j<L.length) (hq:q L[j]=true):zcN q L (j+1)=zcN q L j:=by
 simp only [zcN]
 rw [List.drop_eq_getElem_cons h,List.filter_cons_of_pos hq,List.take_succ_eq_append_getElem h,List.append_assoc]
 rfl
theorem sweep_drop {j:Nat} (h:j<L.length) (hq:q L[j]=false):(zcN q L (j+1)).eraseIdx j=zcN q L j:=by
 simp only [zcN]
 rw [List.drop_eq_getElem_cons h,List.filter_cons_of_neg (by simp [hq]),List.take_succ_eq_append_getElem h]
 rw [List.eraseIdx_append_of_lt_length (by simp;omega),List.eraseIdx_append_of_length_le (by rw [List.length_take];omega)]
 simp [Nat.min_eq_left (Nat.le_of_lt h)]
end
def RefDr (B mp time last:Nat) (L:List Fl) (s:ByteArray) (w:World) (e:Ending) (w':World):Prop:=e= .returned (.int .i64 ((L.length- (L.filter fun x=> !decide (x.host=s)).length:Nat):Int))∧∃sv',RFs w' B mp time last (L.filter fun x=> !decide (x.host=s)) sv'∧zam [mp] w w'
set_option maxRecDepth 100000 in
theorem ref_dropH_ok {B mp time last:Nat} {L:List Fl} {sv:Value} (s:ByteArray) (w:World) (h:RFs w B mp time last L sv) (hB:B≤w.heap.size):
 Calls Tryz.prog 45 #[.pointer (some ⟨mp,0,none⟩),.string s] w (RefDr B mp time last L s w):=by
 have hlen:=h.len
 obtain ⟨A0,cap0,hsv,_,_⟩:=h.form
 subst hsv
 have HF2:=Lib.hid h
 have HT2:Hid (zam [mp] w w):=Lib.hid (zam.refl _ _)
 have c2:w.cell? ⟨mp,2,none⟩=some (.slice A0 L.length cap0):=h.blk.cell 2
 have HD:Hid (∀W L2 sv' j,RFs W B mp time last L2 sv'→zam [mp] w W→j<L2.length→Calls Tryz.prog 67 #[.pointer (some ⟨mp,0,none⟩),.int .i64 (j:Int)] W fun e w'=>e= .returned (.tuple #[])∧∃sv2,RFs w' B mp time last (L2.eraseIdx j) sv2∧zam [mp] w w'):=Lib.hid fun W L2 sv' j hR hT hj=>
  (ref_drop W hR (Nat.le_trans hB hT.size) hj).mono fun e' w' ⟨he,sv2,h3,h4⟩=>⟨he,sv2,h3,hT.then h4⟩
 have HRefDr:Hid (∀c W sv2,RFs W B mp time last (zcN (fun x=> !decide (x.host=s)) L 0) sv2→zam [mp] w W→c+((L.drop 0).filter (fun x=> !decide (x.host=s))).length=L.length→RefDr B mp time last L s w (.returned (.int .i64 (c:Int))) W):=Lib.hid fun c W sv2 h1 h2 h3=>by
  rw [sweep_zero] at h1
  rw [List.drop_zero] at h3
  have e:c=L.length- (L.filter (fun x=> !decide (x.host=s))).length:=by omega
  subst e
  exact ⟨rfl,sv2,h1,h2⟩
 have hw1:IntKind.i64.wrap ((L.length:Int) -1)=(L.length:Int) -1:=IntWalk.i64_in _ (by omega)
 clear h hB
 go_enter Tryz.func45,Tryz.ntmps45
 go_wp2_with fail
 clear c2
 go_loopw [5,6] (fun nv iv wi=>∃(k c:Nat) (i:Int) (sv':Value),k≤L.length∧nv= .int .i64 (c:Int)∧iv= .int .i64 i∧i=(k:Int) -1∧Hid (RFs wi B mp time last (zcN (fun x=> !decide (x.host=s)) L k) sv')∧Hid (zam [mp] w wi)∧Hid (c+((L.drop k).filter (fun x=> !decide (x.host=s))).length=L.length-k)) (fun _ iv _=>(intOf iv+1).toNat)
 case atStart=>exact ⟨L.length,0,_,_,Nat.le_refl _,rfl,rfl,rfl,Lib.hid (by rw [sweep_all];exact HF2.out),HT2,Lib.hid (by simp)⟩
 case round=>
  obtain ⟨k,c,i,sv',hk,rfl,rfl,hik,hF,hT,hc⟩:=hrel
  have hcl:c≤L.length:=by have:=hc.out;omega
  cases k with
  |zero=>
   obtain rfl:i= -1:=by omega
   clear hik
   have HP:=Lib.hid (HRefDr.out c _ _ hF.out hT.out (by have:=hc.out;simpa using this))
   clear hF hT hc
   go_wp2
   go_ret
   exact HP.out
  |succ j=>
   obtain rfl:i=(j:Int):=by omega
   clear hik
   have hj0:¬(j:Int)<0:=by omega
   obtain ⟨hj2,he⟩:=sweep_at (q:=(fun x=> !decide (x.host=s))) (L:=L) (j:=j) (by omega)
   have hn:=sweep_len (q:=(fun x=> !decide (x.host=s))) (L:=L) (k:=j+1)
   obtain ⟨g,cap,hv,_,_⟩:=hF.out.row.form (by omega)
   subst hv
   have c2:wr.cell? ⟨mp,2,none⟩=some (.slice (some ⟨g,0,none⟩) (zcN (fun x=> !decide (x.host=s)) L (j+1)).length cap):=hF.out.blk.cell 2
   obtain ⟨y0,y1,y2⟩:=zc8 hF.out.row hj2
   clear y0
   rw [he] at y1 y2
   have hjl:(j:Int)<(zcN (fun x=> !decide (x.host=s)) L (j+1)).length:=by omega
   have hwr:IntKind.i64.wrap ((j:Int) -1)=(j:Int) -1:=IntWalk.i64_in _ (by omega)
   have HD2:=Lib.hid (HD.out _ _ _ j hF.out hT.out hj2)
   by_cases hp:L[j].host=s
   ·have HS:=Lib.hid (sweep_drop (q:=(fun x=> !decide (x.host=s))) (L:=L) (j:=j) (by omega) (by simpa using hp))
    have HC:Hid (c+1+((L.drop j).filter (fun x=> !decide (x.host=s))).length=L.length-j):=Lib.hid (by
     have:=hc.out
     rw [List.drop_eq_getElem_cons (show j<L.length by omega),List.filter_cons_of_neg (by simpa using hp)]
     omega)
    rw [HS.out] at HD2
    have d1:(L[j].host.toList==s.toList)=true:=by rw [str_eq];simpa using hp
    clear hp hF hT hc hj2 he HS
    generalize L[j].host=yy at*
    generalize (zcN (fun x=> !decide (x.host=s)) L (j+1)).length=n at*
    go_wp2_with fail
    refine HD2.out.mono ?_
    rintro e w4 ⟨rfl,sv2,hF4,hT4⟩
    have HF4:=Lib.hid hF4
    have HT4:=Lib.hid hT4
    clear hF4 hT4
    go_wp2_with fail
    go_roundw
    case rel=>exact ⟨j,c+1,_,sv2,by omega,by go_num,rfl,by first|rfl|omega,HF4,HT4,HC⟩
    case measure=>simp [intOf]
   ·have HS:=Lib.hid (sweep_keep (q:=(fun x=> !decide (x.host=s))) (L:=L) (j:=j) (by omega) (by simpa using hp))
    have HC:Hid (c+((L.drop j).filter (fun x=> !decide (x.host=s))).length=L.length-j):=Lib.hid (by
     have:=hc.out
     rw [List.drop_eq_getElem_cons (show j<L.length by omega),List.filter_cons_of_pos (by simpa using hp)]
     simp only [List.length_cons]
     omega)
    have HF4:Hid (RFs wr B mp time last (zcN (fun x=> !decide (x.host=s)) L j) (.slice (some ⟨g,0,none⟩) (zcN (fun x=> !decide (x.host=s)) L (j+1)).length cap)):=Lib.hid (by rw [←HS.out];exact hF.out)
    have d1:(L[j].host.toList==s.toList)=false:=by rw [str_eq];simpa using hp
    clear hp hF hc hj2 he HS HD2
    generalize L[j].host=yy at*
    generalize (zcN (fun x=> !decide (x.host=s)) L (j+1)).length=n at*
    go_wp2_with fail
    go_roundw
    case rel=>exact ⟨j,c,_,_,by omega,rfl,rfl,by first|rfl|omega,HF4,hT,HC⟩
    case measure=>simp [intOf]
end Go.Proofs.YthkfhfldoniolaaGreatDoor
namespace Go.Proofs.YthkfhfldoniolaaGreatDoor
open Go.RowKit
def gotR (o:Option ByteArray):Value:=match o with
 |none=> .tuple #[.string ⟨#[]⟩,.bool false,.int .i64 0]
 |some s=> .tuple #[.string s,.bool true,.int .i64 0]
def RefGot (B mp time now:Nat) (L:List Fl) (k:Nat) (w:World) (e:Ending) (w':World):Prop:=e= .returned (gotR (ze1 L k now))∧∃sv',RFs w' B mp time now L sv'∧zam [mp] w w'
set_option maxRecDepth 100000 in
theorem ref_get_ok {B mp time last:Nat} {L:List Fl} {sv:Value} (k now:Nat) (w:World) (h:RFs w B mp time last L sv) (hr:zde L) (h1:last≤now) (h2:now≤1099511627776):
 Calls Tryz.prog 38 #[.pointer (some ⟨mp,0,none⟩),.int .u64 (k:Int),.int .i64 (now:Int)] w (RefGot B mp time now L k w):=by
 have HT:=Lib.hid (ref_tick (now:Int) w h)
 have ht0:zbL last (now:Int)=0:=by unfold zbL;rw [if_neg (by omega),if_neg (by omega)]
 rw [ht0] at HT
 have c1:w.cell? ⟨mp,1,none⟩=some (.int .i64 (last:Int)):=h.blk.cell 1
 have f1:=h.blk.frozen 1
 obtain ⟨hF2,hT2⟩:=h.tick now
 have HFD:=Lib.hid (ref_find k _ hF2)
 have HP:Hid (∀v,gotR (ze1 L k now)=v→RefGot B mp time now L k w (.returned v) (w.setCell ⟨mp,1,none⟩ (.int .i64 (now:Int)))):=Lib.hid fun v hv=>⟨by rw [hv],sv,hF2,hT2⟩
 have HF2:=Lib.hid hF2
 have hlen:=h.len
 have hcase:=posF_cases (L:=L) k
 have HR:=Lib.hid hr
 generalize posF L k=pk at*
 clear h hF2 hT2 h1 ht0 hr
 rcases hcase with ⟨i,hi,rfl,hik⟩|⟨rfl,hf⟩
 ·have hff:=findF_at HR.out hi
  rw [hik] at hff
  obtain ⟨g,cap,hv,_,_⟩:=HF2.out.row.form (by omega)
  subst hv
  have c2:(w.setCell ⟨mp,1,none⟩ (.int .i64 (now:Int))).cell? ⟨mp,2,none⟩=some (.slice (some ⟨g,0,none⟩) L.length cap):=HF2.out.blk.cell 2
  obtain ⟨y0,y1,y2⟩:=zc8 HF2.out.row hi
  clear y0
  have hi2:(i:Int)<L.length:=by omega
  have hi0:¬(i:Int)<0:=by omega
  have hg:gotR (ze1 L k now)=if L[i].til≤(now:Int) then .tuple #[.string ⟨#[]⟩,.bool false,.int .i64 0] else .tuple #[.string L[i].host,.bool true,.int .i64 0]:=by
   unfold ze1
   rw [hff]
   dsimp only
   by_cases hle:L[i].til≤(now:Int)
   ·rw [if_pos hle];first|rw [if_pos hle];rfl|simp [hle,gotR]
   ·rw [if_neg hle];first|rw [if_neg hle];rfl|simp [hle,gotR]
  rw [hg] at HP
  clear hg hff hik HF2 HR
  generalize L[i].til=yt at*
  generalize L[i].host=yh at*
  generalize L.length=n at*
  by_cases hle:yt≤(now:Int)
  ·have d1:decide (yt≤(now:Int))=true:=by simpa using hle
   rw [if_pos hle] at HP
   clear hle
   go_enter Tryz.func38,Tryz.ntmps38
   go_wp2_with fail
   refine HT.out.mono ?_
   rintro e w1 ⟨rfl,rfl⟩
   go_wp2_with fail
   generalize w.setCell ⟨mp,1,none⟩ (.int .i64 (now:Int))=W0 at*
   refine HFD.out.mono ?_
   rintro e w3 ⟨rfl,rfl⟩
   clear c1 f1 HFD HT
   go_wp2
   go_ret3
   exact HP.out _ rfl
  ·have d1:decide (yt≤(now:Int))=false:=by simpa using hle
   rw [if_neg hle] at HP
   clear hle
   go_enter Tryz.func38,Tryz.ntmps38
   go_wp2_with fail
   refine HT.out.mono ?_
   rintro e w1 ⟨rfl,rfl⟩
   go_wp2_with fail
   generalize w.setCell ⟨mp,1,none⟩ (.int .i64 (now:Int))=W0 at*
   refine HFD.out.mono ?_
   rintro e w3 ⟨rfl,rfl⟩
   clear c1 f1 HFD HT
   go_wp2
   go_ret3
   exact HP.out _ rfl
 ·have hg:gotR (ze1 L k now)= .tuple #[.string ⟨#[]⟩,.bool false,.int .i64 0]:=by
   unfold ze1
   rw [hf]
   rfl
  rw [hg] at HP
  clear hg hf HF2 HR
  go_enter Tryz.func38,Tryz.ntmps38
  go_wp2_with fail
  refine HT.out.mono ?_
  rintro e w1 ⟨rfl,rfl⟩
  go_wp2_with fail
  generalize w.setCell ⟨mp,1,none⟩ (.int .i64 (now:Int))=W0 at*
  refine HFD.out.mono ?_
  rintro e w3 ⟨rfl,rfl⟩
  clear c1 f1 HFD HT
  go_wp2
  go_ret3
  exact HP.out _ rfl
end Go.Proofs.YthkfhfldoniolaaGreatDoor
