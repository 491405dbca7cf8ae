/-
  Flows are sorted: the closure of List, slices.SortFunc, slices.SortedFunc. Flows in memory, and the walks of package flows: New, tick, List. The walks of package flows: room, Put. The walks of package flows: Get, remove (maps.DeleteFunc), Expire, Drop. The walks of package flows: remove, Expire, Drop. Package flows, act by act: what each answers, in one form.
-/
import Derived.Test.YthkfhfldoniolaaGreatDoorFlowPlain
import Derived.Test.YthkfhfldoniolaaGreatDoorTexts
import Derived.Test.YthkfhfldoniolaaGreatDoorShelf
import Derived.Shelf.SlSortCmp.WholeK
import Derived.Shelf.SlSortCmp.NoneTotal
import Derived.Test.YthkfhfldoniolaaGreatDoorLists
import Derived.Deep.RegionHeld3
import Derived.Deep.RegionLaw
import Derived.Lib.SlMapFilter
import Derived.Laws.IdiomRangeMap
import Derived.Deep.LoopGhost
set_option maxHeartbeats 4000000
namespace Go.Proofs.YthkfhfldoniolaaGreatDoor
open Go.RowKit Go.Sort Go.Shelf
def cfFl (x y:Fl):Int:=cmpN x.key y.key
def FlGrow (v:Int) (W:World) (e:Ending) (w':World):Prop:=e= .returned (.int .i64 v)∧∃q os',w'=grow (W.drewN q) os'
theorem closure_list (x y:Fl) (W:World):Calls Tryz.prog 194 #[flV x,flV y] W (FlGrow (cfFl x y) W):=by
 have HC:=fun W'=>Lib.hid (cmp_u64 x.key y.key W')
 unfold cfFl
 unfold IntQ at HC
 unfold flV
 generalize cmpN x.key y.key=c at*
 go_enter Tryz.func194,Tryz.ntmps194
 go_wp2_with fail
 refine (HC _).out.mono ?_
 rintro e w1 ⟨rfl,rfl⟩
 go_wp2
 go_ret
 exact ⟨rfl,0,_,by rw [alloc_eq_grow,alloc_eq_grow,grow_grow];rfl⟩
theorem lt_cfFl (x y:Fl):ltOf cfFl x y=decide (x.key<y.key):=by
 unfold ltOf cfFl cmpN
 by_cases h1:x.key<y.key
 ·simp [h1]
 ·by_cases h2:y.key<x.key<;>simp [h1,h2]
theorem swo_fl:SWO (ltOf cfFl) where
 irrefl x:=by rw [lt_cfFl];simp
 trans x y z h1 h2:=by rw [lt_cfFl] at*;simp at*;omega
 ntrans x y z h1 h2:=by rw [lt_cfFl] at*;simp at*;omega
theorem flsC_at (l:List Fl) (j:Nat):(zbr l)[j]? =(l[j/3]?).bind fun x=>(flC x)[j%3]? :=by
 by_cases h:j/3<l.length
 ·obtain ⟨h0,h1,h2⟩:=flsC_get h
  rw [List.getElem?_eq_getElem h]
  have e:j=j/3*3+j%3:=by omega
  have h3:j%3=0∨j%3=1∨j%3=2:=by omega
  rcases h3 with h3|h3|h3
  ·rw [h3] at e ⊢
   rw [Nat.add_zero] at e
   rw [←e] at h0
   rw [h0];rfl
  ·rw [h3] at e ⊢
   rw [←e] at h1
   rw [h1];rfl
  ·rw [h3] at e ⊢
   rw [←e] at h2
   rw [h2];rfl
 ·rw [List.getElem?_eq_none (show (zbr l).length≤j by rw [zbj];omega),List.getElem?_eq_none (show l.length≤j/3 by omega)]
  rfl
instance :Inhabited Fl:=⟨flZ⟩
theorem flatK_fl (l:List Fl):flatK flC 3 l.toArray=(zbr l).toArray:=by
 apply Array.ext
 ·simp [zbj]
 ·intro i h1 h2
  have hi:i<l.length*3:=by simpa using h1
  have hd:i/3<l.length:=by omega
  have hg:=flsC_at l i
  rw [List.getElem?_eq_getElem hd] at hg
  have hm:i%3<(flC l[i/3]).length:=by simp [flC];omega
  simp only [Option.bind_some,List.getElem?_eq_getElem hm] at hg
  have h3:i<(zbr l).length:=by rw [zbj];exact hi
  rw [List.getElem?_eq_getElem h3] at hg
  have hg':=Option.some.inj hg
  simp only [flatK,Array.getElem_map,Array.getElem_range,List.getElem_toArray]
  rw [hg']
  have e1:l.toArray[i/3]! =l[i/3]:=by simp [hd]
  rw [e1,getElem!_pos (flC l[i/3]) (i%3) hm]
theorem flatK_fla (d:Array Fl):flatK flC 3 d=(zbr d.toList).toArray:=by
 have:=flatK_fl d.toList
 simpa using this
def FlSorted (B g n cap:Nat) (L:List Fl) (w:World) (e:Ending) (w':World):Prop:=
 e= .returned (.tuple #[])∧w'.ownsRow B 72 3 (.slice (some ⟨g,0,none⟩) n cap) n (zbr L)∧w.grownBy w' (some g)
theorem sort_flows {B g n cap:Nat} {ys L:List Fl} (w:World) (ho:w.ownsRow B 72 3 (.slice (some ⟨g,0,none⟩) n cap) n (zbr ys)) (hn:n<4611686018427387904) (hp:ys.Perm L) (hr:zde L):
 Calls Tryz.prog 241 #[.slice (some ⟨g,0,none⟩) n cap,.func (.func 194) #[] #[]] w (FlSorted B g n cap L w):=by
 have hl:ys.length=n:=by have:=ho.1;rw [zbj] at this;omega
 subst hl
 have eg:∀args w,(callFunc 194 args).run Tryz.prog w= .ok (.enter 194 args) w:=enters_of Tryz.func194 (by kernel_rfl) rfl
 have hcmp:CmpLays Tryz.prog 194 #[] flC 3 cfFl g 0 ys.toArray.size w:=fun _ _ _ _ x y=>closure_list x y _
 have hH:HoldsK flC 3 w g 0 ys.toArray:=by
  unfold HoldsK
  rw [flatK_fl]
  exact zf9 ho
 have hcon:=AnyQ.slices_SortFunc Tryz.sortFlow 3 Tryz.isAgg72 Tryz.sizeOf72 flC (fun _=>rfl) (fun x v hv=>by simp [flC] at hv;rcases hv with rfl|rfl|rfl<;>rfl) cfFl swo_fl 194 #[] g 0 cap ys.toArray w eg hcmp hH (ho.lt g rfl).2 (by simpa using hn)
 change Calls Tryz.prog 241 _ _ _ at hcon
 refine (by simpa using hcon:Calls Tryz.prog 241 #[.slice (some ⟨g,0,none⟩) ys.length cap,.func (.func 194) #[] #[]] w _).mono ?_
 rintro e w' ⟨rfl,d',hpd,hs,n,os,rfl⟩
 have hsz:d'.size=ys.length:=by simpa using hpd.1
 have hperm:d'.toList.Perm ys:=by
  have:=hpd.2.2
  simp at this
  rwa [List.take_of_length_le (by simp [hsz])] at this
 have hsort:d'.toList.Pairwise fun a b=>¬b.key<a.key:=by
  rw [List.pairwise_iff_getElem]
  intro i j hi hj hij
  have:=hs i j (Nat.zero_le _) hij (by simpa [hsz] using hj)
  rw [lt_cfFl] at this
  simp only [Array.length_toList] at hi hj
  rw [getElem!_pos d' j hj,getElem!_pos d' i hi] at this
  simpa using this
 have hpL:=hperm.trans hp
 have hrise:zde d'.toList:=by
  have hnd:d'.toList.Nodup:=hpL.nodup_iff.2 (zfZ hr)
  refine (hsort.and hnd).imp_of_mem fun {a b} ha hb h=> ?_
  have:a.key≠b.key:=fun e=>h.2 (hr.inj (hpL.mem_iff.1 ha) (hpL.mem_iff.1 hb) e)
  omega
 have hEq:d'.toList=L:=rise_unique hrise hr hpL
 rw [←hEq]
 have:=own_put (ys:=zbr d'.toList) ho (by rw [zbj,zbj,hperm.length_eq]) n os
 unfold sortWorldK putRowK
 rw [flatK_fla]
 exact ⟨rfl,this⟩
def zd2 (L:List Fl) (w:World) (e:Ending) (w':World):Prop:=∃v,e= .returned v∧w'.ownsRow w.heap.size 72 3 v L.length (zbr L)∧Below w.heap.size w w'
theorem own_none_of {w:World} {B n cap:Nat} {e:TypeId} {size:Nat} {xs:List Value} (h:w.ownsRow B e size (.slice none n cap) n xs):n=0∧cap=0:=by
 rcases h.2 with ⟨hv,_⟩|⟨g,c,cur,hv,_⟩
 ·injection hv with _ h1 h2;exact ⟨h1,h2⟩
 ·injection hv with h1;cases h1
theorem own_zero_of {w:World} {B n cap:Nat} {g:Addr} {e:TypeId} {size:Nat} {xs:List Value} (h:w.ownsRow B e size (.slice (some g) n cap) n xs):g=⟨g.block,0,none⟩:=by
 rcases h.2 with ⟨hv,_⟩|⟨g',c,cur,hv,_⟩
 ·cases hv
 ·injection hv with h1;injection h1 with h1;rw [h1]
theorem sort_none (w:World):Calls Tryz.prog 241 #[.slice none 0 0,.func (.func 194) #[] #[]] w fun e w'=>e= .returned (.tuple #[])∧w=w':=by
 have h:=AnyF.slices_SortFunc_none Tryz.sortFlow none 0 (.func (.func 194) #[] #[]) w
 change Calls Tryz.prog 241 _ _ _ at h
 exact h.mono fun e w' ⟨h1,h2⟩=>⟨h1,h2.symm⟩
theorem sortedFlows_any (Bm b:Nat) (L:List Fl) (hlen:L.length≤1000) (w:World) (hBm:Bm<w.heap.size) (hc:w.cell? ⟨Bm,0,none⟩=some (.map (some b))) (hM:zbo w b L):
 Calls Tryz.prog 192 #[.func (.func 242) #[] #[.pointer (some ⟨Bm,0,none⟩)],.func (.func 194) #[] #[]] w (zd2 L w):=by
 have HC:=Lib.hid (flCollect_any Bm b L hlen w hBm hc hM)
 have hr:=Lib.hid hM.rise
 clear hc hM hBm
 go_enter Tryz.func192,Tryz.ntmps192
 go_wp2_with fail
 refine HC.out.mono ?_
 rintro e w1 ⟨v,ys,rfl,hp,ho,hb⟩
 have HP:=Lib.hid hp
 have HO:=Lib.hid ho
 have hyl:=hp.length_eq
 obtain ⟨A,cap,rfl,_⟩:=zai ho
 clear ho hp
 cases A with
 |none=>
  obtain ⟨h0,rfl⟩:=own_none_of HO.out
  have hL:L=[]:=List.eq_nil_of_length_eq_zero (by omega)
  subst hL
  have hy:ys=[]:=List.eq_nil_of_length_eq_zero h0
  subst hy
  clear hyl h0
  go_wp2_with fail
  refine (sort_none _).mono ?_
  rintro e w2 ⟨rfl,rfl⟩
  go_wp2
  go_ret
  exact ⟨_,rfl,HO.out,hb⟩
 |some g=>
  obtain ⟨gb,hgb⟩:∃gb:Nat,g=⟨gb,0,none⟩:=⟨_,own_zero_of HO.out⟩
  subst hgb
  have HSF:=Lib.hid (sort_flows (L:=L) w1 HO.out (by omega) HP.out hr.out)
  have HLN:=Lib.hid (fun (w2:World) (hg:w1.grownBy w2 (some gb))=>(hb.grown hg hb.size fun k hk=>by cases hk;exact (HO.out.lt gb rfl).1:Below w.heap.size w w2))
  unfold FlSorted at HSF
  rw [hyl] at HSF
  go_wp2_with fail
  refine HSF.out.mono ?_
  rintro e w2 ⟨rfl,ho2,hg2⟩
  have hb2:=HLN.out w2 hg2
  clear hyl
  go_wp2
  go_ret
  exact ⟨_,rfl,ho2,hb2⟩
end Go.Proofs.YthkfhfldoniolaaGreatDoor
namespace Go.Proofs.YthkfhfldoniolaaGreatDoor
open Go.RowKit
structure zaD (w:World) (fp mb time last:Nat) (L:List Fl):Prop where
 blk:Blk w fp 257 #[.int .i64 (time:Int),.int .i64 (last:Int),.map (some mb)]
 map:zbo w mb L
 len:L.length≤200
 time:time≤1000
 last:last≤1099511627776
section
variable {w w':World} {fp mb time last:Nat} {L:List Fl}
theorem zaD.ne (h:zaD w fp mb time last L):fp≠mb:=by
 rintro rfl
 obtain ⟨es,clock,hb,_⟩:=h.map.own
 have:=h.blk
 unfold Blk at this
 rw [hb] at this
 cases this
theorem zaD.turn {bs:List Nat} (h:zaD w fp mb time last L) (ht:zam bs w w') (h1:fp∉bs) (h2:mb∉bs):zaD w' fp mb time last L:=⟨ht.blk h.blk h1,h.map.turn ht h2,h.len,h.time,h.last⟩
theorem zaD.below (h:zaD w fp mb time last L) (hb:Below w.heap.size w w'):zaD w' fp mb time last L:=h.turn (zam.of_below (bs:=[]) hb) (by simp) (by simp)
theorem zaD.c0 (h:zaD w fp mb time last L):w.cell? ⟨fp,0,none⟩=some (.int .i64 (time:Int)):=h.blk.cell 0
theorem zaD.c1 (h:zaD w fp mb time last L):w.cell? ⟨fp,1,none⟩=some (.int .i64 (last:Int)):=h.blk.cell 1
theorem zaD.c2 (h:zaD w fp mb time last L):w.cell? ⟨fp,2,none⟩=some (.map (some mb)):=h.blk.cell 2
theorem zaD.tick (h:zaD w fp mb time last L) {now:Nat} (hn:now≤1099511627776):zaD (w.setCell ⟨fp,1,none⟩ (.int .i64 (now:Int))) fp mb time now L:=
 ⟨h.blk.zbk 1 _,h.map.turn ((zam.refl [fp] w).setCell (p:=⟨fp,1,none⟩) (.inl (by simp)) _) (by simpa using fun e:mb=fp=>h.ne e.symm),h.len,h.time,hn⟩
end
def zbL (last:Nat) (now:Int):Nat:=if now<0∨1099511627776<now then 2 else if now<last then 8 else 0
theorem tickE_ok {last:Nat} {now:Int} (h:zbL last now=0):∃n:Nat,now=(n:Int)∧last≤n∧n≤1099511627776:=by
 unfold zbL at h
 split at h
 ·cases h
 ·split at h
  ·cases h
  ·exact ⟨now.toNat,by omega,by omega,by omega⟩
structure ErrsF (ea:Nat→Addr) (w:World):Prop where
 c2:w.cell? ⟨gv 2,0,none⟩=some (.iface 355 (.pointer (some (ea (gv 2)))))
 c4:w.cell? ⟨gv 4,0,none⟩=some (.iface 355 (.pointer (some (ea (gv 4)))))
 c8:w.cell? ⟨gv 8,0,none⟩=some (.iface 355 (.pointer (some (ea (gv 8)))))
theorem ErrsF.below {ea:Nat→Addr} {w w':World} (h:ErrsF ea w) (hb:Below w.heap.size w w'):ErrsF ea w':=
 ⟨(hb.cell (p:=⟨gv 2,0,none⟩) (lt_of_cell h.c2)).trans h.c2,(hb.cell (p:=⟨gv 4,0,none⟩) (lt_of_cell h.c4)).trans h.c4,(hb.cell (p:=⟨gv 8,0,none⟩) (lt_of_cell h.c8)).trans h.c8⟩
def errB (ea:Nat→Addr) (c:Nat):Value:= .iface 355 (.pointer (some (ea (gv c))))
theorem maxtick_ways {now:Int} (h:now<0∨1099511627776<now):decide (now<0)=true∨(decide (now<0)=false∧decide (now>1099511627776)=true):=by
 simp only [decide_eq_true_eq,decide_eq_false_iff_not];omega
theorem tick_bad (ea:Nat→Addr) {fp mb time last:Nat} {L:List Fl} (now:Int) (w:World) (hE:ErrsF ea w) (h:zaD w fp mb time last L) (hn:zbL last now≠0):
 Calls Tryz.prog 185 #[.pointer (some ⟨fp,0,none⟩),.int .i64 now] w fun e w'=>e= .returned (errB ea (zbL last now))∧w=w':=by
 have c1:=h.c1
 have e2:=hE.c2
 have e8:=hE.c8
 dsimp only [gv] at e2 e8
 clear h hE
 by_cases h1:now<0∨1099511627776<now
 ·have ht:zbL last now=2:=by unfold zbL;rw [if_pos h1]
  rw [ht]
  have hw:=maxtick_ways h1
  clear h1 hn ht
  rcases hw with t1|⟨t1,t2⟩
  all_goals
   go_enter Tryz.func185,Tryz.ntmps185
   go_wp2
   go_ret
   exact ⟨rfl,rfl⟩
 ·have h2:now<last:=by
   rcases Int.lt_or_le now last with h2|h2
   ·exact h2
   ·exfalso;apply hn;unfold zbL;rw [if_neg h1,if_neg (by omega)]
  have ht:zbL last now=8:=by unfold zbL;rw [if_neg h1,if_pos h2]
  rw [ht]
  have t1:decide (now<0)=false:=by simp;omega
  have t2:decide (now>1099511627776)=false:=by simp;omega
  have t3:decide (now<(last:Int))=true:=by simpa using h2
  clear h1 hn ht h2
  go_enter Tryz.func185,Tryz.ntmps185
  go_wp2
  go_ret
  exact ⟨rfl,rfl⟩
theorem tick_ok {fp mb time last:Nat} {L:List Fl} (now:Nat) (w:World) (h:zaD w fp mb time last L) (h1:last≤now) (h2:now≤1099511627776):
 Calls Tryz.prog 185 #[.pointer (some ⟨fp,0,none⟩),.int .i64 (now:Int)] w fun e w'=>e= .returned .nilIface∧zaD w' fp mb time now L∧zam [fp] w w':=by
 have c1:=h.c1
 have f1:=h.blk.frozen 1
 have hlt:=h.blk.lt
 have t1:decide ((now:Int)<0)=false:=by simp
 have t2:decide ((now:Int)>1099511627776)=false:=by simp;omega
 have t3:decide (now<last)=false:=by simp;omega
 have HF:=Lib.hid (h.tick (now:=now) h2)
 have HT:=Lib.hid ((zam.refl [fp] w).setCell (p:=⟨fp,1,none⟩) (.inl (by simp)) (.int .i64 (now:Int)))
 clear h h1 h2
 go_enter Tryz.func185,Tryz.ntmps185
 go_wp2
 go_ret
 exact ⟨rfl,HF.out,HT.out⟩
def NewFlows (time:Nat) (w:World) (e:Ending) (w':World):Prop:=∃fp mb,e= .returned (.tuple #[.pointer (some ⟨fp,0,none⟩),.nilIface])∧zaD w' fp mb time 0 []∧w.heap.size≤fp∧w.heap.size≤mb∧Below w.heap.size w w'
theorem newFlows_ok (time:Nat) (w:World) (h1:1≤time) (h2:time≤1000):Calls Tryz.prog 133 #[.int .i64 (time:Int)] w (NewFlows time w):=by
 have hmm:= @run_makeMap Tryz.prog
 have t1:decide ((time:Int)<1)=false:=by simp;omega
 have t2:decide ((time:Int)>1000)=false:=by simp;omega
 have HM:=Lib.hid (zbo.made w)
 have HB:=Lib.hid (Blk.new (w.alloc (.map #[] 0)) 257 #[.int .i64 (time:Int),.int .i64 0,.map (some w.heap.size)])
 have hs:(w.alloc (.map #[] 0)).heap.size=w.heap.size+1:=by simp
 have HBl:Hid (Below w.heap.size w ((w.alloc (.map #[] 0)).alloc (.cells #[.int .i64 (time:Int),.int .i64 0,.map (some w.heap.size)] 257))):=Lib.hid (((Below.refl _ _).alloc (Nat.le_refl _) _).alloc (by simp) _)
 have HMB:Hid (zbo ((w.alloc (.map #[] 0)).alloc (.cells #[.int .i64 (time:Int),.int .i64 0,.map (some w.heap.size)] 257)) w.heap.size []):=Lib.hid (HM.out.below ((Below.refl _ _).alloc (Nat.le_refl _) _))
 go_enter Tryz.func133,Tryz.ntmps133
 go_wp2
 go_ret2
 exact ⟨w.heap.size+1,w.heap.size,rfl,⟨by have:=HB.out;rwa [hs] at this,HMB.out,by simp,h2,by omega⟩,by omega,Nat.le_refl _,HBl.out⟩
theorem list_any {fp mb time last:Nat} {L:List Fl} (w:World) (h:zaD w fp mb time last L):
 Calls Tryz.prog 155 #[.pointer (some ⟨fp,0,none⟩)] w (zd2 L w):=by
 have c2:=h.c2
 have hb:Below w.heap.size w (w.alloc (.cells #[.map (some mb)] 255)):=(Below.refl _ _).alloc (Nat.le_refl _) _
 have HS:=Lib.hid (sortedFlows_any w.heap.size mb L (by have:=h.len;omega) (w.alloc (.cells #[.map (some mb)] 255)) (by simp) ((Blk.new w _ _).cell 0) (h.map.below hb))
 unfold zd2 at HS
 clear h
 go_enter Tryz.func155,Tryz.ntmps155
 go_wp2_with fail
 refine (flvalues_any _ _).mono ?_
 rintro e w1 ⟨rfl,rfl⟩
 go_wp2_with fail
 refine HS.out.mono ?_
 rintro e w2 ⟨v,rfl,ho,hb2⟩
 have hb3:=zaa hb hb2
 go_wp2
 go_ret
 exact ⟨v,rfl,zcQ ho (by simp),hb3⟩
end Go.Proofs.YthkfhfldoniolaaGreatDoor
namespace Go.Proofs.YthkfhfldoniolaaGreatDoor
open Go.RowKit
def minF:List Fl→Fl→Fl
 |[],m=>m
 |x::r,m=>minF r (if x.til<m.til then x else m)
theorem minF_snoc (l:List Fl) (x m:Fl):minF (l++[x]) m=if x.til<(minF l m).til then x else minF l m:=by
 induction l generalizing m with
 |nil=>rfl
 |cons y r ih=>exact ih _
theorem minF_mem (l:List Fl) (m:Fl):minF l m=m∨minF l m∈l:=by
 induction l generalizing m with
 |nil=>exact .inl rfl
 |cons y r ih=>
  rcases ih (if y.til<m.til then y else m) with h|h
  ·rw [minF,h]
   split
   ·exact .inr (List.mem_cons_self ..)
   ·exact .inl rfl
  ·exact .inr (List.mem_cons_of_mem _ h)
def zew (L:List Fl):Fl:=match L with|[]=>flZ|x::r=>minF r x
def zct (L:List Fl) (k:Nat):List Fl:=if (findF L k).isSome=true∨L.length<200 then L else zed (zew L).key L
def zeg (L:List Fl) (x:Fl):List Fl:=insF x (zed x.key (zct L x.key))
theorem minL_mem {L:List Fl} (h:L≠[]):zew L∈L:=by
 cases L with
 |nil=>exact absurd rfl h
 |cons x r=>
  rcases minF_mem r x with h1|h1
  ·show minF r x∈_;rw [h1];exact List.mem_cons_self ..
  ·exact List.mem_cons_of_mem _ h1
theorem closure_room (x y:Fl) (W:World):Calls Tryz.prog 236 #[flV x,flV y] W fun e w'=>e= .returned (.int .i64 (cmpI x.til y.til))∧Below W.heap.size W w':=by
 have HC:=fun W'=>Lib.hid (cmp_int x.til y.til W')
 unfold IntQ at HC
 unfold flV
 generalize cmpI x.til y.til=c at*
 go_enter Tryz.func236,Tryz.ntmps236
 go_wp2_with fail
 refine (HC _).out.mono ?_
 rintro e w1 ⟨rfl,rfl⟩
 go_wp2
 go_ret
 exact ⟨rfl,((Below.refl _ _).alloc (Nat.le_refl _) _).alloc (by simp) _⟩
theorem cmpI_neg (a b:Int):decide (cmpI a b<0)=decide (a<b):=by
 unfold cmpI
 by_cases h:a<b
 ·simp [h]
 ·by_cases h2:b<a<;>simp [h,h2]
theorem minL_succ {L:List Fl} {k:Nat} (h1:1≤k) (hk:k<L.length):zew (L.take (k+1))=if L[k].til<(zew (L.take k)).til then L[k] else zew (L.take k):=by
 rw [List.take_succ_eq_append_getElem hk]
 cases L with
 |nil=>simp at hk
 |cons x r=>
  obtain ⟨j,rfl⟩:∃j,k=j+1:=⟨k-1,by omega⟩
  show minF (r.take j++[_]) x=_
  rw [minF_snoc]
  rfl
theorem minL_one {L:List Fl} (h:0<L.length):zew (L.take 1)=L[0]:=by
 cases L with
 |nil=>simp at h
 |cons x r=>rfl
theorem flBlk_at {w:World} {g n cap B:Nat} {L:List Fl} (h:w.ownsRow B 72 3 (.slice (some ⟨g,0,none⟩) n cap) n (zbr L)) {k:Nat} (hk:k<L.length):
 w.cell? ⟨g,k*3,none⟩=some (.int .u64 (L[k].key:Int))∧w.cell? ⟨g,k*3+1,none⟩=some (.string L[k].host)∧w.cell? ⟨g,k*3+2,none⟩=some (.int .i64 L[k].til):=by
 obtain ⟨h0,h1,h2⟩:=flsC_get hk
 have hl:=h.1
 rw [zbj] at hl
 refine ⟨?_, ?_, ?_⟩
 ·rw [h.cellAt (k*3) (by omega)];exact h0
 ·rw [h.cellAt (k*3+1) (by omega)];exact h1
 ·rw [h.cellAt (k*3+2) (by omega)];exact h2
def MinPost (x:Fl) (w:World) (e:Ending) (w':World):Prop:=e= .returned (flV x)∧Below w.heap.size w w'
theorem zc8 {w:World} {g n cap B:Nat} {L:List Fl} (h:w.ownsRow B 72 3 (.slice (some ⟨g,0,none⟩) n cap) n (zbr L)) {k:Nat} (hk:k<L.length):zdM w g (k*3) L[k]:=by
 obtain ⟨h0,h1,h2⟩:=flBlk_at h hk
 exact ⟨h0,h1,h2⟩
theorem zdM.blk {w:World} {g:Nat} {t:TypeId} {x:Fl} (h:Blk w g t (flC x).toArray):zdM w g 0 x:=⟨h.cell 0,h.cell 1,h.cell 2⟩
set_option maxRecDepth 100000 in
theorem minFlows_any (g cap B:Nat) (L:List Fl) (w:World) (ho:w.ownsRow B 72 3 (.slice (some ⟨g,0,none⟩) L.length cap) L.length (zbr L)) (h0:0<L.length) (hl:L.length≤1000):
 Calls Tryz.prog 235 #[.slice (some ⟨g,0,none⟩) L.length cap,.func (.func 236) #[] #[]] w (MinPost (zew L) w):=by
 have HO:Hid (∀k (h:k<L.length) W,Below w.heap.size w W→zdM W g (k*3) L[k]):=Lib.hid fun k h W hW=>zc8 (own_below ho hW) h
 have t0:decide ((L.length:Int)<1)=false:=by simp;omega
 have HN:=Lib.hid (fun k (h1:1≤k) (h2:k<L.length)=>minL_succ h1 h2)
 have H1:=Lib.hid (minL_one h0)
 have HE:Hid (zew (L.take L.length)=zew L):=Lib.hid (by rw [List.take_length])
 have hbZ:Below w.heap.size w (w.alloc (.cells #[.int .u64 0,.string ⟨#[]⟩,.int .i64 0] 72)):=(Below.refl _ _).alloc (Nat.le_refl _) _
 obtain ⟨z0,z1,z2⟩:=HO.out 0 h0 _ hbZ
 rw [Nat.zero_mul] at z0 z1 z2
 have hbA:=hbZ.alloc hbZ.size (.cells (flC L[0]).toArray 72)
 have HBM:=Lib.hid (Blk.new (w.alloc (.cells #[.int .u64 0,.string ⟨#[]⟩,.int .i64 0] 72)) 72 (flC L[0]).toArray)
 have HBZ:=Lib.hid ((Blk.new w 72 #[.int .u64 0,.string ⟨#[]⟩,.int .i64 0]).alloc (.cells (flC L[0]).toArray 72))
 have hs:(w.alloc (.cells #[.int .u64 0,.string ⟨#[]⟩,.int .i64 0] 72)).heap.size=w.heap.size+1:=by simp
 rw [hs,←H1.out] at HBM
 rw [←H1.out] at HBZ hbA
 rw [←H1.out] at z0 z1 z2
 clear ho hbZ
 go_enter Tryz.func235,Tryz.ntmps235
 go_wp2_with fail
 go_loopg [6] L.length (fun gk iv wr=>∃k:Nat,gk+k=L.length+1∧1≤k∧k≤L.length∧iv= .int .i64 (k:Int)∧Hid (Blk wr (w.heap.size+1) 72 (flC (zew (L.take k))).toArray)∧Hid (Blk wr w.heap.size 72 #[.int .u64 0,.string ⟨#[]⟩,.int .i64 0])∧Below w.heap.size w wr)
 case atStart=>exact ⟨1,by omega,Nat.le_refl _,by omega,rfl,HBM,HBZ,hbA⟩
 case round=>
  obtain ⟨k,hgk,hk1,hkl,rfl,hBm,hBz,hb⟩:=hrel
  clear z0 z1 z2
  by_cases hlt:k<L.length
  ·have hlt2:(k:Int)<L.length:=by omega
   obtain ⟨x0,x1,x2⟩:=HO.out k hlt wr hb
   obtain ⟨m0,m1,m2⟩:=zdM.blk hBm.out
   have HNk:=Lib.hid (HN.out k hk1 hlt)
   have HX:Hid (∀W,Below w.heap.size w W→zdM W g (k*3) L[k]):=Lib.hid fun W hW=>HO.out k hlt W hW
   generalize L[k]=x at*
   generalize hmk:zew (L.take k)=m at*
   have HC:=Lib.hid (fun W=>closure_room x m W)
   have hneg:=cmpI_neg x.til m.til
   unfold flV at HC
   clear hmk
   generalize cmpI x.til m.til=cv at*
   have HK:Hid (∀W,Below wr.heap.size wr W→W.cell? ⟨g,k*3,none⟩=some (.int .u64 (x.key:Int))∧W.cell? ⟨g,k*3+1,none⟩=some (.string x.host)∧W.cell? ⟨g,k*3+2,none⟩=some (.int .i64 x.til)∧W.cell? ⟨w.heap.size+1,0,none⟩=some (.int .u64 (m.key:Int))∧W.cell? ⟨w.heap.size+1,1,none⟩=some (.string m.host)∧W.cell? ⟨w.heap.size+1,2,none⟩=some (.int .i64 m.til)):=Lib.hid fun W hW=>by
    obtain ⟨a0,a1,a2⟩:=HX.out W (zaa hb hW)
    obtain ⟨b0,b1,b2⟩:=zdM.blk (hBm.out.below hW hBm.out.lt)
    exact ⟨a0,a1,a2,b0,b1,b2⟩
   by_cases hc:x.til<m.til
   ·rw [if_pos hc] at HNk
    rw [decide_eq_true hc] at hneg
    go_wp2_with fail
    go_region_held3 (fun w'=>w'.cell? ⟨g,k*3,none⟩=some (.int .u64 (x.key:Int))∧w'.cell? ⟨g,k*3+1,none⟩=some (.string x.host)∧w'.cell? ⟨g,k*3+2,none⟩=some (.int .i64 x.til)∧w'.cell? ⟨w.heap.size+1,0,none⟩=some (.int .u64 (m.key:Int))∧w'.cell? ⟨w.heap.size+1,1,none⟩=some (.string m.host)∧w'.cell? ⟨w.heap.size+1,2,none⟩=some (.int .i64 m.til)) (first|exact ⟨x0,x1,x2,m0,m1,m2⟩|exact HK.out _ (zab hb1)|go_keep)
     (first|(go_at_call 236;refine (HC.out _).mono ?_;rintro e w1 ⟨rfl,hb1⟩))
    have hbr:Below wr.heap.size wr w1:=zab hb1
    obtain ⟨y0,y1,y2,n0,n1,n2⟩:=HK.out _ hbr
    have hB1:=hBm.out.below hbr hBm.out.lt
    have HBz:=Lib.hid (hBz.out.below hbr hBz.out.lt)
    have hb2:=zaa hb hbr
    have f0:=hB1.frozen 0
    have f1:=hB1.frozen 1
    have f2:=hB1.frozen 2
    have HB3:=Lib.hid (((hB1.zbk 0 (.int .u64 (x.key:Int))).zbk 1 (.string x.host)).zbk 2 (.int .i64 x.til))
    have HBz3:=Lib.hid (((HBz.out.far (p:=⟨w.heap.size+1,0,none⟩) (by simp) (.int .u64 (x.key:Int))).far (p:=⟨w.heap.size+1,1,none⟩) (by simp) (.string x.host)).far (p:=⟨w.heap.size+1,2,none⟩) (by simp) (.int .i64 x.til))
    have hb3:=((hb2.setCell (p:=⟨w.heap.size+1,0,none⟩) (by simp) (.int .u64 (x.key:Int))).setCell (p:=⟨w.heap.size+1,1,none⟩) (by simp) (.string x.host)).setCell (p:=⟨w.heap.size+1,2,none⟩) (by simp) (.int .i64 x.til)
    clear hB1 hc hBm hBz hb1
    go_wp2_with fail
    go_roundg (L.length-k)
    case rel=>exact ⟨k+1,by omega,by omega,by omega,by go_num,by rw [HNk.out];exact HB3,HBz3,hb3⟩
    case measure=>omega
   ·rw [if_neg hc] at HNk
    rw [decide_eq_false hc] at hneg
    go_wp2_with fail
    go_region_held3 (fun w'=>w'.cell? ⟨g,k*3,none⟩=some (.int .u64 (x.key:Int))∧w'.cell? ⟨g,k*3+1,none⟩=some (.string x.host)∧w'.cell? ⟨g,k*3+2,none⟩=some (.int .i64 x.til)∧w'.cell? ⟨w.heap.size+1,0,none⟩=some (.int .u64 (m.key:Int))∧w'.cell? ⟨w.heap.size+1,1,none⟩=some (.string m.host)∧w'.cell? ⟨w.heap.size+1,2,none⟩=some (.int .i64 m.til)) (first|exact ⟨x0,x1,x2,m0,m1,m2⟩|exact HK.out _ (zab hb1)|go_keep)
     (first|(go_at_call 236;refine (HC.out _).mono ?_;rintro e w1 ⟨rfl,hb1⟩))
    have hbr:Below wr.heap.size wr w1:=zab hb1
    obtain ⟨y0,y1,y2,n0,n1,n2⟩:=HK.out _ hbr
    have hB1:=hBm.out.below hbr hBm.out.lt
    have HBz:=Lib.hid (hBz.out.below hbr hBz.out.lt)
    have hb2:=zaa hb hbr
    have HB3:=Lib.hid hB1
    clear hB1 hc hBm hBz hb1
    go_wp2_with fail
    go_roundg (L.length-k)
    case rel=>exact ⟨k+1,by omega,by omega,by omega,by go_num,by rw [HNk.out];exact HB3,HBz,hb2⟩
    case measure=>omega
  ·obtain rfl:k=L.length:=by omega
   have hge:¬((L.length:Int)<L.length):=by omega
   rw [HE.out] at hBm
   obtain ⟨m0,m1,m2⟩:=zdM.blk hBm.out
   have HP:Hid (∀W e,e= .returned (flV (zew L))→Below w.heap.size w W→MinPost (zew L) w e W):=Lib.hid fun W e h1 h2=>⟨h1,h2⟩
   unfold flV at HP
   generalize zew L=m at*
   have r0:wr.cell? ⟨w.heap.size,0,none⟩=some (.int .u64 0):=hBz.out.cell 0
   have r1:wr.cell? ⟨w.heap.size,1,none⟩=some (.string ⟨#[]⟩):=hBz.out.cell 1
   have r2:wr.cell? ⟨w.heap.size,2,none⟩=some (.int .i64 0):=hBz.out.cell 2
   have f0:=hBz.out.frozen 0
   have f1:=hBz.out.frozen 1
   have f2:=hBz.out.frozen 2
   have HBf:=Lib.hid (((hBz.out.zbk 0 (.int .u64 (m.key:Int))).zbk 1 (.string m.host)).zbk 2 (.int .i64 m.til))
   have hb3:=((hb.setCell (p:=⟨w.heap.size,0,none⟩) (by simp) (.int .u64 (m.key:Int))).setCell (p:=⟨w.heap.size,1,none⟩) (by simp) (.string m.host)).setCell (p:=⟨w.heap.size,2,none⟩) (by simp) (.int .i64 m.til)
   clear hBm hBz
   go_wp2
   refine bodyPost_ret (results_cell_row (P:=Tryz.prog) rfl _ _ w.heap.size _ _ (0,0) _ rfl HBf.out Tryz.underlying72 rfl (by kernel_rfl)) rfl ?_
   exact HP.out _ _ rfl hb3
set_option maxRecDepth 100000 in
theorem room_keep {fp mb time last:Nat} {L:List Fl} (k:Nat) (w:World) (h:zaD w fp mb time last L) (hU:U64 k) (hk:(findF L k).isSome=true∨L.length<200):
 Calls Tryz.prog 189 #[.pointer (some ⟨fp,0,none⟩),.int .u64 (k:Int)] w fun e w'=>e= .returned (.tuple #[])∧Below w.heap.size w w':=by
 have c2:=h.c2
 have hlt:=h.blk.lt
 have hM:=h.map
 have hw:((findF L k).isSome=true)∨((findF L k).isSome=false∧decide ((L.length:Int)<200)=true):=by
  cases hs:(findF L k).isSome with
  |true=>exact .inl rfl
  |false=>
   rw [hs] at hk
   simp at hk
   exact .inr ⟨rfl,by simp;omega⟩
 have HL:Hid (∀o,zbo (w.alloc o) mb L):=Lib.hid fun o=>hM.below ((Below.refl _ _).alloc (Nat.le_refl _) o)
 obtain ⟨y,hy⟩:∃y,(findF L k).getD flZ=y:=⟨_,rfl⟩
 obtain ⟨bs,hbs⟩:∃y,(findF L k).isSome=y:=⟨_,rfl⟩
 rw [hbs] at hw
 have HY:=Lib.hid hy
 have HS:=Lib.hid hbs
 clear h hk hy hbs
 rcases hw with rfl|⟨rfl,t1⟩
 ·go_enter Tryz.func189,Tryz.ntmps189
  go_wp2_with (first
   |(at_lookup;refine zeN rfl _ _ rfl rfl hM k rfl hU y HY.out true HS.out ?_)
   |fail)
  refine bodyPost_ret (results_none rfl _ _ _) rfl ?_
  exact ⟨rfl,(Below.refl _ _).alloc (Nat.le_refl _) _⟩
 ·go_enter Tryz.func189,Tryz.ntmps189
  go_wp2_with (first
   |(at_lookup;refine zeN rfl _ _ rfl rfl hM k rfl hU y HY.out false HS.out ?_)
   |(at_len;go_must (refine wp_fl_lenG rfl _ rfl rfl (HL.out _) ?_))
   |fail)
  refine bodyPost_ret (results_none rfl _ _ _) rfl ?_
  exact ⟨rfl,(Below.refl _ _).alloc (Nat.le_refl _) _⟩
def RoomPost (fp mb time last:Nat) (L':List Fl) (w:World) (e:Ending) (w':World):Prop:=e= .returned (.tuple #[])∧zaD w' fp mb time last L'∧zam [mb] w w'
set_option maxRecDepth 100000 in
theorem room_drop {fp mb time last:Nat} {L:List Fl} (k:Nat) (w:World) (h:zaD w fp mb time last L) (hU:U64 k) (hk:findF L k=none) (hl:200≤L.length):
 Calls Tryz.prog 189 #[.pointer (some ⟨fp,0,none⟩),.int .u64 (k:Int)] w (RoomPost fp mb time last (zed (zew L).key L) w):=by
 have c2:=h.c2
 have hlt:=h.blk.lt
 have hM:=h.map
 have hl200:=h.len
 have t1:decide ((L.length:Int)<200)=false:=by simp;omega
 have h0:L≠[]:=fun e=>by rw [e] at hl;simp at hl
 have hl1:0<L.length:=by omega
 have hUm:U64 (zew L).key:=hM.u64 _ (minL_mem h0)
 have HL:Hid (∀o,zbo (w.alloc o) mb L):=Lib.hid fun o=>hM.below ((Below.refl _ _).alloc (Nat.le_refl _) o)
 have HLI:Hid (∀W,Below w.heap.size w W→Calls Tryz.prog 155 #[.pointer (some ⟨fp,0,none⟩)] W (zd2 L W)):=Lib.hid fun W hW=>list_any W (h.below hW)
 have HMI:Hid (∀g cap B W,W.ownsRow B 72 3 (.slice (some ⟨g,0,none⟩) L.length cap) L.length (zbr L)→Calls Tryz.prog 235 #[.slice (some ⟨g,0,none⟩) L.length cap,.func (.func 236) #[] #[]] W (MinPost (zew L) W)):=Lib.hid fun g cap B W ho=>minFlows_any g cap B L W ho (by omega) (by omega)
 have HF:Hid (∀W,Below w.heap.size w W→∃W2,(Builtin.delete_ #[255,55] 0 #[.map (some mb),.int .u64 ((zew L).key:Int)]).run Tryz.prog W= .ok (.tuple #[]) W2∧zbo W2 mb (zed (zew L).key L)∧W.grownBy W2 (some mb)):=Lib.hid fun W hW=>(hM.below hW).del hUm _
 have HY:Hid ((findF L k).getD flZ=flZ):=Lib.hid (by rw [hk];rfl)
 have HS:Hid ((findF L k).isSome=false):=Lib.hid (by rw [hk];rfl)
 have HR:Hid (∀W W2,Below w.heap.size w W→zbo W2 mb (zed (zew L).key L)→W.grownBy W2 (some mb)→zaD W2 fp mb time last (zed (zew L).key L)∧zam [mb] w W2):=Lib.hid fun W W2 hW h2 hg=>by
  have ht:zam [mb] w W2:=(zam.of_below hW).then (zam.zaE hg fun g e=>by cases e;simp)
  exact ⟨⟨ht.blk h.blk (by simpa using h.ne),h2,Nat.le_trans (List.length_filter_le _ _) h.len,h.time,h.last⟩,ht⟩
 unfold MinPost flV at HMI
 unfold zd2 at HLI
 clear h hk hl
 generalize zew L=m at*
 go_enter Tryz.func189,Tryz.ntmps189
 go_wp2_with (first
  |(at_lookup;refine zeN rfl _ _ rfl rfl hM k rfl hU flZ HY.out false HS.out ?_)
  |(at_len;go_must (refine wp_fl_lenG rfl _ rfl rfl (HL.out _) ?_))
  |fail)
 have hb1:Below w.heap.size w (w.alloc (.cells #[.int .u64 (flZ.key:Int),.string flZ.host,.int .i64 flZ.til] 72)):=(Below.refl _ _).alloc (Nat.le_refl _) _
 refine (HLI.out _ hb1).mono ?_
 rintro e w2 ⟨v,rfl,ho,hb2⟩
 have hb12:=zaa hb1 hb2
 obtain ⟨g,cap,hv,_,_⟩:=ho.form hl1
 subst hv
 have HMi:=Lib.hid (HMI.out g cap _ w2 ho)
 clear ho
 go_wp2_with fail
 refine HMi.out.mono ?_
 rintro e w3 ⟨rfl,hb3⟩
 have hb13:=zaa hb12 hb3
 have hc3:(w3.alloc (.cells #[.int .u64 (m.key:Int),.string m.host,.int .i64 m.til] 72)).cell? ⟨fp,2,none⟩=some (.map (some mb)):=((hb13.alloc hb13.size _).cell (p:=⟨fp,2,none⟩) hlt).trans c2
 have hb4:=zad (hb13.alloc hb13.size (.cells #[.int .u64 (m.key:Int),.string m.host,.int .i64 m.til] 72))
 have HM4:=Lib.hid (HF.out _ hb4)
 have HM5:Hid (zbo ((w3.alloc (.cells #[.int .u64 (m.key:Int),.string m.host,.int .i64 m.til] 72)).drew) mb L):=Lib.hid (hM.below hb4)
 have HB4:=Lib.hid hb4
 clear hb4 hb1 hb2 hb3 hb12
 go_wp2_with fail
 go_region_law ((refine step_fl_del rfl _ _ rfl (by simp [Act.eval]) HM5.out m.key (by simp [Act.eval]) hUm ?_
                 intro w5 hM6 hg6))
 all_goals
  obtain ⟨hR6,hT6⟩:=HR.out _ _ HB4.out hM6 hg6
  clear hM6 hg6
  go_wp2
  go_end0
  exact ⟨rfl,hR6,hT6⟩
def roomE (fp mb time last:Nat) (L:List Fl) (k:Nat) (w:World) (e:Ending) (w':World):Prop:=e= .returned (.tuple #[])∧zaD w' fp mb time last (zct L k)∧zam [mb] w w'
theorem room_any {fp mb time last:Nat} {L:List Fl} (k:Nat) (w:World) (h:zaD w fp mb time last L) (hU:U64 k):Calls Tryz.prog 189 #[.pointer (some ⟨fp,0,none⟩),.int .u64 (k:Int)] w (roomE fp mb time last L k w):=by
 by_cases hk:(findF L k).isSome=true∨L.length<200
 ·refine (room_keep k w h hU hk).mono fun e w' ⟨h1,h2⟩=>⟨h1, ?_,zam.of_below h2⟩
  rw [zct,if_pos hk]
  exact h.below h2
 ·simp only [not_or,Bool.not_eq_true,Option.isSome_eq_false_iff,Option.isNone_iff_eq_none] at hk
  have h2:=room_drop k w h hU hk.1 (by omega)
  refine h2.mono fun e w' ⟨h1,h3,h4⟩=>⟨h1, ?_,h4⟩
  rw [zct,if_neg (by rw [hk.1];simp;omega)]
  exact h3
theorem roomF_rise {L:List Fl} (h:zde L) (k:Nat):zde (zct L k):=by
 unfold zct
 split
 ·exact h
 ·exact h.del _
theorem putF_len {L:List Fl} (h:zde L) (hl:L.length≤200) (x:Fl):(zeg L x).length≤200:=by
 unfold zeg
 rw [zfh]
 cases hf:findF L x.key with
 |some y=>
  have e:zct L x.key=L:=by unfold zct;rw [if_pos (.inl (by rw [hf];rfl))]
  have:=delF_length h (zcZ hf).1
  rw [(zcZ hf).2] at this
  rw [e];omega
 |none=>
  by_cases hlt:L.length<200
  ·have e:zct L x.key=L:=by unfold zct;rw [if_pos (.inr hlt)]
   have:=List.length_filter_le (fun y=> !decide (y.key=x.key)) L
   rw [e]
   show (List.filter (fun y=> !decide (y.key=x.key)) L).length+1≤200
   omega
  ·have e:zct L x.key=zed (zew L).key L:=by unfold zct;rw [if_neg (by rw [hf];simp;omega)]
   have h0:L≠[]:=fun e=>by rw [e] at hlt;simp at hlt
   have h1:=delF_length h (minL_mem h0)
   have:=List.length_filter_le (fun y=> !decide (y.key=x.key)) (zed (zew L).key L)
   rw [e]
   show (List.filter (fun y=> !decide (y.key=x.key)) (zed (zew L).key L)).length+1≤200
   omega
def PutOk (fp mb time now:Nat) (L':List Fl) (w:World) (e:Ending) (w':World):Prop:=e= .returned .nilIface∧zaD w' fp mb time now L'∧zam [fp,mb] w w'
set_option maxRecDepth 100000 in
theorem put_ok {fp mb time last:Nat} {L:List Fl} (k:Nat) (s:ByteArray) (now:Nat) (w:World) (h:zaD w fp mb time last L) (hU:U64 k) (hs:s.size≤maxLen) (hn:isName s=true) (h1:last≤now) (h2:now≤1099511627776):
 Calls Tryz.prog 151 #[.pointer (some ⟨fp,0,none⟩),.int .u64 (k:Int),.string s,.int .i64 (now:Int)] w (PutOk fp mb time now (zeg L ⟨k,s,(now:Int)+time⟩) w):=by
 have HN:=Lib.hid (fl_name s hs _ hn w)
 have HT:Hid (∀W,Below w.heap.size w W→Calls Tryz.prog 185 #[.pointer (some ⟨fp,0,none⟩),.int .i64 (now:Int)] W fun e w'=>e= .returned .nilIface∧zaD w' fp mb time now L∧zam [fp] W w'):=Lib.hid fun W hW=>tick_ok now W (h.below hW) h1 h2
 have htm:=h.time
 have hlen:=putF_len h.map.rise h.len ⟨k,s,(now:Int)+time⟩
 clear h hn hs
 go_enter Tryz.func151,Tryz.ntmps151
 go_wp2_with fail
 refine HN.out.mono ?_
 rintro e w1 ⟨rfl,hb1⟩
 go_wp2_with fail
 refine (HT.out _ hb1).mono ?_
 rintro e w2 ⟨rfl,hF2,ht2⟩
 have HT2:=Lib.hid ((zam.of_below hb1).then ht2:zam [fp] w w2)
 have HRm:=Lib.hid (room_any k w2 hF2 hU)
 unfold roomE at HRm
 clear ht2 hF2
 go_wp2_with fail
 refine HRm.out.mono ?_
 rintro e w3 ⟨rfl,hF3,ht3⟩
 have HT3:=Lib.hid ((HT2.out.more (cs:=[fp,mb]) (by simp)).then (ht3.more (by simp)):zam [fp,mb] w w3)
 have c0:=hF3.c0
 have c2:=hF3.c2
 have hin:IntKind.i64.wrap ((now:Int)+(time:Int))=(now:Int)+time:=IntWalk.i64_in _ (by omega)
 have hl3:=hF3.len
 have hM3:zbo w3.drew mb (zct L k):=hF3.map.below (zad (Below.refl _ _))
 obtain ⟨w4,hrun,hM4,hg4⟩:=hM3.put ⟨k,s,(now:Int)+time⟩ hU (by omega)
 unfold flV at hrun
 dsimp only at hrun
 have HM4:=Lib.hid hM4
 have HG4:=Lib.hid hg4
 have HF3:=Lib.hid hF3
 clear hM4 hg4 hF3 hM3 ht3
 go_wp2_with fail
 go_region
 have hT4:zam [fp,mb] w w4:=HT3.out.then (zam.undrew (zam.zaE HG4.out fun g e=>by cases e;simp))
 have hB4:=HF3.out.blk.drew.grown HG4.out (by simpa using HF3.out.ne)
 have HFin:=Lib.hid (⟨hB4,HM4.out,hlen,htm,h2⟩:zaD w4 fp mb time now (zeg L ⟨k,s,(now:Int)+time⟩))
 clear hB4
 go_wp2
 go_ret
 exact ⟨rfl,HFin.out,hT4⟩
end Go.Proofs.YthkfhfldoniolaaGreatDoor
namespace Go.Proofs.YthkfhfldoniolaaGreatDoor
open Go.RowKit Go.Maps
def GetErr (ea:Nat→Addr) (c:Nat) (w:World) (e:Ending) (w':World):Prop:=e= .returned (.tuple #[.string ⟨#[]⟩,.bool false,errB ea c])∧w=w'
def ze1 (L:List Fl) (k:Nat) (now:Int):Option ByteArray:=match findF L k with
 |some x=>if x.til≤now then none else some x.host
 |none=>none
def gotV (o:Option ByteArray):Value:=match o with
 |some s=> .tuple #[.string s,.bool true,.nilIface]
 |none=> .tuple #[.string ⟨#[]⟩,.bool false,.nilIface]
def GetOk (fp mb time now:Nat) (L:List Fl) (k:Nat) (w:World) (e:Ending) (w':World):Prop:=e= .returned (gotV (ze1 L k now))∧zaD w' fp mb time now L∧zam [fp] w w'
set_option maxRecDepth 100000 in
theorem get_bad (ea:Nat→Addr) {fp mb time last:Nat} {L:List Fl} (k:Nat) (now:Int) (w:World) (hE:ErrsF ea w) (h:zaD w fp mb time last L) (ht:zbL last now≠0):
 Calls Tryz.prog 148 #[.pointer (some ⟨fp,0,none⟩),.int .u64 (k:Int),.int .i64 now] w (GetErr ea (zbL last now) w):=by
 have HT:=Lib.hid (tick_bad ea now w hE h ht)
 unfold errB at HT
 generalize zbL last now=te at*
 clear hE h ht
 go_enter Tryz.func148,Tryz.ntmps148
 go_wp2_with fail
 refine HT.out.mono ?_
 rintro e w2 ⟨rfl,rfl⟩
 go_wp2
 go_ret3
 exact ⟨rfl,rfl⟩
set_option maxRecDepth 100000 in
theorem get_ok {fp mb time last:Nat} {L:List Fl} (k now:Nat) (w:World) (h:zaD w fp mb time last L) (hU:U64 k) (h1:last≤now) (h2:now≤1099511627776):
 Calls Tryz.prog 148 #[.pointer (some ⟨fp,0,none⟩),.int .u64 (k:Int),.int .i64 (now:Int)] w (GetOk fp mb time now L k w):=by
 have HT:=Lib.hid (tick_ok now w h h1 h2)
 obtain ⟨y,hy⟩:∃y,(findF L k).getD flZ=y:=⟨_,rfl⟩
 obtain ⟨bs,hbs⟩:∃y,(findF L k).isSome=y:=⟨_,rfl⟩
 have HY:=Lib.hid hy
 have HS:=Lib.hid hbs
 have hw:(bs=false∧ze1 L k now=none)∨(bs=true∧decide (y.til≤(now:Int))=true∧ze1 L k now=none)∨(bs=true∧decide (y.til≤(now:Int))=false∧ze1 L k now=some y.host):=by
  subst hbs
  subst hy
  unfold ze1
  cases findF L k with
  |none=>exact .inl ⟨rfl,rfl⟩
  |some x=>
   by_cases hx:x.til≤(now:Int)
   ·exact .inr (.inl ⟨rfl,by simpa using hx,by simp [hx]⟩)
   ·exact .inr (.inr ⟨rfl,by simpa using hx,by simp [hx]⟩)
 have HP:Hid (∀v w',gotV (ze1 L k now)=v→zaD w' fp mb time now L→zam [fp] w w'→GetOk fp mb time now L k w (.returned v) w'):=Lib.hid fun v w' h3 h4 h5=>⟨by rw [h3],h4,h5⟩
 clear h hy hbs
 generalize ze1 L k now=gv at*
 rcases hw with ⟨rfl,rfl⟩|⟨rfl,t1,rfl⟩|⟨rfl,t1,rfl⟩
 all_goals
  go_enter Tryz.func148,Tryz.ntmps148
  go_wp2_with fail
  refine HT.out.mono ?_
  rintro e w2 ⟨rfl,hF,ht⟩
  have c2:=hF.c2
  have hM:=hF.map
  have hb:=(Below.refl w2.heap.size w2).alloc (Nat.le_refl _) (.cells #[.int .u64 (y.key:Int),.string y.host,.int .i64 y.til] 72)
  have HFin:=Lib.hid (hF.below hb)
  have HTin:=Lib.hid (ht.zd6 hb)
  clear hF ht hb
  go_wp2_with (first
   |(at_lookup;refine zeN rfl _ _ rfl rfl hM k rfl hU y HY.out _ HS.out ?_)
   |fail)
  go_ret3
  exact HP.out _ _ rfl HFin.out HTin.out
def pdOf (p:Fl→Bool) (_:Lit):DataW Unit→Bool
 | .agg [.lit (.int _ k),.lit (.string s),.lit (.int _ t)]=>p ⟨k.toNat,⟨s.toArray⟩,t⟩
 |_=>false
theorem pdOf_fl (p:Fl→Bool) (kl:Lit) (x:Fl):pdOf p kl (flD x)=p x:=rfl
def esOf (L:List Fl):List (Lit×DataW Unit):=L.map fun x=>(lk x.key,flD x)
theorem fk_came {p:Fl→Bool} {L:List Fl} {left:Lit→Bool} {k:Nat} {v:Value} {yd:DataW Unit} {yp:List MemPlace} (hv:rFl v=some (yd,yp)) (hat:∀zd,(Fk (pdOf p) (esOf L) left).atKey (lk k) zd=yd):∃x,x∈L∧x.key=k∧v=flV x∧yd=flD x:=by
 have e:Fk (pdOf p) (esOf L) left=flM (L.filter fun x=> !p x||left (lk x.key)):=by
  unfold Fk esOf flM
  rw [List.filter_map]
  rfl
 rw [e] at hat
 obtain ⟨x,hx,hk,rfl⟩:=fl_came (y:=(yd,yp)) hv hat
 refine ⟨x,(List.mem_filter.1 hx).1,hk,rfl, ?_⟩
 rw [rFl_mk] at hv
 injection hv with hv
 injection hv with hv
 exact hv.symm
theorem esOf_apart {L:List Fl} (h:zde L):(esOf L).Pairwise fun p q=>p.1≠q.1:=by
 unfold esOf
 rw [List.pairwise_map]
 exact h.imp fun hlt e=>by
  have h1:=lk_same
  unfold lk at e
  injection e with _ e
  omega
theorem esOf_keys {L:List Fl}:∀p∈esOf L,WideAt.IsKeyLit p.1:=by
 intro p hp
 obtain ⟨x,_,rfl⟩:=List.mem_map.1 hp
 trivial
def DelPostF (mb:Nat) (L':List Fl) (w:World) (e:Ending) (w':World):Prop:=e= .returned (.tuple #[])∧zbo w' mb L'∧w.grownBy w' (some mb)
set_option maxRecDepth 100000 in
theorem flDelete_any (p:Fl→Bool) (bx mb:Nat) (L:List Fl) (w:World) (hM:zbo w mb L)
 (hdel:∀W x,w.grownBy W (some mb)→x∈L→Calls Tryz.prog 239 #[.int .u64 (x.key:Int),flV x,.pointer (some ⟨bx,0,none⟩)] W fun e w'=>e= .returned (.bool (p x))∧W.grownBy w' none):
 Calls Tryz.prog 238 #[.map (some mb),.func (.func 239) #[] #[.pointer (some ⟨bx,0,none⟩)]] w (DelPostF mb (L.filter fun x=> !p x) w):=by
 have hr:=hM.rise
 have K:=int_keyed Tryz.underlying55
 have hown:=hM.own
 have hap:=Lib.hid (esOf_apart hr)
 have hu:=Lib.hid hM.u64
 have HD:=Lib.hid hdel
 have HR:=Lib.hid hr
 have hkeys:=Lib.hid (esOf_keys (L:=L))
 have HF:Hid (∀W left,(∀kl,left kl=false)→W.ownsMap Tryz.prog 55 rFl mb L.length (Fk (pdOf p) (esOf L) left)→zbo W mb (L.filter fun x=> !p x)):=Lib.hid fun W left hl h=>by
  rw [Fk_end hl] at h
  have e:Lib.deleteFuncD (pdOf p) (.map (esOf L))=flM (L.filter fun x=> !p x):=by
   show DataW.map _=_
   unfold esOf flM
   rw [flM_filter p (pdOf p) (fun x=>rfl)]
  rw [e] at h
  exact ⟨zd1 h,hr.filter _,fun x hx=>hM.u64 x (List.mem_filter.1 hx).1⟩
 clear hM hdel
 go_enter Tryz.func238,Tryz.ntmps238
 go_wp2_with (first
  |(at_range;refine wpList_range_own _ rfl _ 255 rfl 55 72 K Tryz.underlying255 rFl mb L.length _ rfl hown ?_;intro w0 hrg0 hg0 hs0)
  |fail)
 go_frame
 go_loopw [4,5] (fun _ _ wr=>∃(left:Lit→Bool) (cnt:Nat),wr.ranges Tryz.prog 55 rFl mb w.heap.size L.length (Fk (pdOf p) (esOf L) left) left cnt∧w.grownBy wr (some mb))
  (fun _ _ wr=>wr.rangeLeft mb w.heap.size)
 case atStart=>
  have e:Fk (pdOf p) (esOf L) (Maps.has (flM L))=flM L:=Fk_start hkeys.out
  exact ⟨Maps.has (flM L),Maps.size (flM L),by rw [e];exact hrg0,hg0.but _⟩
 case round=>
  obtain ⟨left,cnt,hrg,hgw⟩:=hrel
  go_wp2_with (first
   |(at_next;refine wpList_next_ranges _ rfl _ rfl 55 K rFl id flV (fun key _ _=>⟨key,rfl⟩) (fun v y hv=>by obtain ⟨x,hx,_⟩:=rFl_some hv;exact ⟨x,hx⟩) mb w.heap.size L.length _ _ _ rfl hrg ?_ ?_)
   |fail)
  ·intro _ hl0
   go_wp2
   go_end0
   exact ⟨rfl,HF.out _ left hl0 hrg.owns,hgw⟩
  ·intro key c kl yd yp w1 cnt1 hkey hlx hv hat hrg1 hlt hg1 hs1 hen
   obtain ⟨kz,rfl,rfl,hwf⟩:=Maps.keyOf_int_inv Tryz.underlying55 hkey
   obtain ⟨k,rfl,hU⟩:=u64_of_wf hwf
   obtain ⟨x,hx,rfl,hcx,hyx⟩:=fk_came hv hat
   have hxc:c=x:=by
    have h1:=rFl_mk c
    rw [hcx,rFl_mk] at h1
    exact (flD_inj (by injection h1 with h1;injection h1)).symm
   subst hxc
   have hgw1:=hgw.andThen hg1 (fun j hj=>by cases hj;exact Or.inl (Nat.le_refl _))
   have hrgA:=hrg1.alloc (.cells #[.int .u64 (c.key:Int),.string c.host,.int .i64 c.til] 72)
   have hgwA:w.grownBy (w1.alloc (.cells #[.int .u64 (c.key:Int),.string c.host,.int .i64 c.til] 72)) (some mb):=hgw1.andThen (World.grownBy_alloc w1 _ none) (fun j hj=>by cases hj)
   have hc:=HD.out _ c hgwA hx
   have hkl:WideAt.IsKeyLit (lk c.key):=trivial
   have hle:=hrg.left_eq
   subst hyx
   unfold flV at hc hen
   cases hp:p c
   ·rw [hp] at hc
    have hst:=Lib.hid (Fk_stays hap.out hkl hlx ((pdOf_fl p _ c).trans hp) hat)
    have HC:=Lib.hid hc
    clear hs1 hkey hv hat hcx hp hc hle
    go_wp2_with fail
    refine HC.out.mono ?_
    rintro e w2 ⟨rfl,hg2⟩
    have hrg2:=hrgA.kept hg2 (by simp) (by simp)
    have hgw2:=hgwA.andThen hg2 (fun j hj=>by cases hj)
    have hrg3:=Lib.hid (hst.out▸hrg2)
    go_wp2_with fail
    go_roundw
    case rel=>exact ⟨_,cnt1,hrg3.out,hgw2⟩
    case measure=>rw [hrg2.left_eq,hrg.left_eq];exact hlt
   ·rw [hp] at hc
    have hst:=Lib.hid (Fk_struck hap.out hkl hlx ((pdOf_fl p _ c).trans hp) hat)
    have HC:=Lib.hid hc
    have hkey2:=hkey
    clear hs1 hkey hv hat hcx hp hc hle
    go_wp2_with fail
    refine HC.out.mono ?_
    rintro e w2 ⟨rfl,hg2⟩
    have hrg2:=hrgA.kept hg2 (by simp) (by simp)
    have hgw2:=hgwA.andThen hg2 (fun j hj=>by cases hj)
    go_wp2_with (first
     |(at_delete;refine wpList_delete_ranges _ rfl _ _ 255 55 rfl 72 K Tryz.underlying255 rFl mb w.heap.size L.length _ _ _ rfl hrg2 _ _ rfl hkey2 ?_;intro w3 cnt3 hrg3 hle hturn;go_frame)
     |fail)
    rw [strike_twice] at hrg3
    have hrg4:=Lib.hid (hst.out▸hrg3)
    go_roundw
    case rel=>exact ⟨_,cnt3,hrg4.out,hgw2.andThen hturn.grown (fun j hj=>by cases hj;exact Or.inr rfl)⟩
    case measure=>rw [hrg3.left_eq,hrg.left_eq];omega
end Go.Proofs.YthkfhfldoniolaaGreatDoor
namespace Go.Proofs.YthkfhfldoniolaaGreatDoor
open Go.RowKit Go.Maps
def Says (w:World) (mb g:Nat) (cb:Array Value) (p:Fl→Bool):Prop:=∀W x,w.grownBy W (some mb)→Calls Tryz.prog g (#[flV x]++cb) W fun e w'=>e= .returned (.bool (p x))∧Below W.heap.size W w'
theorem remove1_any (g:Nat) (cb:Array Value) (bx:Nat) (b:Bool) (x:Fl) (k:Nat) (W:World) (eg:∀args w,(callFunc g args).run Tryz.prog w= .ok (.enter g args) w) (hb:W.cell? ⟨bx,0,none⟩=some (.func (.func g) #[] cb)) (hlt:bx<W.heap.size)
 (hcl:∀W',Below W.heap.size W W'→Calls Tryz.prog g (#[flV x]++cb) W' fun e w'=>e= .returned (.bool b)∧Below W'.heap.size W' w'):
 Calls Tryz.prog 239 #[.int .u64 (k:Int),flV x,.pointer (some ⟨bx,0,none⟩)] W fun e w'=>e= .returned (.bool b)∧Below W.heap.size W w':=by
 have hb1:Below W.heap.size W (W.alloc (.cells #[.int .u64 (x.key:Int),.string x.host,.int .i64 x.til] 72)):=(Below.refl _ _).alloc (Nat.le_refl _) _
 have hb2:(W.alloc (.cells #[.int .u64 (x.key:Int),.string x.host,.int .i64 x.til] 72)).cell? ⟨bx,0,none⟩=some (.func (.func g) #[] cb):=(hb1.cell (p:=⟨bx,0,none⟩) hlt).trans hb
 have HC:=Lib.hid (hcl _ hb1)
 unfold flV at HC ⊢
 clear hb hcl
 go_enter Tryz.func239,Tryz.ntmps239
 go_wp2_with (first
  |(go_at_fn g;refine HC.out.mono ?_;rintro e w2 ⟨rfl,hbb⟩)
  |fail)
 go_ret
 exact ⟨rfl,zaa hb1 hbb⟩
def RemPost (fp mb time last:Nat) (L:List Fl) (p:Fl→Bool) (w:World) (e:Ending) (w':World):Prop:=e= .returned (.int .i64 ((L.length- (L.filter fun x=> !p x).length:Nat):Int))∧zaD w' fp mb time last (L.filter fun x=> !p x)∧zam [mb] w w'
set_option maxRecDepth 100000 in
theorem remove_any {fp mb time last:Nat} {L:List Fl} (g:Nat) (cb:Array Value) (p:Fl→Bool) (w:World) (h:zaD w fp mb time last L) (eg:∀args w,(callFunc g args).run Tryz.prog w= .ok (.enter g args) w) (hs:Says w mb g cb p):
 Calls Tryz.prog 190 #[.pointer (some ⟨fp,0,none⟩),.func (.func g) #[] cb] w (RemPost fp mb time last L p w):=by
 have hb1:Below w.heap.size w (w.alloc (.cells #[.func (.func g) #[] cb] 273)):=(Below.refl _ _).alloc (Nat.le_refl _) _
 have c2:=(h.below hb1).c2
 have hM:=(h.below hb1).map
 have hne:=h.ne
 have hle:(L.filter fun x=> !p x).length≤L.length:=List.length_filter_le _ _
 have hl2:=h.len
 have hBx:=Blk.new w 273 #[.func (.func g) #[] cb]
 have hmbl:=h.map.lt
 have HD:=Lib.hid (flDelete_any p w.heap.size mb L (w.alloc (.cells #[.func (.func g) #[] cb] 273)) hM fun W x hW _=>by
  have hBW:=hBx.grown hW (by simp;omega)
  refine (remove1_any g cb w.heap.size (p x) x x.key W eg (hBW.cell 0) hBW.lt fun W' hW'=>hs W' x ?_).mono fun e w' ⟨h1,h2⟩=>⟨h1,zcX h2 _⟩
  have h1:w.grownBy W (some mb):=(World.grownBy.but (World.grownBy_alloc w _ none) (some mb)).andThen hW (fun j hj=>by cases hj;exact .inr rfl)
  exact h1.andThen (zcX hW' none) (fun j hj=>by cases hj))
 unfold DelPostF at HD
 have HF:Hid (∀W,zbo W mb (L.filter fun x=> !p x)→(w.alloc (.cells #[.func (.func g) #[] cb] 273)).grownBy W (some mb)→zaD W fp mb time last (L.filter fun x=> !p x)∧zam [mb] w W):=Lib.hid fun W h1 hg=>by
  have ht:zam [mb] w W:=(zam.of_below hb1).then (zam.zaE hg fun j e=>by cases e;simp)
  exact ⟨⟨ht.blk h.blk (by simpa using hne),h1,Nat.le_trans hle h.len,h.time,h.last⟩,ht⟩
 have HI:=Lib.hid h
 generalize hL':(L.filter fun x=> !p x)=L' at*
 have hsub:IntKind.i64.wrap ((L.length:Int) - (L'.length:Int))=((L.length-L'.length:Nat):Int):=by rw [IntWalk.i64_in _ (by omega)];omega
 have HP:Hid (∀v w',v= .int .i64 ((L.length-L'.length:Nat):Int)→zaD w' fp mb time last L'→zam [mb] w w'→RemPost fp mb time last L p w (.returned v) w'):=Lib.hid fun v w' h1 h2 h3=>⟨by rw [h1,hL'],by rw [hL'];exact h2,h3⟩
 clear h hL' hs hBx
 go_enter Tryz.func190,Tryz.ntmps190
 go_wp2_with (first
  |(at_len;refine wp_fl_len rfl _ rfl rfl hM ?_)
  |fail)
 refine HD.out.mono ?_
 rintro e w2 ⟨rfl,hM2,hg2⟩
 obtain ⟨hR,hT⟩:=HF.out _ hM2 hg2
 have c22:=hR.c2
 have HR:=Lib.hid hR
 clear hR hg2
 go_wp2_with (first
  |(at_len;refine wp_fl_len rfl _ rfl rfl hM2 ?_)
  |fail)
 go_ret
 exact HP.out _ _ rfl HR.out hT
theorem drop1_any (s:ByteArray) (hb:Nat) (x:Fl) (W:World) (h:W.cell? ⟨hb,0,none⟩=some (.string s)) (hlt:hb<W.heap.size):
 Calls Tryz.prog 191 #[flV x,.pointer (some ⟨hb,0,none⟩)] W fun e w'=>e= .returned (.bool (decide (x.host=s)))∧Below W.heap.size W w':=by
 have hb1:Below W.heap.size W (W.alloc (.cells #[.int .u64 (x.key:Int),.string x.host,.int .i64 x.til] 72)):=(Below.refl _ _).alloc (Nat.le_refl _) _
 have hb2:(W.alloc (.cells #[.int .u64 (x.key:Int),.string x.host,.int .i64 x.til] 72)).cell? ⟨hb,0,none⟩=some (.string s):=(hb1.cell (p:=⟨hb,0,none⟩) hlt).trans h
 have HE:=Lib.hid (str_eq x.host s)
 unfold flV
 clear h
 go_enter Tryz.func191,Tryz.ntmps191
 go_wp2
 go_ret
 exact ⟨zeI HE.out,hb1⟩
def DropPost (fp mb time last:Nat) (L:List Fl) (s:ByteArray) (w:World) (e:Ending) (w':World):Prop:=e= .returned (.int .i64 ((L.length- (L.filter fun x=> !decide (x.host=s)).length:Nat):Int))∧zaD w' fp mb time last (L.filter fun x=> !decide (x.host=s))∧zam [mb] w w'
theorem drop_any {fp mb time last:Nat} {L:List Fl} (s:ByteArray) (w:World) (h:zaD w fp mb time last L):
 Calls Tryz.prog 153 #[.pointer (some ⟨fp,0,none⟩),.string s] w (DropPost fp mb time last L s w):=by
 have hb1:Below w.heap.size w (w.alloc (.cells #[.string s] 9)):=(Below.refl _ _).alloc (Nat.le_refl _) _
 have hBs:=Blk.new w 9 #[.string s]
 have hmb:=h.map.lt
 have HR:=Lib.hid (remove_any 191 #[.pointer (some ⟨w.heap.size,0,none⟩)] (fun x=>decide (x.host=s)) (w.alloc (.cells #[.string s] 9)) (h.below hb1) (enters_of Tryz.func191 (by kernel_rfl) rfl) fun W x hW=>by
  have hB:=hBs.grown hW (by simp;omega)
  exact drop1_any s w.heap.size x W (hB.cell 0) hB.lt)
 unfold RemPost at HR
 have HP:Hid (∀v w',v= .int .i64 ((L.length- (L.filter fun x=> !decide (x.host=s)).length:Nat):Int)→zaD w' fp mb time last (L.filter fun x=> !decide (x.host=s))→zam [mb] w w'→DropPost fp mb time last L s w (.returned v) w'):=Lib.hid fun v w' h1 h2 h3=>⟨by rw [h1],h2,h3⟩
 clear h hBs
 generalize (L.filter fun x=> !decide (x.host=s))=L' at*
 go_enter Tryz.func153,Tryz.ntmps153
 go_wp2_with fail
 refine HR.out.mono ?_
 rintro e w2 ⟨rfl,hF,ht⟩
 have HF:=Lib.hid hF
 have HT:=Lib.hid ((zam.of_below hb1).then ht:zam [mb] w w2)
 clear hF ht
 go_wp2
 go_ret
 exact HP.out _ _ rfl HF.out HT.out
end Go.Proofs.YthkfhfldoniolaaGreatDoor
namespace Go.Proofs.YthkfhfldoniolaaGreatDoor
open Go.RowKit
def errZ (ea:Nat→Addr) (c:Nat):Value:=if c=0 then .nilIface else errB ea c
theorem errZ_some (ea:Nat→Addr) {c:Nat} (h:c≠0):errZ ea c=errB ea c:=by unfold errZ;rw [if_neg h]
abbrev FS:=Nat×List Fl
def dropS (s:FS) (x:ByteArray):Nat×FS:=(s.2.length- (s.2.filter fun y=> !decide (y.host=x)).length,s.1,s.2.filter fun y=> !decide (y.host=x))
def gotN (o:Option ByteArray) (c:Nat):Value:= .tuple #[.string (o.getD ⟨#[]⟩),.bool o.isSome,.int .i64 (c:Int)]
def ActF (v:Value) (fp mb time:Nat) (s:FS) (w:World) (e:Ending) (w':World):Prop:=e= .returned v∧zaD w' fp mb time s.1 s.2∧zam [fp,mb] w w'
section
variable {fp mb time:Nat} {s:FS} {w:World} {ea:Nat→Addr}
theorem drop_all (x:ByteArray) (h:zaD w fp mb time s.1 s.2):
 Calls Tryz.prog 153 #[.pointer (some ⟨fp,0,none⟩),.string x] w (ActF (.int .i64 ((dropS s x).1:Int)) fp mb time (dropS s x).2 w):=
 (drop_any x w h).mono fun e w' ⟨a,b,c⟩=>⟨a,b,c.more (by simp)⟩
end
end Go.Proofs.YthkfhfldoniolaaGreatDoor
