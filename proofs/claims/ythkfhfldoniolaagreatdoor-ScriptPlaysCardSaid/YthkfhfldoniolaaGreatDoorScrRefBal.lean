/-
  A balance of the reference in memory, beside the program's state: Look, Export, Drain, Pick, NewBalance.
-/
import Derived.Test.YthkfhfldoniolaaGreatDoorRefHealth
import Derived.Test.YthkfhfldoniolaaGreatDoorRefFlows
import Derived.Test.YthkfhfldoniolaaGreatDoorAddOk
import Derived.Test.YthkfhfldoniolaaGreatDoorBalNow
import Derived.Test.YthkfhfldoniolaaGreatDoorScrRefText
import Derived.Deep.RegionHeld3
import Derived.Test.YthkfhfldoniolaaGreatDoorRefTables
set_option maxHeartbeats 4000000
namespace Go.Proofs.YthkfhfldoniolaaGreatDoor
open Go.RowKit
def drainS (s:BS) (x:ByteArray) (v:Bool):BS:={ s with dr:=fun y=>if y=x then v else s.dr y,nd:=s.nd+1 }
structure RBp where
 mb:Nat
 mh:Nat
 mf:Nat
 sv:Value
 vs:List Value
 fv:Value
 dv:Value
def RBp.ws (p:RBp):List Nat:=p.mb::p.mf::hbs p.mh p.sv p.vs
abbrev rbalC (p:RBp) (c:zb7) (e:Nat):Array Value:= #[ptr p.mh,ptr p.mf,.int .i64 (c.size:Int),p.dv,.int .i64 (e:Int)]
structure zcE (w:World) (B:Nat) (p:RBp) (c:zb7) (n:Nat) (s:BS):Prop where
 blk:Blk w p.mb 66 (rbalC p c s.epoch)
 h:∃rs,zdx w B p.mh c.fall c.rise rs p.sv p.vs∧Mt s.st rs n
 f:RFs w B p.mf c.time s.fs.1 s.fs.2 p.fv
 d:∃dl,w.ownsRow B 9 1 p.dv dl.length (zak dl)∧dl.length≤n∧∀x,s.dr x=true↔x∈dl
 b:B≤p.mb
theorem zbG {w:World} {b n size:Nat} {e:TypeId} {v:Value} {xs:List Value} (h:w.ownsRow b e size v n xs) {g:Nat} (hg:v.ownBlock=some g):∃cs,Blk w g e cs:=by
 rcases h.2 with ⟨rfl,_⟩|⟨g',cap,cur,rfl,_,hh,_⟩
 ·simp [Value.ownBlock] at hg
 ·have:g'=g:=by simpa [Value.ownBlock] using hg
  subst this
  exact ⟨cur,hh⟩
section
variable {w w' W W':World} {B mp fall rise n n':Nat} {rs rs':List Rt} {sv sv':Value} {vs vs':List Value} {bs:List Nat} {p p' q:RBp} {c c':zb7} {s s':BS}
theorem zdx.notIn {g:Nat} {t:TypeId} {cs:Array Value} (h:zdx w B mp fall rise rs sv vs) (hB:Blk w g t cs) (h1:t≠96) (h2:t≠99) (h3:t≠4):g∉hbs mp sv vs:=by
 intro hm
 unfold hbs at hm
 rcases List.mem_cons.1 hm with rfl|hm
 ·exact hB.ne_ h.blk h1 rfl
 ·rcases List.mem_append.1 hm with hm|hm
  ·obtain ⟨cs',hB'⟩:=zbG h.own (by simpa using hm)
   exact hB.ne_ hB' h2 rfl
  ·unfold vbs at hm
   obtain ⟨v,hv,hg⟩:=List.mem_flatMap.1 hm
   obtain ⟨i,hi,rfl⟩:=List.getElem_of_mem hv
   have hir:i<rs.length:=by rw [←h.len];exact hi
   obtain ⟨cs',hB'⟩:=zbG (h.at_ i vs[i] rs[i] (List.getElem?_eq_getElem hi) (List.getElem?_eq_getElem hir)) (by simpa using hg)
   exact hB.ne_ hB' h3 rfl
theorem zdx.lt (h:zdx w B mp fall rise rs sv vs):∀b∈hbs mp sv vs,B≤b∧b<w.heap.size:=by
 intro b hm
 unfold hbs at hm
 rcases List.mem_cons.1 hm with rfl|hm
 ·exact ⟨h.base,h.blk.lt⟩
 ·rcases List.mem_append.1 hm with hm|hm
  ·exact h.own.lt b (by simpa using hm)
  ·unfold vbs at hm
   obtain ⟨v,hv,hg⟩:=List.mem_flatMap.1 hm
   obtain ⟨i,hi,rfl⟩:=List.getElem_of_mem hv
   have hir:i<rs.length:=by rw [←h.len];exact hi
   exact (h.at_ i vs[i] rs[i] (List.getElem?_eq_getElem hi) (List.getElem?_eq_getElem hir)).lt b (by simpa using hg)
theorem zdx.turn (h:zdx w B mp fall rise rs sv vs) (ht:zam bs w w') (hd:∀b∈hbs mp sv vs,b∉bs):zdx w' B mp fall rise rs sv vs:=by
 unfold hbs at hd
 refine ⟨ht.blk h.blk (hd _ List.mem_cons_self),ht.own h.own fun g hg=>hd g (List.mem_cons_of_mem _ (List.mem_append.2 (.inl (by rw [hg];simp)))),h.len,fun i v r a b=>ht.own (h.at_ i v r a b) fun g hg=>hd g (List.mem_cons_of_mem _ (List.mem_append.2 (.inr ?_))),h.apart,h.base⟩
 exact List.mem_flatMap.2 ⟨v,List.mem_of_getElem? a,by rw [hg];simp⟩
theorem RFs.away {time last:Nat} {L:List Fl} {fv:Value} (h:RFs w B mp time last L fv) (ht:zam bs w w') (h1:mp∉bs) (h2:∀g,fv.ownBlock=some g→g∉bs):RFs w' B mp time last L fv:=
 ⟨ht.blk h.blk h1,ht.own h.row h2,h.len,h.base⟩
theorem zcE.below (h:zcE w B p c n s) (hb:Below w.heap.size w w'):zcE w' B p c n s:=by
 obtain ⟨rs,h1,h2⟩:=h.h
 obtain ⟨dl,d1,d2,d3⟩:=h.d
 exact ⟨h.blk.below hb h.blk.lt,⟨rs,h1.below hb,h2⟩,h.f.below hb,⟨dl,own_below d1 hb,d2,d3⟩,h.b⟩
theorem zcE.more (h:zcE w B p c n s) (hn:n≤n'):zcE w B p c n' s:=by
 obtain ⟨rs,h1,h2⟩:=h.h
 obtain ⟨dl,d1,d2,d3⟩:=h.d
 exact ⟨h.blk,⟨rs,h1,h2.mono hn⟩,h.f,⟨dl,d1,Nat.le_trans d2 hn,d3⟩,h.b⟩
theorem zcE.wsLt (h:zcE w B p c n s):∀b∈p.ws,B≤b∧b<w.heap.size:=by
 intro b hb
 unfold RBp.ws at hb
 obtain ⟨rs,h1,_⟩:=h.h
 rcases List.mem_cons.1 hb with rfl|hb
 ·exact ⟨h.b,h.blk.lt⟩
 ·rcases List.mem_cons.1 hb with rfl|hb
  ·exact ⟨h.f.base,h.f.blk.lt⟩
  ·exact h1.lt b hb
theorem zcE.notWs {g:Nat} {t:TypeId} {cs:Array Value} (h:zcE w B p c n s) (hB:Blk w g t cs) (h0:t≠66) (h4:t≠70) (h1:t≠96) (h2:t≠99) (h3:t≠4):g∉p.ws:=by
 intro hm
 unfold RBp.ws at hm
 obtain ⟨rs,h5,_⟩:=h.h
 rcases List.mem_cons.1 hm with rfl|hm
 ·exact hB.ne_ h.blk h0 rfl
 ·rcases List.mem_cons.1 hm with rfl|hm
  ·exact hB.ne_ h.f.blk h4 rfl
  ·exact h5.notIn hB h1 h2 h3 hm
theorem zcE.low (h:zcE W B q c n s) (ht:zam bs W W') (hb:∀b∈bs,b<B):zcE W' B q c n s:=by
 obtain ⟨rs,h1,h2⟩:=h.h
 obtain ⟨dl,d1,d2,d3⟩:=h.d
 have hn:∀b,B≤b→b∉bs:=fun b h1 h2=>by have:=hb b h2;omega
 exact ⟨ht.blk h.blk (hn _ h.b),⟨rs,h1.turn ht fun b hb=>hn b (h1.lt b hb).1,h2⟩,h.f.away ht (hn _ h.f.base) fun g hg=>hn g (h.f.row.lt g hg).1,⟨dl,ht.own d1 fun g hg=>hn g (d1.lt g hg).1,d2,d3⟩,h.b⟩
theorem own_ge {w:World} {b n size:Nat} {e:TypeId} {v:Value} {xs:List Value} (h:w.ownsRow b e size v n xs) {g:Nat} (hg:v.ownBlock=some g):b≤g:=by
 rcases h.2 with ⟨rfl,_⟩|⟨g',cap,cur,rfl,hb,_⟩
 ·simp [Value.ownBlock] at hg
 ·have:g'=g:=by simpa [Value.ownBlock] using hg
  omega
def Stood (p p':RBp):Prop:=p'.mb=p.mb∧p'.mh=p.mh∧p'.mf=p.mf
def DvBy (p p':RBp) (W:World):Prop:=∀g,p'.dv.ownBlock=some g→p.dv.ownBlock=some g∨W.heap.size≤g
def zaZ (B:Nat) (p:RBp) (c:zb7) (n:Nat) (s':BS) (W w':World):Prop:=∃p',zcE w' B p' c n s'∧Stood p p'∧zam p.ws W w'∧(∀b∈p'.ws,b∈p.ws∨W.heap.size≤b)∧DvBy p p' W
theorem zaZ.refl (h:zcE W B p c n s):zaZ B p c n s W W:=⟨p,h,⟨rfl,rfl,rfl⟩,zam.refl _ _,fun _ hb=> .inl hb,fun _ hb=> .inl hb⟩
theorem zaZ.link {W1:World} {p1:RBp} (e:Stood p p1) (t:zam p.ws W W1) (hb:∀b∈p1.ws,b∈p.ws∨W.heap.size≤b) (hd:DvBy p p1 W) (h2:zaZ B p1 c n' s' W1 W'):zaZ B p c n' s' W W':=by
 obtain ⟨p2,r2,e2,t2,b2,d2⟩:=h2
 refine ⟨p2,r2,⟨e2.1.trans e.1,e2.2.1.trans e.2.1,e2.2.2.trans e.2.2⟩,t.trans t2 hb,fun b h=> ?_,fun g hg=> ?_⟩
 ·rcases b2 b h with h3|h3
  ·exact hb b h3
  ·exact .inr (Nat.le_trans t.size h3)
 ·rcases d2 g hg with h3|h3
  ·exact hd g h3
  ·exact .inr (Nat.le_trans t.size h3)
theorem zcE.cells (h:zcE W B p c n s):W.cell? ⟨p.mb,0,none⟩=some (.pointer (some ⟨p.mh,0,none⟩))∧W.cell? ⟨p.mb,1,none⟩=some (.pointer (some ⟨p.mf,0,none⟩))∧W.cell? ⟨p.mb,2,none⟩=some (.int .i64 (c.size:Int))∧W.cell? ⟨p.mb,3,none⟩=some p.dv∧W.cell? ⟨p.mb,4,none⟩=some (.int .i64 (s.epoch:Int)):=
 ⟨h.blk.cell 0,h.blk.cell 1,h.blk.cell 2,h.blk.cell 3,h.blk.cell 4⟩
theorem zaZ.below (h:zaZ B p c n s W W') {W2:World} (hb:Below W'.heap.size W' W2):zaZ B p c n s W W2:=by
 obtain ⟨p1,r1,e1,t1,b1,v1⟩:=h
 exact ⟨p1,r1.below hb,e1,t1.zd6 hb,b1,v1⟩
theorem zcE.to_below (h:zcE W B p c n s) (hb:Below W.heap.size W W'):zaZ B p c n s W W':=(zaZ.refl h).below hb
theorem zcE.turnF {fs':FS} {fv':Value} (h:zcE W B p c n s) (hf:RFs W' B p.mf c.time fs'.1 fs'.2 fv') (ht:zam [p.mf] W W'):zaZ B p c n { s with fs:=fs' } W W':=by
 obtain ⟨rs,h1,h2⟩:=h.h
 obtain ⟨dl,d1,d2,d3⟩:=h.d
 have hm:∀b,b∈[p.mf]→b=p.mf:=fun b hb=>List.mem_singleton.1 hb
 refine ⟨{ p with fv:=fv' },⟨ht.blk h.blk fun hb=>h.blk.ne_ h.f.blk (by decide) (hm _ hb),⟨rs,h1.turn ht fun b hb hb2=>h1.notIn h.f.blk (by decide) (by decide) (by decide) (hm _ hb2▸hb),h2⟩,hf,⟨dl,ht.own d1 fun g hg hb=> ?_,d2,d3⟩,h.b⟩,⟨rfl,rfl,rfl⟩,ht.more fun b hb=>by rw [hm _ hb];exact List.mem_cons_of_mem _ List.mem_cons_self,fun b hb=> .inl hb,fun _ hb=> .inl hb⟩
 obtain ⟨cs,hB⟩:=zbG d1 hg
 exact hB.ne_ h.f.blk (by decide) (hm _ hb)
theorem zcE.turnH {st':List St} (h:zcE W B p c n s) (hR:zdx W' B p.mh c.fall c.rise rs' sv' vs') (hM:Mt st' rs' n') (hn:n≤n') (ht:zam (hbs p.mh p.sv p.vs) W W') (hb:∀b∈hbs p.mh sv' vs',b∈hbs p.mh p.sv p.vs∨W.heap.size≤b):zaZ B p c n' { s with st:=st' } W W':=by
 obtain ⟨rs,h1,h2⟩:=h.h
 obtain ⟨dl,d1,d2,d3⟩:=h.d
 refine ⟨{ p with sv:=sv',vs:=vs' },⟨ht.blk h.blk (h1.notIn h.blk (by decide) (by decide) (by decide)),⟨rs',hR,hM⟩,h.f.away ht (h1.notIn h.f.blk (by decide) (by decide) (by decide)) fun g hg=> ?_,⟨dl,ht.own d1 fun g hg=> ?_,Nat.le_trans d2 hn,d3⟩,h.b⟩,⟨rfl,rfl,rfl⟩,ht.more fun b hb=>List.mem_cons_of_mem _ (List.mem_cons_of_mem _ hb),fun b hb'=> ?_,fun _ hb=> .inl hb⟩
 ·obtain ⟨cs,hB⟩:=zbG h.f.row hg
  exact h1.notIn hB (by decide) (by decide) (by decide)
 ·obtain ⟨cs,hB⟩:=zbG d1 hg
  exact h1.notIn hB (by decide) (by decide) (by decide)
 ·unfold RBp.ws at hb' ⊢
  rcases List.mem_cons.1 hb' with rfl|hb'
  ·exact .inl List.mem_cons_self
  ·rcases List.mem_cons.1 hb' with rfl|hb'
   ·exact .inl (List.mem_cons_of_mem _ List.mem_cons_self)
   ·rcases hb b hb' with h3|h3
    ·exact .inl (List.mem_cons_of_mem _ (List.mem_cons_of_mem _ h3))
    ·exact .inr h3
theorem zcE.turnE (h:zcE W B p c n s) (e:Nat):zaZ B p c n { s with epoch:=e } W (W.setCell ⟨p.mb,4,none⟩ (.int .i64 (e:Int))):=by
 have ht:zam [p.mb] W (W.setCell ⟨p.mb,4,none⟩ (.int .i64 (e:Int))):=(zam.refl _ W).setCell (p:=⟨p.mb,4,none⟩) (.inl (by simp)) _
 obtain ⟨rs,h1,h2⟩:=h.h
 obtain ⟨dl,d1,d2,d3⟩:=h.d
 have hm:∀b,b∈[p.mb]→b=p.mb:=fun b hb=>List.mem_singleton.1 hb
 refine ⟨p,⟨h.blk.zbk 4 _,⟨rs,h1.turn ht fun b hb hb2=>h1.notIn h.blk (by decide) (by decide) (by decide) (hm _ hb2▸hb),h2⟩,h.f.away ht (fun hb=>h.blk.ne_ h.f.blk (by decide) (hm _ hb).symm) fun g hg hb=> ?_,⟨dl,ht.own d1 fun g hg hb=> ?_,d2,d3⟩,h.b⟩,⟨rfl,rfl,rfl⟩,ht.more fun b hb=>by rw [hm _ hb];exact List.mem_cons_self,fun b hb=> .inl hb,fun _ hb=> .inl hb⟩
 ·obtain ⟨cs,hB⟩:=zbG h.f.row hg
  exact hB.ne_ h.blk (by decide) (hm _ hb)
 ·obtain ⟨cs,hB⟩:=zbG d1 hg
  exact hB.ne_ h.blk (by decide) (hm _ hb)
theorem zcE.turnD {dl':List ByteArray} {dv':Value} {dr':ByteArray→Bool} {nd':Nat} (h:zcE W B p c n s) (ho:W.ownsRow B 9 1 dv' dl'.length (zak dl')) (hl:dl'.length≤n+1) (hd:∀x,dr' x=true↔x∈dl'):∃p',zcE (W.setCell ⟨p.mb,3,none⟩ dv') B p' c (n+1) { s with dr:=dr',nd:=nd' }∧Stood p p'∧zam p.ws W (W.setCell ⟨p.mb,3,none⟩ dv')∧(∀b∈p'.ws,b∈p.ws∨W.heap.size≤b)∧p'.dv=dv':=by
 have ht:zam [p.mb] W (W.setCell ⟨p.mb,3,none⟩ dv'):=(zam.refl _ W).setCell (p:=⟨p.mb,3,none⟩) (.inl (by simp)) _
 obtain ⟨rs,h1,h2⟩:=h.h
 have hm:∀b,b∈[p.mb]→b=p.mb:=fun b hb=>List.mem_singleton.1 hb
 refine ⟨{ p with dv:=dv' },⟨h.blk.zbk 3 _,⟨rs,h1.turn ht fun b hb hb2=>h1.notIn h.blk (by decide) (by decide) (by decide) (hm _ hb2▸hb),h2.mono (Nat.le_succ n)⟩,h.f.away ht (fun hb=>h.blk.ne_ h.f.blk (by decide) (hm _ hb).symm) fun g hg hb=> ?_,⟨dl',ht.own ho fun g hg hb=> ?_,hl,hd⟩,h.b⟩,⟨rfl,rfl,rfl⟩,ht.more fun b hb=>by rw [hm _ hb];exact List.mem_cons_self,fun b hb=> .inl hb,rfl⟩
 ·obtain ⟨cs,hB⟩:=zbG h.f.row hg
  exact hB.ne_ h.blk (by decide) (hm _ hb)
 ·obtain ⟨cs,hB⟩:=zbG ho hg
  exact hB.ne_ h.blk (by decide) (hm _ hb)
end
end Go.Proofs.YthkfhfldoniolaaGreatDoor
namespace Go.Proofs.YthkfhfldoniolaaGreatDoor
open Go.RowKit
section
variable {W:World} {B n:Nat} {p:RBp} {c:zb7} {s:BS}
theorem zcE.len (h:zcE W B p c n s):s.st.length≤12:=by
 obtain ⟨rs,_,hM⟩:=h.h
 exact hM.le
theorem refHLook (z:ByteArray) (v:Bool) (h:zcE W B p c n s) (hB:B≤W.heap.size) (hn:n≤900) (h1:1≤c.fall) (h2:1≤c.rise):
 Calls Tryz.prog 44 #[.pointer (some ⟨p.mh,0,none⟩),.string z,.bool v] W fun e w'=>e= .returned (.tuple #[.bool (zbb c s z v).2,.int .i64 (zb5 (hosts s.st) z:Int)])∧zaZ B p c (n+1) { s with st:=(zbb c s z v).1 } W w':=by
 obtain ⟨rs,hR,hM⟩:=h.h
 obtain ⟨e1,hM2⟩:=hM.look (fall:=c.fall) (rise:=c.rise) (idx (hosts s.st) z) v h1 h2
 have hrl:rs.length≤12:=by have:=hM.le;have:=hM.len;omega
 unfold zbb
 rw [e1]
 unfold zb5
 rw [hM.hosts] at hM2 ⊢
 by_cases hm:has (zbW rs) z=true
 ·obtain ⟨k,hk,hi,_⟩:=zc4 (zbw.1 hm)
  rw [zcO] at hk
  have e2:(zbC rs (idx (zbW rs) z) fun r=>zcR c.fall c.rise r v)=(rs.set k (zcR c.fall c.rise rs[k] v).1,(zcR c.fall c.rise rs[k] v).2):=by
   unfold zbC
   rw [hi,if_neg (by omega),Int.toNat_natCast,List.getElem?_eq_getElem hk]
  rw [if_pos hm]
  rw [e2] at hM2 ⊢
  exact (refLook_found z v W hR hB (by omega) hi hk (hM.rlooks (by omega) _ (List.getElem_mem hk))).mono fun e w' ⟨a,⟨sv',vs',b,b2⟩,_,t⟩=>⟨a,h.turnH b hM2 (Nat.le_succ n) t b2⟩
 ·have hm':z∉zbW rs:=fun h'=>hm (zbw.2 h')
  have hi:idx (zbW rs) z= -1:=zbV fun t ht e=>hm' (by rw [e];exact ht)
  have e2:∀(l:List Rt),(zbC l (-1:Int) fun r=>zcR c.fall c.rise r v)=(l,false):=fun l=>by unfold zbC;rw [if_pos (by decide)]
  have e3:(zbC s.st (-1:Int) fun q=>zbu c.fall c.rise q v)=(s.st,false):=by unfold zbC;rw [if_pos (by decide)]
  rw [if_neg hm,hi,e2,e3]
  exact (refLook_none z v W hR (by omega) hm').mono fun e w' ⟨a,b⟩=>⟨a,by rw [←b];exact zaZ.refl (h.more (Nat.le_succ n))⟩
theorem upOf_turned {c:zb7} {s:BS} {z:ByteArray} {v:Bool} (h:(zbb c s z v).2=true):ze0 (zbb c s z v).1 z=v:=by
 unfold zbb at h ⊢
 by_cases hm:z∈hosts s.st
 ·obtain ⟨k,hk,hi,hg⟩:=zc4 hm
  have hk2:k<s.st.length:=by rw [zek] at hk;exact hk
  have hsk:s.st[k]? =some s.st[k]:=List.getElem?_eq_getElem hk2
  have e:zbC s.st (idx (hosts s.st) z) (fun q=>zbu c.fall c.rise q v)=(s.st.set k (zbu c.fall c.rise s.st[k] v).1,(zbu c.fall c.rise s.st[k] v).2):=by
   unfold zbC
   rw [hi,if_neg (by omega),Int.toNat_natCast,hsk]
  rw [e] at h ⊢
  dsimp only at h ⊢
  have hh:hosts (s.st.set k (zbu c.fall c.rise s.st[k] v).1)=hosts s.st:=zdZ hsk zff
  have hup:(zbu c.fall c.rise s.st[k] v).1.up=v:=by
   unfold zbu at h ⊢
   by_cases hw:s.st[k].up=v
   ·rw [if_pos hw] at h;cases h
   ·rw [if_neg hw] at h ⊢
    by_cases he:s.st[k].looks+1<(if s.st[k].up=true then c.fall else c.rise)
    ·rw [if_pos he] at h;cases h
    ·rw [if_neg he]
     show (!s.st[k].up)=v
     cases hu:s.st[k].up<;>cases v<;>simp_all
  unfold ze0
  rw [hh,hi]
  show (match (s.st.set k (zbu c.fall c.rise s.st[k] v).1)[k]? with|some s=>s.up|none=>false)=v
  rw [List.getElem?_set_self hk2]
  exact hup
 ·have hi:idx (hosts s.st) z= -1:=zbV fun u hu e=>hm (by rw [e];exact hu)
  unfold zbC at h
  rw [hi,if_pos (by decide)] at h
  cases h
theorem zcE.isUp (h:zcE W B p c n s) (x:ByteArray):Calls Tryz.prog 39 #[.pointer (some ⟨p.mh,0,none⟩),.string x] W fun e w'=>e= .returned (.bool (ze0 s.st x))∧W=w':=by
 obtain ⟨rs,hR,hM⟩:=h.h
 rw [hM.ze0 x]
 exact refIsUp x W hR (by have:=hM.le;have:=hM.len;omega)
def RefLookB (B:Nat) (p:RBp) (c:zb7) (n:Nat) (r:(Bool×Nat)×BS) (W:World) (e:Ending) (w':World):Prop:=e= .returned (.tuple #[.bool r.1.1,.int .i64 (r.1.2:Int)])∧zaZ B p c n r.2 W w'
set_option maxRecDepth 100000 in
theorem refB_look (z:ByteArray) (v:Bool) (h:zcE W B p c n s) (hB:B≤W.heap.size) (hn:n≤900) (h1:1≤c.fall) (h2:1≤c.rise):
 Calls Tryz.prog 22 #[.pointer (some ⟨p.mb,0,none⟩),.string z,.bool v] W (RefLookB B p c (n+1) (zcl c s z v) W):=by
 have HL:=Lib.hid (refHLook z v h hB hn h1 h2)
 have HU:Hid (∀w1,zaZ B p c (n+1) { s with st:=(zbb c s z v).1 } W w1→w1.cell? ⟨p.mb,0,none⟩=some (.pointer (some ⟨p.mh,0,none⟩))∧w1.cell? ⟨p.mb,1,none⟩=some (.pointer (some ⟨p.mf,0,none⟩))∧
  Hid (Calls Tryz.prog 39 #[.pointer (some ⟨p.mh,0,none⟩),.string z] w1 fun e w'=>e= .returned (.bool (ze0 (zbb c s z v).1 z))∧w1=w')∧
  Hid (Calls Tryz.prog 45 #[.pointer (some ⟨p.mf,0,none⟩),.string z] w1 fun e w'=>∃k:Nat,e= .returned (.int .i64 (k:Int))∧zaZ B p c (n+1) { s with st:=(zbb c s z v).1,fs:=(dropS s.fs z).2 } W w')):=Lib.hid fun w1 ⟨p1,r1,e1,t1,b1,v1⟩=>by
  obtain ⟨c0,c1,_⟩:=r1.cells
  have hu:=r1.isUp z
  have hd:=ref_dropH_ok z w1 r1.f (Nat.le_trans hB t1.size)
  rw [e1.1,e1.2.1] at c0
  rw [e1.1,e1.2.2] at c1
  rw [e1.2.1] at hu
  rw [e1.2.2] at hd
  refine ⟨c0,c1,Lib.hid hu,Lib.hid (hd.mono fun e w' ⟨a,fv',hf,ht⟩=>⟨_,a,zaZ.link e1 t1 b1 v1 (r1.turnF (fs':=(dropS s.fs z).2) (by rw [e1.2.2];exact hf) (by rw [e1.2.2];exact ht))⟩)⟩
 have c0:=h.cells.1
 have HT:=Lib.hid (fun ht:(zbb c s z v).2=true=>upOf_turned (c:=c) (s:=s) (z:=z) (v:=v) ht)
 have HP:Hid (∀w',zaZ B p c (n+1) (if (zbb c s z v).2=true∧v=false then { s with st:=(zbb c s z v).1,fs:=(dropS s.fs z).2 } else { s with st:=(zbb c s z v).1 }) W w'→RefLookB B p c (n+1) (zcl c s z v) W (.returned (.tuple #[.bool (zbb c s z v).2,.int .i64 (zb5 (hosts s.st) z:Int)])) w'):=Lib.hid fun w' h=>⟨rfl,h⟩
 generalize hLB:zcl c s z v=LB at*
 clear hLB h hB
 generalize zbb c s z v=r at*
 generalize zb5 (hosts s.st) z=code at*
 obtain ⟨st',tb⟩:=r
 dsimp only at HL HU HP HT
 cases tb
 case false=>
  clear HT
  generalize ze0 st' z=u at*
  go_enter Tryz.func22,Tryz.ntmps22
  go_wp2_with fail
  refine HL.out.mono ?_
  rintro e w1 ⟨rfl,h1⟩
  obtain ⟨d0,d1,HI,_⟩:=HU.out w1 h1
  have HF:=Lib.hid (HP.out w1 (by rw [if_neg (by simp)];exact h1))
  clear h1 HL HU HP
  go_wp2_with fail
  refine HI.out.mono ?_
  rintro e w2 ⟨rfl,rfl⟩
  go_wp2
  go_ret2
  exact HF.out
 case true=>
  have hup:=HT.out rfl
  rw [hup] at HU
  clear HT hup
  cases v
  ·go_enter Tryz.func22,Tryz.ntmps22
   go_wp2_with fail
   refine HL.out.mono ?_
   rintro e w1 ⟨rfl,h1⟩
   obtain ⟨d0,d1,HI,HD⟩:=HU.out w1 h1
   clear h1 HL HU
   go_wp2_with fail
   refine HI.out.mono ?_
   rintro e w2 ⟨rfl,rfl⟩
   go_wp2_with fail
   refine HD.out.mono ?_
   rintro e w3 ⟨k3,rfl,h3⟩
   have HF:=Lib.hid (HP.out w3 (by rw [if_pos (by simp)];exact h3))
   clear h3 HP HD
   go_wp2
   go_ret2
   exact HF.out
  ·go_enter Tryz.func22,Tryz.ntmps22
   go_wp2_with fail
   refine HL.out.mono ?_
   rintro e w1 ⟨rfl,h1⟩
   obtain ⟨d0,d1,HI,_⟩:=HU.out w1 h1
   have HF:=Lib.hid (HP.out w1 (by rw [if_neg (by simp)];exact h1))
   clear h1 HL HU HP
   go_wp2_with fail
   refine HI.out.mono ?_
   rintro e w2 ⟨rfl,rfl⟩
   go_wp2
   go_ret2
   exact HF.out
def RefExpB (B:Nat) (p:RBp) (c:zb7) (n:Nat) (s:BS) (W:World) (e:Ending) (w':World):Prop:=e= .returned (.string ⟨(textOf ((s.epoch:Int)+1) s.fs.2).toArray⟩)∧zaZ B p c n { s with epoch:=s.epoch+1 } W w'
set_option maxRecDepth 100000 in
theorem refB_export (h:zcE W B p c n s) (he:s.epoch≤1000000) (hck:zbJ ((s.epoch:Int)+1) s.fs.2=none) (hu:∀x∈s.fs.2,U64 x.key):
 Calls Tryz.prog 26 #[.pointer (some ⟨p.mb,0,none⟩)] W (RefExpB B p c n s W):=by
 obtain ⟨_,_,_,_,c4⟩:=h.cells
 have f4:=h.blk.frozen 4
 have hE:=h.turnE (s.epoch+1)
 obtain ⟨W1,hW1⟩:∃W1,W1=W.setCell ⟨p.mb,4,none⟩ (.int .i64 ((s.epoch:Int)+1)):=⟨_,rfl⟩
 rw [Int.natCast_add,Int.natCast_one,←hW1] at hE
 obtain ⟨p1,r1,e1,t1,b1,v1⟩:=hE
 obtain ⟨A,cap,hfv,hr,hcap⟩:=r1.f.form
 have hws:IntKind.i64.wrap ((s.epoch:Int)+1)=(s.epoch:Int)+1:=IntWalk.i64_in _ (by omega)
 have HC:Hid (∀w',Below W1.heap.size W1 w'→w'.cell? ⟨p.mb,4,none⟩=some (.int .i64 ((s.epoch:Int)+1))∧w'.cell? ⟨p.mb,1,none⟩=some (.pointer (some ⟨p.mf,0,none⟩))∧w'.cell? ⟨p.mf,2,none⟩=some (.slice A s.fs.2.length cap)):=Lib.hid fun w' hb=>by
  have r2:=r1.below hb
  obtain ⟨_,d1,_,_,d4⟩:=r2.cells
  have d5:w'.cell? ⟨p1.mf,2,none⟩=some p1.fv:=r2.f.blk.cell 2
  rw [hfv] at d5
  rw [e1.1] at d1 d4
  rw [e1.2.2] at d1 d5
  exact ⟨d4,d1,d5⟩
 have HT:Hid (∀w',Below W1.heap.size W1 w'→Calls Tryz.prog 47 #[.int .i64 ((s.epoch:Int)+1),.slice A s.fs.2.length cap] w' fun e w2=>e= .returned (.string ⟨(textOf ((s.epoch:Int)+1) s.fs.2).toArray⟩)∧Below w'.heap.size w' w2):=Lib.hid fun w' hb=>refText_any _ A cap w'.heap.size s.fs.2 w' ((hr.below hb).more hb.size) (Nat.le_refl _) (zdn hck) hu
 have HF:Hid (∀w',Below W1.heap.size W1 w'→RefExpB B p c n s W (.returned (.string ⟨(textOf ((s.epoch:Int)+1) s.fs.2).toArray⟩)) w'):=Lib.hid fun w' hb=>⟨rfl,zaZ.link e1 t1 b1 v1 (r1.to_below hb)⟩
 have hRef:=Below.refl W1.heap.size W1
 clear h r1 e1 t1 b1 hfv hr hcap hck hu he
 generalize hex:RefExpB B p c n s W=Q at*
 generalize textOf ((s.epoch:Int)+1) s.fs.2=tx at*
 generalize s.fs.2.length=ln at*
 generalize s.epoch=ep at*
 subst hex
 go_enter Tryz.func26,Tryz.ntmps26
 go_wp2_with fail
 rw [←hW1]
 clear c4 f4 hW1
 go_region_held3 (fun w'=>w'.cell? ⟨p.mb,4,none⟩=some (.int .i64 ((ep:Int)+1))∧w'.cell? ⟨p.mb,1,none⟩=some (.pointer (some ⟨p.mf,0,none⟩))∧w'.cell? ⟨p.mf,2,none⟩=some (.slice A ln cap)) (first|exact HC.out _ hb2|exact HC.out _ (zad hRef)|go_keep) (first
  |(go_at_call 47
    refine (HT.out _ (zad hRef)).mono ?_
    rintro e w2 ⟨rfl,hb2'⟩
    have hb2:=zaa (zad hRef) hb2'))
 all_goals
  have HF2:=Lib.hid (HF.out _ hb2)
  go_wp2
  go_ret
  exact HF2.out
def zdl (dl:List ByteArray) (z:ByteArray) (v:Bool):List ByteArray:=(dl.filter fun y=> !decide (y=z))++if v then [z] else []
theorem drainL_mem {dl:List ByteArray} {z x:ByteArray} {v:Bool} {f:ByteArray→Bool} (hd:∀x,f x=true↔x∈dl):(if x=z then v else f x)=true↔x∈zdl dl z v:=by
 unfold zdl
 rw [List.mem_append,List.mem_filter]
 by_cases hx:x=z
 ·subst hx
  rw [if_pos rfl]
  cases v<;>simp
 ·rw [if_neg hx,hd x]
  cases v<;>simp [hx]
theorem zec {dl:List ByteArray} {i:Nat} (hi:i<dl.length) (q:ByteArray→Bool):(dl.take (i+1)).filter q=if q dl[i]=true then (dl.take i).filter q++[dl[i]] else (dl.take i).filter q:=by
 rw [List.take_succ_eq_append_getElem hi,List.filter_append,List.filter_cons]
 split
 ·simp
 ·simp
def RefDrainB (B:Nat) (p:RBp) (c:zb7) (n:Nat) (s':BS) (W:World) (e:Ending) (w':World):Prop:=e= .returned (.int .i64 0)∧zaZ B p c n s' W w'
set_option maxRecDepth 100000 in
theorem refB_drain (z:ByteArray) (v:Bool) (h:zcE W B p c n s) (hB:B≤W.heap.size) (hz:z∈hosts s.st) (hn:n≤900):
 Calls Tryz.prog 23 #[.pointer (some ⟨p.mb,0,none⟩),.string z,.bool v] W (RefDrainB B p c (n+1) (drainS s z v) W):=by
 obtain ⟨i0,hi0,hz0,hz1,hz2⟩:=info_parts info_str
 obtain ⟨rs,hR,hM⟩:=h.h
 obtain ⟨dl,d1,d2,d3⟩:=h.d
 obtain ⟨A,cap,hdv,hrd,hcap,_⟩:=zai d1
 have HF:Hid (Calls Tryz.prog 46 #[.pointer (some ⟨p.mh,0,none⟩),.string z] W fun e w'=>∃k:Nat,e= .returned (.int .i64 (k:Int))∧W=w'):=Lib.hid (by
  have:=refFind z W hR (by have:=hM.le;have:=hM.len;omega)
  obtain ⟨k,_,hi,_⟩:=zc4 hz
  rw [hM.hosts] at hi
  exact this.mono fun e w' ⟨a,b⟩=>⟨k,by rw [a,hi],b⟩)
 have HC:Hid (∀w',Below W.heap.size W w'→w'.cell? ⟨p.mb,3,none⟩=some (.slice A dl.length cap)∧∀i (hi:i<dl.length),∃ad,A=some ad∧w'.cell? (ad.add i)=some (.string dl[i])):=Lib.hid fun w' hb=>by
  obtain ⟨_,_,_,c3,_⟩:=(h.below hb).cells
  rw [hdv] at c3
  refine ⟨c3,fun i hi=> ?_⟩
  obtain ⟨ad,u,hA,hbl,hu,hc⟩:=((hrd.below hb).more hb.size).at_ hi
  refine ⟨ad,hA, ?_⟩
  rw [hc,←hu]
  simp [zak,hi]
 have HFin:Hid (∀w' A' cap',Below W.heap.size W w'→w'.ownsRow W.heap.size 9 1 (.slice A' (zdl dl z v).length cap') (zdl dl z v).length (zak (zdl dl z v))→w'.cell? ⟨p.mb,3,none⟩=some (.slice A dl.length cap)∧w'.frozen? ⟨p.mb,3,none⟩=false∧RefDrainB B p c (n+1) (drainS s z v) W (.returned (.int .i64 0)) (w'.setCell ⟨p.mb,3,none⟩ (.slice A' (zdl dl z v).length cap'))):=Lib.hid fun w' A' cap' hb ho=>by
  have h':=h.below hb
  have hlen:(zdl dl z v).length≤n+1:=by
   unfold zdl
   rw [List.length_append]
   have:=List.length_filter_le (fun y=> !decide (y=z)) dl
   cases v<;>simp<;>omega
  obtain ⟨p1,r1,e1,t1,b1,v1⟩:=h'.turnD (dv':= .slice A' (zdl dl z v).length cap') (dr':=fun y=>if y=z then v else s.dr y) (nd':=s.nd+1) (zcQ ho hB) hlen (fun x=>drainL_mem d3)
  exact ⟨(HC.out w' hb).1,h'.blk.frozen 3,rfl,p1,r1,e1,(zam.of_below hb).then t1,fun b hb'=>by
   rcases b1 b hb' with h3|h3
   ·exact .inl h3
   ·exact .inr (Nat.le_trans hb.size h3),fun g hg=>by
   rw [v1] at hg
   exact .inr (own_ge ho hg)⟩
 have hdl:dl.length≤1000:=by omega
 have c0:=h.cells.1
 have hRef:=Below.refl W.heap.size W
 have HLen:Hid (∀i,i≤dl.length→((dl.take i).filter fun y=> !decide (y=z)).length≤1000):=Lib.hid fun i hi=>by
  have:=List.length_filter_le (fun y=> !decide (y=z)) (dl.take i)
  rw [List.length_take] at this
  omega
 clear h hB hR hM d1 d2 d3 hdv hrd hcap hz
 go_enter Tryz.func23,Tryz.ntmps23
 go_wp2_with fail
 refine HF.out.mono ?_
 rintro e w1 ⟨k1,rfl,rfl⟩
 have hk1:¬(k1:Int)<0:=by omega
 go_wp2_with fail
 go_loopw [7,8] (fun lv iv wr=>∃(i m:Nat) (A':Option Addr) (cap':Nat),i≤dl.length∧lv= .slice A' m cap'∧iv= .int .i64 (i:Int)∧Hid (((dl.take i).filter fun y=> !decide (y=z)).length=m)∧Hid (wr.ownsRow W.heap.size 9 1 (.slice A' m cap') m (zak ((dl.take i).filter fun y=> !decide (y=z))))∧Hid (Below W.heap.size W wr)) (fun _ iv _=>dl.length+1- (intOf iv).toNat)
 case atStart=>exact ⟨0,0,none,0,Nat.zero_le _,rfl,rfl,Lib.hid rfl,Lib.hid (World.ownsRow_nil _ _ _ _),Lib.hid hRef⟩
 case round=>
  obtain ⟨i,m,A',cap',hile,rfl,rfl,hm,hO,hb⟩:=hrel
  obtain ⟨c3,hcx⟩:=HC.out wr hb.out
  by_cases hil:i<dl.length
  ·have hil2:(i:Int)<dl.length:=by omega
   obtain ⟨ad,rfl,cx⟩:=hcx i hil
   have hst:=zec hil (fun y=> !decide (y=z))
   have hmb:=HLen.out i hile
   rw [hm.out] at hmb
   by_cases he:dl[i]=z
   ·have x1:(dl[i].toList==z.toList)=true:=by rw [str_eq];simpa using he
    have x2:(dl[i].toList !=z.toList)=false:=by rw [bne,x1];rfl
    rw [if_neg (by simp [he])] at hst
    have HM2:Hid (((dl.take (i+1)).filter fun y=> !decide (y=z)).length=m):=Lib.hid (by rw [hst];exact hm.out)
    have HO2:Hid (wr.ownsRow W.heap.size 9 1 (.slice A' m cap') m (zak ((dl.take (i+1)).filter fun y=> !decide (y=z)))):=Lib.hid (by rw [hst];exact hO.out)
    clear he hst hO hm hcx
    generalize dl[i]=x at*
    go_wp2_with fail
    go_roundw
    case rel=>exact ⟨i+1,m,A',cap',by omega,rfl,by go_num,HM2,HO2,hb⟩
    case measure=>simp [intOf];omega
   ·have x1:(dl[i].toList==z.toList)=false:=by rw [str_eq];simpa using he
    have x2:(dl[i].toList !=z.toList)=true:=by rw [bne,x1];rfl
    rw [if_pos (by simp [he])] at hst
    have hbA:=(Below.refl wr.heap.size wr).alloc (Nat.le_refl _) (.cells #[.string dl[i]] 9)
    have HRW:Hid ((wr.alloc (.cells #[.string dl[i]] 9)).ownsRow W.heap.size 9 1 (.slice A' m cap') m (zak ((dl.take i).filter fun y=> !decide (y=z)))):=Lib.hid (own_below hO.out hbA)
    have HNW:Hid (Reads (wr.alloc (.cells #[.string dl[i]] 9)) (wr.alloc (.cells #[.string dl[i]] 9)).heap.size 1 (some ⟨wr.heap.size,0,none⟩) 1 [.string dl[i]]):=Lib.hid (zbq (Blk.new wr 9 [Value.string dl[i]].toArray))
    have HSZ:Hid (W.heap.size≤(wr.alloc (.cells #[.string dl[i]] 9)).heap.size):=Lib.hid (Nat.le_trans hb.out.size hbA.size)
    have HAP:Hid (∀v' W',W'.ownsRow W.heap.size 9 1 v' (m+1) (zak ((dl.take i).filter fun y=> !decide (y=z))++[.string dl[i]])→(wr.alloc (.cells #[.string dl[i]] 9)).grownBy W' (Value.slice A' m cap').ownBlock→∃A2 cap2,v'= .slice A2 (m+1) cap2∧Hid (((dl.take (i+1)).filter fun y=> !decide (y=z)).length=m+1)∧Hid (W'.ownsRow W.heap.size 9 1 (.slice A2 (m+1) cap2) (m+1) (zak ((dl.take (i+1)).filter fun y=> !decide (y=z))))∧Hid (Below W.heap.size W W')):=Lib.hid fun v' W' h1 h2=>by
     obtain ⟨A2,cap2,rfl,_⟩:=zai h1
     refine ⟨A2,cap2,rfl,Lib.hid (by rw [hst];simp [hm.out]),Lib.hid ?_,Lib.hid (za9 (zaa hb.out hbA) HRW.out h2)⟩
     rw [hst]
     simpa [zak] using h1
    clear he hst hO hm hcx hbA hb
    generalize dl[i]=x at*
    generalize zak ((dl.take i).filter fun y=> !decide (y=z))=xs at*
    go_wp2_with (first
     |(at_builtin
       go_must (refine zac _ rfl (.tmp 34) (.tmp 42) _ rfl W.heap.size 9 i0 _ 1 16 Tryz.underlying24 hi0 hz0 hz1 hz2 rfl (by omega) (.slice A' m cap') m xs rfl HRW.out _ (some ⟨wr.heap.size,0,none⟩) 1 1 [.string x] rfl HNW.out (by simp [Value.oneCell']) (by simp only [maxLen];omega) (by omega) HSZ.out ?_)
       intro v1 w5 hown1 hg1 _
       obtain ⟨A2,cap2,hv2,HM2,HO2,HB2⟩:=HAP.out _ _ hown1 hg1
       subst hv2
       clear hown1 hg1))
    go_roundw
    case rel=>exact ⟨i+1,m+1,A2,cap2,by omega,rfl,by go_num,HM2,HO2,HB2⟩
    case measure=>simp [intOf];omega
  ·obtain rfl:i=dl.length:=by omega
   have hge:¬(dl.length:Int)<dl.length:=by omega
   have hmb:=HLen.out _ hile
   rw [hm.out] at hmb
   have hm2:=hm.out
   have hO2:=hO.out
   rw [List.take_length] at hm2 hO2
   cases v with
   |false=>
    have e:zdl dl z false=dl.filter fun y=> !decide (y=z):=by unfold zdl;simp
    rw [e,hm2] at HFin
    have hfz:=HFin.out wr A' cap' hb.out hO2
    obtain ⟨_,f3,hQ⟩:=hfz
    have HQ:=Lib.hid hQ
    clear hQ hm hO hb hcx hO2 HFin e
    go_wp2_with fail
    go_ret
    exact HQ.out
   |true=>
    have e:zdl dl z true=(dl.filter fun y=> !decide (y=z))++[z]:=by unfold zdl;simp
    have hbA:=(Below.refl wr.heap.size wr).alloc (Nat.le_refl _) (.cells #[.string z] 9)
    have HRW:Hid ((wr.alloc (.cells #[.string z] 9)).ownsRow W.heap.size 9 1 (.slice A' m cap') m (zak (dl.filter fun y=> !decide (y=z)))):=Lib.hid (own_below hO2 hbA)
    have HNW:Hid (Reads (wr.alloc (.cells #[.string z] 9)) (wr.alloc (.cells #[.string z] 9)).heap.size 1 (some ⟨wr.heap.size,0,none⟩) 1 [.string z]):=Lib.hid (zbq (Blk.new wr 9 [Value.string z].toArray))
    have HSZ:Hid (W.heap.size≤(wr.alloc (.cells #[.string z] 9)).heap.size):=Lib.hid (Nat.le_trans hb.out.size hbA.size)
    have el:(zdl dl z true).length=m+1:=by rw [e];simp [hm2]
    rw [el] at HFin
    have HAP:Hid (∀v' W',W'.ownsRow W.heap.size 9 1 v' (m+1) (zak (dl.filter fun y=> !decide (y=z))++[.string z])→(wr.alloc (.cells #[.string z] 9)).grownBy W' (Value.slice A' m cap').ownBlock→∃A2 cap2,v'= .slice A2 (m+1) cap2∧W'.cell? ⟨p.mb,3,none⟩=some (.slice A dl.length cap)∧W'.frozen? ⟨p.mb,3,none⟩=false∧Hid (RefDrainB B p c (n+1) (drainS s z true) W (.returned (.int .i64 0)) (W'.setCell ⟨p.mb,3,none⟩ (.slice A2 (m+1) cap2)))):=Lib.hid fun v' W' h1 h2=>by
     obtain ⟨A2,cap2,rfl,_⟩:=zai h1
     obtain ⟨q1,q2,q3⟩:=HFin.out W' A2 cap2 (za9 (zaa hb.out hbA) HRW.out h2) (by rw [e];simpa [zak] using h1)
     exact ⟨A2,cap2,rfl,q1,q2,Lib.hid q3⟩
    clear hm hO hb hcx hO2 HFin e el hbA
    generalize zak (dl.filter fun y=> !decide (y=z))=xs at*
    go_wp2_with (first
     |(at_builtin
       go_must (refine zac _ rfl (.tmp 45) (.tmp 47) _ rfl W.heap.size 9 i0 _ 1 16 Tryz.underlying24 hi0 hz0 hz1 hz2 rfl (by omega) (.slice A' m cap') m xs rfl HRW.out _ (some ⟨wr.heap.size,0,none⟩) 1 1 [.string z] rfl HNW.out (by simp [Value.oneCell']) (by simp only [maxLen];omega) (by omega) HSZ.out ?_)
       intro v1 w5 hown1 hg1 _
       obtain ⟨A2,cap2,hv2,c3b,f3b,HQ⟩:=HAP.out _ _ hown1 hg1
       subst hv2
       clear hown1 hg1))
    go_ret
    exact HQ.out
end
end Go.Proofs.YthkfhfldoniolaaGreatDoor
namespace Go.Proofs.YthkfhfldoniolaaGreatDoor
open Go.RowKit
def zcz (B:Nat) (p:RBp) (c:zb7) (n:Nat) (r:(ByteArray×Bool×Nat)×BS) (W:World) (e:Ending) (w':World):Prop:=
 e= .returned (.tuple #[.string r.1.1,.bool r.1.2.1,.int .i64 (r.1.2.2:Int)])∧zaZ B p c n r.2 W w'
section
variable {W:World} {B n:Nat} {p:RBp} {c:zb7} {s:BS}
structure PickIn (B:Nat) (p:RBp) (c:zb7) (n:Nat) (s1:BS) (key now:Nat) (W w1:World):Prop where
 cs:∀w2,Below w1.heap.size w1 w2→w2.cell? ⟨p.mb,0,none⟩=some (.pointer (some ⟨p.mh,0,none⟩))∧w2.cell? ⟨p.mb,1,none⟩=some (.pointer (some ⟨p.mf,0,none⟩))∧w2.cell? ⟨p.mb,2,none⟩=some (.int .i64 (c.size:Int))
 up:∀w2 x,Below w1.heap.size w1 w2→Calls Tryz.prog 39 #[.pointer (some ⟨p.mh,0,none⟩),.string x] w2 fun e w'=>e= .returned (.bool (ze0 s1.st x))∧w2=w'
 ups:∀w2,Below w1.heap.size w1 w2→Calls Tryz.prog 25 #[.pointer (some ⟨p.mh,0,none⟩)] w2 (zaL (ups s1.st) w2)
 dr:∃(dl:List ByteArray) (A:Option Addr) (cap:Nat),(∀x,s1.dr x=has dl x)∧∀w2,Below w1.heap.size w1 w2→w2.cell? ⟨p.mb,3,none⟩=some (.slice A dl.length cap)∧∀x,Calls Tryz.prog 41 #[.slice A dl.length cap,.string x] w2 fun e w'=>e= .returned (.int .i64 (idx dl x))∧w2=w'
 put:∀w2 x,Below w1.heap.size w1 w2→isName x=true→x.size≤maxLen→Calls Tryz.prog 40 #[.pointer (some ⟨p.mf,0,none⟩),.int .u64 (key:Int),.string x,.int .i64 (now:Int)] w2 fun e w'=>e= .returned (.int .i64 0)∧zaZ B p c n { s1 with fs:=(now,zeg s1.fs.2 ⟨key,x,(now:Int)+c.time⟩) } W w'
 back:∀w2,Below w1.heap.size w1 w2→zaZ B p c n s1 W w2
theorem pickIn_of {s1:BS} {key now:Nat} {w1:World} (h:zaZ B p c n s1 W w1) (hB:B≤W.heap.size) (hr:zde s1.fs.2) (hl:s1.fs.1≤now) (hn:now≤1000000000) (ht:c.time≤1000) (hnn:n≤900):PickIn B p c n s1 key now W w1:=by
 obtain ⟨p1,r1,e1,t1,b1,v1⟩:=h
 have hB1:=Nat.le_trans hB t1.size
 obtain ⟨dl,d1,d2,d3⟩:=r1.d
 obtain ⟨A,cap,hdv,hrd,_⟩:=zai d1
 refine ⟨fun w2 hb=> ?_,fun w2 x hb=> ?_,fun w2 hb=> ?_,⟨dl,A,cap,fun x=> ?_,fun w2 hb=>⟨?_,fun x=> ?_⟩⟩,fun w2 x hb hx hz=> ?_,fun w2 hb=>zaZ.link e1 t1 b1 v1 (r1.to_below hb)⟩
 ·obtain ⟨a,b,d,_⟩:=(r1.below hb).cells
  rw [e1.1] at a b d
  rw [e1.2.1] at a
  rw [e1.2.2] at b
  exact ⟨a,b,d⟩
 ·have:=(r1.below hb).isUp x
  rw [e1.2.1] at this
  exact this
 ·obtain ⟨rs,hR,hM⟩:=(r1.below hb).h
  have:=refUps w2 hR (by have:=hM.le;have:=hM.len;omega)
  rw [←hM.ups] at this
  rw [e1.2.1] at this
  exact this
 ·rw [Bool.eq_iff_iff,d3 x,zbw]
 ·obtain ⟨_,_,_,a,_⟩:=(r1.below hb).cells
  rw [e1.1,hdv] at a
  exact a
 ·exact zfz A cap w2.heap.size dl x w2 ((hrd.below hb).more hb.size) (by unfold maxLen;omega)
 ·have r2:=r1.below hb
  have:=ref_put_ok key x now w2 r2.f hr (Nat.le_trans hB1 hb.size) hz hx hl (by omega) (by omega)
  rw [e1.2.2] at this
  refine this.mono fun e w' ⟨a,fv',hf,ht⟩=>⟨a,zaZ.link e1 (t1.zd6 hb) (fun b hb'=>b1 b hb') v1 (r2.turnF (fs':=(now,zeg s1.fs.2 ⟨key,x,(now:Int)+c.time⟩)) (by rw [e1.2.2];exact hf) (by rw [e1.2.2];exact ht))⟩
theorem refGetB (key now:Nat) (h:zcE W B p c n s) (hr:zde s.fs.2) (h1:s.fs.1≤now) (h2:now≤1000000000):
 Calls Tryz.prog 38 #[.pointer (some ⟨p.mf,0,none⟩),.int .u64 (key:Int),.int .i64 (now:Int)] W fun e w'=>e= .returned (gotN (ze1 s.fs.2 key now) 0)∧zaZ B p c n { s with fs:=(now,s.fs.2) } W w':=
 (ref_get_ok key now W h.f hr h1 (by omega)).mono fun e w' ⟨a,fv',hf,ht⟩=>⟨by rw [a];unfold gotR gotN;cases ze1 s.fs.2 key now<;>rfl,h.turnF (fs':=(now,s.fs.2)) hf ht⟩
end
section
variable {W:World} {B n:Nat} {p:RBp} {c:zb7} {s:BS}
set_option maxRecDepth 100000 in
theorem refPick_kept (key now:Nat) (x:ByteArray) (h:zcE W B p c n s) (hB:B≤W.heap.size) (hO:BOk c) (hs:hosts s.st=c.hosts) (hr:zde s.fs.2) (h1:s.fs.1≤now) (h2:now≤1000000000) (hn:n≤900) (hg:ze1 s.fs.2 key now=some x) (hu:ze0 s.st x=true):
 Calls Tryz.prog 21 #[.pointer (some ⟨p.mb,0,none⟩),.int .u64 (key:Int),.int .i64 (now:Int)] W (zcz B p c n ((x,true,0),{ s with fs:=(now,zeg s.fs.2 ⟨key,x,(now:Int)+c.time⟩) }) W):=by
 have HG:=Lib.hid (refGetB key now h hr h1 h2)
 rw [hg] at HG
 have hx:x∈c.hosts:=by have:=upOf_mem hu;rw [hs] at this;exact this
 have hxn:=(zal.1 hO.hf).2.1 x hx
 have hxz:=(zbN hO.hf).2 x hx
 have HIn:Hid (∀w1,zaZ B p c n { s with fs:=(now,s.fs.2) } W w1→PickIn B p c n { s with fs:=(now,s.fs.2) } key now W w1):=Lib.hid fun w1 h'=>pickIn_of h' hB hr (Nat.le_refl _) h2 hO.t2 hn
 have c1:=h.cells.2.1
 have HF:Hid (∀w',zaZ B p c n { s with fs:=(now,zeg s.fs.2 ⟨key,x,(now:Int)+c.time⟩) } W w'→zcz B p c n ((x,true,0),{ s with fs:=(now,zeg s.fs.2 ⟨key,x,(now:Int)+c.time⟩) }) W (.returned (.tuple #[.string x,.bool true,.int .i64 0])) w'):=Lib.hid fun w' h=>⟨rfl,h⟩
 generalize hQ:zcz B p c n ((x,true,0),{ s with fs:=(now,zeg s.fs.2 ⟨key,x,(now:Int)+c.time⟩) }) W=Q at*
 clear h hB hO hs hr h1 h2 hg hx
 subst hQ
 unfold gotN at HG
 dsimp only [Option.getD_some,Option.isSome_some] at HG
 go_enter Tryz.func21,Tryz.ntmps21
 go_wp2_with fail
 refine HG.out.mono ?_
 rintro e w1 ⟨rfl,h1⟩
 have HI:=HIn.out w1 h1
 obtain ⟨a0,a1,a2⟩:=HI.cs w1 (Below.refl _ _)
 have HU:=Lib.hid (HI.up w1 x (Below.refl _ _))
 rw [show ze0 ({ s with fs:=(now,s.fs.2) }:BS).st x=true from hu] at HU
 have HP:=Lib.hid (HI.put w1 x (Below.refl _ _) hxn hxz)
 clear HI h1 HIn HG
 go_wp2_with fail
 refine HU.out.mono ?_
 rintro e w2 ⟨rfl,rfl⟩
 go_wp2_with fail
 refine HP.out.mono ?_
 rintro e w3 ⟨rfl,h3⟩
 have HF3:=Lib.hid (HF.out w3 h3)
 clear h3 HP HF HU
 go_wp2_with fail
 go_ret3
 exact HF3.out
theorem spot_of (key size:Nat) {l:List ByteArray} (h0:l≠[]) (hf:zah l (size:Int)=none) (hU:U64 key):
 ∃T j k:Nat,Hid (l[k]? =some (zbn l size (Mx.turn key%size)))∧j<size∧k<l.length∧U64 T∧((T:Int).tmod (size:Int)=(j:Int))∧((T:Int)%(size:Int)=(j:Int))∧Hid ((za2 l size)[j]? =some (k:Int))∧Hid (∀w:World,Calls Tryz.prog 43 #[.int .u64 (key:Int)] w fun e w'=>e= .returned (.int .u64 (T:Int))∧w=w'):=by
 obtain ⟨_,_,m,hm,hm2,hm5,hd⟩:=zaG hf
 obtain rfl:size=m:=by omega
 have hj:Mx.turn key%size<size:=Nat.mod_lt _ (by omega)
 obtain ⟨k,hk1,hk2,hk3⟩:=zeG (List.length_pos_iff.2 h0) hm2 hd hj
 exact ⟨Mx.turn key,Mx.turn key%size,k,Lib.hid hk3,hj,hk2,Mx.turn_lt key,by rw [Int.ofNat_tmod],by omega,Lib.hid hk1,Lib.hid fun w=>zcY key w hU⟩
theorem pick_ways (o:Option ByteArray) (f:ByteArray→Bool) (h:∀x,o=some x→f x=false):o.isSome=false∨(o.isSome=true∧f (o.getD ⟨#[]⟩)=false):=by
 cases o with
 |none=>exact .inl rfl
 |some x=>exact .inr ⟨rfl,h x rfl⟩
def zet (c:zb7) (s:BS) (key now:Nat):(ByteArray×Bool×Nat)×BS:=
 if zaj s=[] then ((⟨#[]⟩,false,5),{ s with fs:=(now,s.fs.2) })
 else ((zbn (zaj s) c.size (Mx.turn key%c.size),false,0),{ s with fs:=(now,zeg s.fs.2 ⟨key,zbn (zaj s) c.size (Mx.turn key%c.size),(now:Int)+c.time⟩) })
set_option maxRecDepth 100000 in
theorem refPick_new (key now:Nat) (h:zcE W B p c n s) (hB:B≤W.heap.size) (hO:BOk c) (hs:hosts s.st=c.hosts) (hr:zde s.fs.2) (h1:s.fs.1≤now) (h2:now≤1000000000) (hn:n≤900) (hU:U64 key) (hg:∀x,ze1 s.fs.2 key now=some x→ze0 s.st x=false):
 Calls Tryz.prog 21 #[.pointer (some ⟨p.mb,0,none⟩),.int .u64 (key:Int),.int .i64 (now:Int)] W (zcz B p c n (zet c s key now) W):=by
 obtain ⟨i0,hi0,hz0,hz1,hz2⟩:=info_parts info_str
 have HG:=Lib.hid (refGetB key now h hr h1 h2)
 have hways:=pick_ways (ze1 s.fs.2 key now) (ze0 s.st) hg
 have HIn:Hid (∀w1,zaZ B p c n { s with fs:=(now,s.fs.2) } W w1→PickIn B p c n { s with fs:=(now,s.fs.2) } key now W w1):=Lib.hid fun w1 h'=>pickIn_of h' hB hr (Nat.le_refl _) h2 hO.t2 hn
 have c1:=h.cells.2.1
 have hup12:(ups s.st).length≤1000:=by
  have h3:=(zfn s.st).length_le
  have h4:=h.len
  rw [zek] at h3
  omega
 have hopen:zaj s=(ups s.st).filter fun y=> !s.dr y:=rfl
 have hsub:(zaj s).Sublist c.hosts:=by
  rw [←hs]
  unfold zaj
  exact (List.filter_sublist).trans (zfn s.st)
 have HEmp:Hid (∀w',zaj s=[]→zaZ B p c n { s with fs:=(now,s.fs.2) } W w'→zcz B p c n (zet c s key now) W (.returned (.tuple #[.string ⟨#[]⟩,.bool false,.int .i64 5])) w'):=Lib.hid fun w' h0 h=>by
  unfold zet
  rw [if_pos h0]
  exact ⟨rfl,h⟩
 have HFull:Hid (∀w' x,zaj s≠[]→x=zbn (zaj s) c.size (Mx.turn key%c.size)→zaZ B p c n { s with fs:=(now,zeg s.fs.2 ⟨key,x,(now:Int)+c.time⟩) } W w'→zcz B p c n (zet c s key now) W (.returned (.tuple #[.string x,.bool false,.int .i64 0])) w'):=Lib.hid fun w' x h0 hx h=>by
  unfold zet
  rw [if_neg h0,←hx]
  exact ⟨rfl,h⟩
 have HTab:Hid (zaj s≠[]→∀W' A c',zcr W' A c' (zaj s)→Calls Tryz.prog 42 #[.slice A (zaj s).length c',.int .i64 (c.size:Int)] W' (IntsPost (za2 (zaj s) c.size) W')):=Lib.hid fun h0 W' A c' hT=>(zcU (fun _=>⟨0,0,none⟩) (zaj s) c.size (zdB hO.tf hsub (List.length_pos_iff.2 h0))).ref W' A c' hT
 have HSp:Hid (zaj s≠[]→∃T j k:Nat,Hid ((zaj s)[k]? =some (zbn (zaj s) c.size (Mx.turn key%c.size)))∧j<c.size∧k<(zaj s).length∧U64 T∧((T:Int).tmod (c.size:Int)=(j:Int))∧((T:Int)%(c.size:Int)=(j:Int))∧Hid ((za2 (zaj s) c.size)[j]? =some (k:Int))∧Hid (∀w:World,Calls Tryz.prog 43 #[.int .u64 (key:Int)] w fun e w'=>e= .returned (.int .u64 (T:Int))∧w=w')):=Lib.hid fun h0=>spot_of key c.size h0 (zdB hO.tf hsub (List.length_pos_iff.2 h0)) hU
 have HNm:Hid (∀x∈zaj s,isName x=true∧x.size≤maxLen):=Lib.hid fun x hx=>⟨(zal.1 hO.hf).2.1 x (hsub.subset hx),(zbN hO.hf).2 x (hsub.subset hx)⟩
 have hsz:2≤c.size∧c.size≤503:=by
  obtain ⟨_,_,m,hm,hm2,hm5,_⟩:=zaG hO.tf
  omega
 have HQ:Hid (zcz B p c n (zet c s key now) W=zcz B p c n (zet c s key now) W):=Lib.hid rfl
 obtain ⟨pn,hpn⟩:∃pn,pn=zet c s key now:=⟨_,rfl⟩
 rw [←hpn] at HEmp HFull ⊢
 clear h hB hO hs hr h1 h2 hU hg hsub HQ hpn
 unfold gotN at HG
 generalize (ze1 s.fs.2 key now).isSome=b0 at*
 generalize (ze1 s.fs.2 key now).getD ⟨#[]⟩=s0 at*
 have HOp:=Lib.hid hopen
 clear hopen
 go_enter Tryz.func21,Tryz.ntmps21
 go_wp2_with fail
 refine HG.out.mono ?_
 rintro e w1 ⟨rfl,h1⟩
 have HI:=Lib.hid (HIn.out w1 h1)
 obtain ⟨a0,a1,a2⟩:=HI.out.cs w1 (Below.refl _ _)
 have HU:=Lib.hid (HI.out.up w1 s0 (Below.refl _ _))
 have HUps:=Lib.hid (HI.out.ups w1 (Below.refl _ _))
 unfold zaL at HUps
 have hst:({ s with fs:=(now,s.fs.2) }:BS).st=s.st:=rfl
 rw [hst] at HU HUps
 clear h1 HIn HG c1 hst
 generalize ze0 s.st s0=u0 at*
 rcases hways with rfl|⟨rfl,rfl⟩
 all_goals
  go_wp2_with fail
  refine HU.out.mono ?_
  rintro e w2 ⟨rfl,rfl⟩
  go_wp2_with fail
  refine HUps.out.mono ?_
  rintro e w3 ⟨A3,c3,rfl,ho3,hb3⟩
  have HO3:=Lib.hid ho3
  have HB3:=Lib.hid hb3
  clear ho3 hb3 HUps HU a0 a1 a2
  go_wp2_with fail
  obtain ⟨dl,Ad,cd,hdr,hdc⟩:=HI.out.dr
  have HDC:=Lib.hid hdc
  have HDR:=Lib.hid hdr
  clear hdc hdr
  go_loopw [13,15] (fun lv iv wr=>∃(i m:Nat) (A':Option Addr) (cap':Nat),i≤(ups s.st).length∧m≤i∧lv= .slice A' m cap'∧iv= .int .i64 (i:Int)∧Hid ((((ups s.st).take i).filter fun y=> !s.dr y).length=m)∧Hid (wr.ownsRow w3.heap.size 9 1 (.slice A' m cap') m (zak (((ups s.st).take i).filter fun y=> !s.dr y)))∧Hid (Below w3.heap.size w3 wr)) (fun _ iv _=>(ups s.st).length+1- (intOf iv).toNat)
  case atStart=>exact ⟨0,0,none,0,Nat.zero_le _,Nat.le_refl _,rfl,rfl,Lib.hid rfl,Lib.hid (World.ownsRow_nil _ _ _ _),Lib.hid (Below.refl _ _)⟩
  case round=>
   obtain ⟨i,m,A',cap',hile,hmi,rfl,rfl,hm,hO,hb⟩:=hrel
   have hbw:=zaa HB3.out hb.out
   by_cases hil:i<(ups s.st).length
   ·have hil2:(i:Int)<(ups s.st).length:=by omega
    obtain ⟨cd3,hix⟩:=HDC.out wr.drew (zad hbw)
    have HIX:=Lib.hid (hix (ups s.st)[i])
    obtain ⟨ad,u,hA,hbl,hu,hc⟩:=((Reads.zbv HO3.out).below hb.out).at_ hil
    subst hA
    have cx:wr.cell? (ad.add i)=some (.string (ups s.st)[i]):=by rw [hc,←hu];simp [zak,hil]
    have cxd:wr.drew.cell? (ad.add i)=some (.string (ups s.st)[i]):=cx
    have hst:=zec hil (fun y=> !s.dr y)
    have hdrx:=HDR.out (ups s.st)[i]
    have hdrx2:s.dr (ups s.st)[i]=has dl (ups s.st)[i]:=hdrx
    clear hix hu hc hdrx
    by_cases hin:s.dr (ups s.st)[i]=true
    ·rw [if_neg (by simp [hin])] at hst
     have hidx:decide (idx dl (ups s.st)[i]<0)=false:=by
      have h3:=zeJ dl (ups s.st)[i]
      rw [←hdrx2,hin] at h3
      simp only [decide_eq_true_eq] at h3
      simp;omega
     have HM2:Hid ((((ups s.st).take (i+1)).filter fun y=> !s.dr y).length=m):=Lib.hid (by rw [hst];exact hm.out)
     have HO2:Hid (wr.drew.ownsRow w3.heap.size 9 1 (.slice A' m cap') m (zak (((ups s.st).take (i+1)).filter fun y=> !s.dr y))):=Lib.hid (by rw [hst];exact own_below hO.out (zad (Below.refl _ _)))
     have HB4:=Lib.hid (zad hb.out)
     clear hst hin hdrx2 hm hO hb hbw hbl
     generalize (ups s.st)[i]=x at*
     generalize idx dl x=ix at*
     go_wp2_with fail
     go_region_held3 (fun w'=>w'.cell? ⟨p.mb,3,none⟩=some (.slice Ad dl.length cd)∧w'.cell? (ad.add i)=some (.string x)) (first|exact ⟨cd3,cxd⟩|go_keep) (first
      |(go_at_call 41
        refine HIX.out.mono ?_
        rintro e w5 ⟨rfl,rfl⟩))
     all_goals
      go_wp2_with fail
      go_roundw
      case rel=>exact ⟨i+1,m,A',cap',by omega,by omega,rfl,by go_num,HM2,HO2,HB4⟩
      case measure=>simp [intOf];omega
    ·rw [if_pos (by simp [hin])] at hst
     have hidx:decide (idx dl (ups s.st)[i]<0)=true:=by
      have h3:=zeJ dl (ups s.st)[i]
      rw [←hdrx2,Bool.eq_false_iff.2 hin] at h3
      simp only [decide_eq_false_iff_not] at h3
      simp;omega
     have hbA:=(Below.refl wr.drew.heap.size wr.drew).alloc (Nat.le_refl _) (.cells #[.string (ups s.st)[i]] 9)
     have HRW:Hid ((wr.drew.alloc (.cells #[.string (ups s.st)[i]] 9)).ownsRow w3.heap.size 9 1 (.slice A' m cap') m (zak (((ups s.st).take i).filter fun y=> !s.dr y))):=Lib.hid (own_below (own_below hO.out (zad (Below.refl _ _))) hbA)
     have HNW:Hid (Reads (wr.drew.alloc (.cells #[.string (ups s.st)[i]] 9)) (wr.drew.alloc (.cells #[.string (ups s.st)[i]] 9)).heap.size 1 (some ⟨wr.heap.size,0,none⟩) 1 [.string (ups s.st)[i]]):=Lib.hid (zbq (Blk.new wr.drew 9 [Value.string (ups s.st)[i]].toArray))
     have HSZ:Hid (w3.heap.size≤(wr.drew.alloc (.cells #[.string (ups s.st)[i]] 9)).heap.size):=Lib.hid (Nat.le_trans hb.out.size hbA.size)
     have HAP:Hid (∀v' W',W'.ownsRow w3.heap.size 9 1 v' (m+1) (zak (((ups s.st).take i).filter fun y=> !s.dr y)++[.string (ups s.st)[i]])→(wr.drew.alloc (.cells #[.string (ups s.st)[i]] 9)).grownBy W' (Value.slice A' m cap').ownBlock→∃A2 cap2,v'= .slice A2 (m+1) cap2∧Hid ((((ups s.st).take (i+1)).filter fun y=> !s.dr y).length=m+1)∧Hid (W'.ownsRow w3.heap.size 9 1 (.slice A2 (m+1) cap2) (m+1) (zak (((ups s.st).take (i+1)).filter fun y=> !s.dr y)))∧Hid (Below w3.heap.size w3 W')):=Lib.hid fun v' W' h1 h2=>by
      obtain ⟨A2,cap2,rfl,_⟩:=zai h1
      refine ⟨A2,cap2,rfl,Lib.hid (by rw [hst];simp [hm.out]),Lib.hid ?_,Lib.hid (za9 (zaa (zad hb.out) hbA) HRW.out h2)⟩
      rw [hst]
      simpa [zak] using h1
     clear hst hin hdrx2 hm hO hb hbw hbl hbA
     generalize (ups s.st)[i]=x at*
     generalize idx dl x=ix at*
     generalize zak (((ups s.st).take i).filter fun y=> !s.dr y)=xs at*
     go_wp2_with fail
     go_region_held3 (fun w'=>w'.cell? ⟨p.mb,3,none⟩=some (.slice Ad dl.length cd)∧w'.cell? (ad.add i)=some (.string x)) (first|exact ⟨cd3,cxd⟩|go_keep) (first
      |(go_at_call 41
        refine HIX.out.mono ?_
        rintro e w5 ⟨rfl,rfl⟩))
     all_goals
      go_wp2_with (first
       |(at_builtin
         go_must (refine zac _ rfl (.tmp 71) (.tmp 76) _ rfl w3.heap.size 9 i0 _ 1 16 Tryz.underlying24 hi0 hz0 hz1 hz2 rfl (by omega) (.slice A' m cap') m xs rfl HRW.out _ (some ⟨wr.heap.size,0,none⟩) 1 1 [.string x] rfl HNW.out (by simp [Value.oneCell']) (by simp only [maxLen];omega) (by omega) HSZ.out ?_)
         intro v1 w6 hown1 hg1 _
         obtain ⟨A2,cap2,hv2,HM2,HO2,HB2⟩:=HAP.out _ _ hown1 hg1
         subst hv2
         clear hown1 hg1))
      go_roundw
      case rel=>exact ⟨i+1,m+1,A2,cap2,by omega,by omega,rfl,by go_num,HM2,HO2,HB2⟩
      case measure=>simp [intOf];omega
   ·obtain rfl:i=(ups s.st).length:=by omega
    have hge:¬((ups s.st).length:Int)<(ups s.st).length:=by omega
    have hm2:=hm.out
    have hO2:=hO.out
    rw [List.take_length,←HOp.out] at hm2 hO2
    obtain ⟨a0,a1,a2⟩:=HI.out.cs wr hbw
    by_cases h0:zaj s=[]
    ·have hm0:m=0:=by rw [←hm2,h0];rfl
     subst hm0
     have HF:=Lib.hid (HEmp.out wr h0 (HI.out.back wr hbw))
     clear hm hO hb hm2 hO2 HEmp HFull hbw h0
     go_wp2_with fail
     go_ret3
     exact HF.out
    ·subst hm2
     obtain ⟨T,j,k,hkx,hj,hk,hT,htm,hte,hjx,HTO⟩:=HSp.out h0
     have hxs:=zbB (zaj s) c.size
     have hl0:0<(zaj s).length:=List.length_pos_iff.2 h0
     have hm0:((((zaj s).length:Nat):Int)==0)=false:=beq_eq_false_iff_ne.2 (by omega)
     have hm00:((zaj s).length==0)=false:=beq_eq_false_iff_ne.2 (by omega)
     have hkn:(zaj s)[k]? =some (zaj s)[k]:=List.getElem?_eq_getElem hk
     have hxe:(zaj s)[k]=zbn (zaj s) c.size (Mx.turn key%c.size):=by have:=hkx.out;rw [hkn] at this;exact Option.some.inj this
     have hnm:=HNm.out _ (List.getElem_mem hk)
     have HTA:=Lib.hid (HTab.out h0 wr A' cap' ⟨Reads.zbv hO2,zfO hO2,by unfold maxLen;omega,fun x hx=>(HNm.out x hx).2⟩)
     unfold IntsPost at HTA
     rw [hxs] at HTA
     have HFx:=Lib.hid (fun w' (hh:zaZ B p c n { s with fs:=(now,zeg s.fs.2 ⟨key,(zaj s)[k],(now:Int)+c.time⟩) } W w')=>HFull.out w' (zaj s)[k] h0 hxe hh)
     have HRo:=Lib.hid (fun w' (hb:Below wr.heap.size wr w')=>(show∃ad,A'=some ad∧w'.cell? (ad.add k)=some (.string (zaj s)[k]) from by
      obtain ⟨ad,u,hA,hbl,hu,hc⟩:=(Reads.zbv hO2).at_ hk
      refine ⟨ad,hA, ?_⟩
      rw [hb.cell (by rw [zaN];exact hbl),hc,←hu]
      simp [zak,hk]))
     have HPut:=Lib.hid (fun w2 (hb:Below w1.heap.size w1 w2)=>HI.out.put w2 (zaj s)[k] hb hnm.1 hnm.2)
     have HC:=Lib.hid (fun w2 (hb:Below w1.heap.size w1 w2)=>HI.out.cs w2 hb)
     have HBW:=Lib.hid hbw
     have hwz:IntKind.u64.wrap (c.size:Int)=(c.size:Int):=by rw [IntKind.wrap_u64];omega
     have hwj:IntKind.i64.wrap (j:Int)=(j:Int):=IntWalk.i64_in _ (by omega)
     have hsz0:¬(c.size:Int)=0:=by omega
     have hj2:(j:Int)<c.size:=by omega
     have hk2:(k:Int)<((zaj s).length:Int):=by omega
     clear hm hO hb hO2 HEmp HFull hbw h0 hkx hkn hxe hnm HTab HSp HNm HI HDC HDR HOp
     generalize (zaj s)[k]=x at*
     generalize hSl:za2 (zaj s) c.size=xs at*
     generalize (zaj s).length=ol at*
     have hz0:0≤(c.size:Int):=by omega
     have hsb:((c.size:Int)==0)=false:=beq_eq_false_iff_ne.2 hsz0
     have hsb2:(c.size==0)=false:=beq_eq_false_iff_ne.2 (by omega)
     have hsz1:¬c.size=0:=by omega
     generalize c.size=cz at*
     go_wp2_with fail
     refine HTA.out.mono ?_
     rintro e w8 ⟨A8,c8,rfl,hr8,hb8⟩
     have hrj:∃ad8,A8=some ad8∧∀w',Below w8.heap.size w8 w'→w'.cell? (ad8.add j)=some (.int .i64 (k:Int)):=by
      obtain ⟨ad8,u,hA,hbl,hu,hc⟩:=hr8.at_ hj
      refine ⟨ad8,hA,fun w' hb=> ?_⟩
      rw [hb.cell (by rw [zaN];exact hbl),hc,←hu,List.getElem?_map,hjx.out]
      rfl
     obtain ⟨ad8,rfl,hc8⟩:=hrj
     obtain ⟨ado,rfl,hco⟩:=HRo.out w8 hb8
     have hbw8:=zaa HBW.out hb8
     have cz2:=(HC.out w8.drew (zad hbw8)).2.2
     have c8d:=hc8 w8.drew (zad (Below.refl _ _))
     have cod:w8.drew.cell? (ado.add k)=some (.string x):=hco
     have HT8:=Lib.hid (HTO.out w8.drew)
     have HPP:=Lib.hid (HPut.out w8.drew (zad hbw8))
     have HCC:=Lib.hid (HC.out w8.drew (zad hbw8))
     clear hr8 hb8 hc8 hco hbw8 HTA HRo HTO HPut HC HBW
     go_wp2_with fail
     go_region_held3 (fun w'=>w'.cell? ⟨p.mb,2,none⟩=some (.int .i64 (cz:Int))∧w'.cell? (ad8.add j)=some (.int .i64 (k:Int))∧w'.cell? (ado.add k)=some (.string x)) (first|exact ⟨cz2,c8d,cod⟩|go_keep) (first
      |(go_at_call 43
        refine HT8.out.mono ?_
        rintro e w9 ⟨rfl,rfl⟩))
     all_goals
      obtain ⟨b0',b1',b2'⟩:=HCC.out
      clear cz2 c8d cod
      go_wp2_with fail
      refine HPP.out.mono ?_
      rintro e w10 ⟨rfl,h10⟩
      have HFF:=Lib.hid (HFx.out w10 h10)
      clear h10
      go_wp2_with fail
      go_ret3
      exact HFF.out
theorem refB_pick (key now:Nat) (h:zcE W B p c n s) (hB:B≤W.heap.size) (hO:BOk c) (hs:hosts s.st=c.hosts) (hr:zde s.fs.2) (h1:s.fs.1≤now) (h2:now≤1000000000) (hn:n≤900) (hU:U64 key):
 Calls Tryz.prog 21 #[.pointer (some ⟨p.mb,0,none⟩),.int .u64 (key:Int),.int .i64 (now:Int)] W (zcz B p c n (zbz c s key now) W):=by
 unfold zbz
 rw [if_pos (tick_zero h1 (by omega)),Int.toNat_natCast]
 cases hk:zee s key now with
 |some x=>
  unfold zee at hk
  cases hg:ze1 s.fs.2 key now with
  |none=>rw [hg] at hk;cases hk
  |some u=>
   rw [hg] at hk
   dsimp only at hk
   split at hk
   ·obtain rfl:=Option.some.inj hk
    exact refPick_kept key now u h hB hO hs hr h1 h2 hn hg (by assumption)
   ·cases hk
 |none=>
  refine refPick_new key now h hB hO hs hr h1 h2 hn hU fun x hx=> ?_
  unfold zee at hk
  rw [hx] at hk
  dsimp only at hk
  split at hk
  ·cases hk
  ·exact Bool.eq_false_iff.2 (by assumption)
end
end Go.Proofs.YthkfhfldoniolaaGreatDoor
namespace Go.Proofs.YthkfhfldoniolaaGreatDoor
open Go.RowKit
def NewRefB (c:zb7) (w:World) (e:Ending) (w':World):Prop:=∃p:RBp,e= .returned (.pointer (some ⟨p.mb,0,none⟩))∧zcE w' w.heap.size p c 0 (newS c)∧Below w.heap.size w w'
theorem refNewB (c:zb7) (A:Option Addr) (cp Bx:Nat) (w:World) (hr:Reads w Bx 1 A c.hosts.length (zak c.hosts)) (hB:Bx≤w.heap.size) (hl:c.hosts.length≤12):
 Calls Tryz.prog 18 #[.slice A c.hosts.length cp,.int .i64 (c.size:Int),.int .i64 (c.time:Int),.int .i64 (c.fall:Int),.int .i64 (c.rise:Int)] w (NewRefB c w):=by
 have HN:Hid (Calls Tryz.prog 36 #[.slice A c.hosts.length cp,.int .i64 (c.fall:Int),.int .i64 (c.rise:Int)] w fun e w'=>∃mp sv vs,e= .returned (.pointer (some ⟨mp,0,none⟩))∧zdx w' w.heap.size mp c.fall c.rise (zdi c.hosts) sv vs∧Below w.heap.size w w'):=Lib.hid (refNew A cp Bx c.hosts c.fall c.rise w hr hB hl)
 have HF:Hid (∀(mp:Nat) sv vs w1,zdx w1 w.heap.size mp c.fall c.rise (zdi c.hosts) sv vs→Below w.heap.size w w1→NewRefB c w (.returned (.pointer (some ⟨w1.heap.size+1,0,none⟩))) ((w1.alloc (.cells #[.int .i64 (c.time:Int),.int .i64 0,ze5] 70)).alloc (.cells #[.pointer (some ⟨mp,0,none⟩),.pointer (some ⟨w1.heap.size,0,none⟩),.int .i64 (c.size:Int),ze5,.int .i64 0] 66))):=Lib.hid fun mp sv vs w1 hR hb=>by
  have b1:Below w1.heap.size w1 (w1.alloc (.cells #[.int .i64 (c.time:Int),.int .i64 0,ze5] 70)):=(Below.refl _ _).alloc (Nat.le_refl _) _
  have e1:(w1.alloc (.cells #[.int .i64 (c.time:Int),.int .i64 0,ze5] 70)).heap.size=w1.heap.size+1:=by simp
  have b2:Below (w1.alloc (.cells #[.int .i64 (c.time:Int),.int .i64 0,ze5] 70)).heap.size (w1.alloc (.cells #[.int .i64 (c.time:Int),.int .i64 0,ze5] 70)) _:=(Below.refl _ _).alloc (Nat.le_refl _) (.cells #[.pointer (some ⟨mp,0,none⟩),.pointer (some ⟨w1.heap.size,0,none⟩),.int .i64 (c.size:Int),ze5,.int .i64 0] 66)
  have b12:=zaa b1 b2
  have hF:=Blk.new w1 70 #[.int .i64 (c.time:Int),.int .i64 0,ze5]
  have hBl:=Blk.new (w1.alloc (.cells #[.int .i64 (c.time:Int),.int .i64 0,ze5] 70)) 66 #[.pointer (some ⟨mp,0,none⟩),.pointer (some ⟨w1.heap.size,0,none⟩),.int .i64 (c.size:Int),ze5,.int .i64 0]
  rw [e1] at hBl
  have hs:=hb.size
  refine ⟨⟨w1.heap.size+1,mp,w1.heap.size,sv,vs,ze5,ze5⟩,rfl,⟨hBl,⟨zdi c.hosts,hR.below b12,Mt.fresh _ hl⟩,⟨hF.below b2 hF.lt,World.ownsRow_nil _ _ _ _,Nat.zero_le _,hs⟩,⟨[],World.ownsRow_nil _ _ _ _,Nat.le_refl _,fun x=>by simp [newS]⟩,by show w.heap.size≤w1.heap.size+1;omega⟩,zaa hb b12⟩
 clear hr hB hl
 go_enter Tryz.func18,Tryz.ntmps18
 go_wp2_with fail
 refine HN.out.mono ?_
 rintro e w1 ⟨mp,sv,vs,rfl,hR,hb⟩
 have HQ:=Lib.hid (HF.out mp sv vs w1 hR hb)
 clear hR hb HN HF
 go_wp2
 go_ret
 exact HQ.out
section
variable {w w' W W':World} {B B' n:Nat} {p q:RBp} {c:zb7} {s:BS}
theorem zcE.base (h:zcE w B p c n s) (hB:B'≤B):zcE w B' p c n s:=by
 obtain ⟨rs,h1,h2⟩:=h.h
 obtain ⟨dl,d1,d2,d3⟩:=h.d
 exact ⟨h.blk,⟨rs,⟨h1.blk,zcQ h1.own hB,h1.len,fun i v r a b=>zcQ (h1.at_ i v r a b) hB,h1.apart,Nat.le_trans hB h1.base⟩,h2⟩,⟨h.f.blk,zcQ h.f.row hB,h.f.len,Nat.le_trans hB h.f.base⟩,⟨dl,zcQ d1 hB,d2,d3⟩,Nat.le_trans hB h.b⟩
end
end Go.Proofs.YthkfhfldoniolaaGreatDoor
