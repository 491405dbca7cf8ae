/-
  What the listed sentinel errors give a walk: each variable's cell, its error's cell, and that the errors differ. A law's arguments opened, and the row's last step for any law: true is returned, and all that was there stays.
-/
import Derived.Test.YthkfhfldoniolaaGreatDoorBaseA
import Derived.Test.YthkfhfldoniolaaGreatDoorChecked
import Derived.Test.YthkfhfldoniolaaGreatDoorRows
import Derived.LaidLaws
import Derived.LaidHandle
import Derived.LaidOnce
import Derived.Deep.DeepHandedRow
import Derived.Deep.DeepWitnessRowRef
import Derived.SliceStrings
import Derived.WideKeyArgs
import Derived.Carry
import Derived.MakeChecks
namespace Go.Proofs.YthkfhfldoniolaaGreatDoor
open Go.RowKit
def IsSent (d:DataW Unit):Prop:=∃text,d= .iface "*errors.errorString" (.ptr (.agg [.lit (.string text)]))
theorem sent_star: "*errors.errorString"= "*"++ "errors.errorString":=by decide
theorem sent_row (u:TypeId) (h:Tryz.prog.typeName? 3 u=some "*errors.errorString"):u=355:=
 typeName_ptr_named (nm:= "errors.errorString") (by rw [←sent_star];kernel_rfl) (by kernel_rfl) (by decide) u (by rw [←sent_star];exact h)
theorem sent_cells:Tryz.prog.cellsOf 357=1:=by kernel_rfl
theorem zdI:Tryz.prog.cellsOf 9=1:=by kernel_rfl
def SentAt (W:World) (x:Nat×Addr):Prop:=
 W.cell? ⟨x.1,0,none⟩=some (.iface 355 (.pointer (some x.2)))∧(∃s,W.cell? x.2=some (.string s))∧(∃c t,W.heap[x.2.block]? =some (.cells c t (0,0)))∧(∃c t,W.heap[x.1]? =some (.cells c t (0,0)))
set_option maxRecDepth 100000 in
theorem laid_list {W:World}:∀(l:List (String×DataW Unit)) (ps:List MemPlace),DataW.LaidVars Tryz.prog W l ps→(∀x∈l,IsSent x.2)→
 (l.map (fun x=>(Tryz.prog.globalNamed x.1).bind fun g=>(Tryz.prog.globals[g]?).map (·.type))=l.map fun _=>some 37)→
 (∀b off,MemPlace.cell b off∈ps→(∃c t,W.heap[b]? =some (.cells c t (0,0)))∧∀u v,W.cell? ⟨b,off,none⟩=some (.iface u v)→Value.okWide Tryz.prog W .any 0 u v)→
 ∃L:List (Nat×Addr),L.map (fun x=>some x.1)=l.map (fun x=>Tryz.prog.globalNamed x.1)∧ps=L.flatMap (fun x=>[MemPlace.cell x.1 0,MemPlace.cell x.2.block x.2.off])∧∀x∈L,SentAt W x
 |[],ps,h,_,_,_=>⟨[],rfl,h,fun x hx=>absurd hx (by simp)⟩
 |(n,d)::r,ps,h,hs,ht,hrows=>by
    obtain ⟨g,t,cs,f,p,q,hg,hty,hv,hd,hq,rfl⟩:=h
    obtain ⟨text,rfl⟩:IsSent d:=hs (n,d) List.mem_cons_self
    simp only [List.map_cons,List.cons.injEq] at ht
    obtain ⟨ht0,ht⟩:=ht
    rw [hg,Option.bind_some,hty] at ht0
    obtain rfl:t=37:=Option.some.inj ht0
    obtain ⟨l0⟩:=cs
    have ok0:∀u v,l0=[.iface u v]→Value.okWide Tryz.prog W .any 0 u v:=fun u v e=>by
     subst e
     exact (hrows g 0 (by simp [MemPlace.row])).2 u v (by simpa using World.var?_cell hg hv 0)
    obtain ⟨a,s,rfl,hc,_,_,rfl⟩:=errorString_of_trod Tryz.underlying37 sent_row Tryz.underlying355 Tryz.underlying357 rfl rfl Tryz.underlying9 sent_cells zdI hd ok0
    obtain ⟨L,h1,rfl,h3⟩:=laid_list r q hq (fun x hx=>hs x (List.mem_cons_of_mem _ hx)) ht (fun b off hp=>hrows b off (by simp [hp]))
    refine ⟨(g,a)::L,by simp [h1,hg],by simp [MemPlace.row],fun x hx=> ?_⟩
    rcases List.mem_cons.1 hx with rfl|hx
    ·exact ⟨by simpa using World.var?_cell hg hv 0,⟨s,hc⟩,(hrows a.block a.off (by simp [MemPlace.row])).1,(hrows g 0 (by simp [MemPlace.row])).1⟩
    ·exact h3 x hx
structure ErrsAt (W:World) (ea:Nat→Addr) (gs:List Nat):Prop where
 at_:∀g∈gs,SentAt W (g,ea g)
 ne:∀g∈gs,∀g'∈gs,g≠g'→ea g≠ea g'
theorem zfI:∀(L:List (Nat×Addr)),(L.flatMap fun x=>[MemPlace.cell x.1 0,MemPlace.cell x.2.block x.2.off]).Nodup→(L.map (·.1)).Nodup∧(L.map (·.2)).Nodup
 |[],_=>by simp
 |x::L,h=>by
   rw [List.flatMap_cons,List.nodup_append] at h
   obtain ⟨_,h2,h3⟩:=h
   obtain ⟨h4,h5⟩:=zfI L h2
   refine ⟨List.nodup_cons.2 ⟨fun hm=> ?_,h4⟩,List.nodup_cons.2 ⟨fun hm=> ?_,h5⟩⟩
   ·obtain ⟨y,hy,e⟩:=List.mem_map.1 hm
    refine h3 (.cell x.1 0) (by simp) (.cell x.1 0) (List.mem_flatMap.2 ⟨y,hy,by simp [e]⟩) rfl
   ·obtain ⟨y,hy,e⟩:=List.mem_map.1 hm
    refine h3 (.cell x.2.block x.2.off) (by simp) (.cell x.2.block x.2.off) (List.mem_flatMap.2 ⟨y,hy,by simp [e]⟩) rfl
theorem find_of_mem:∀(L:List (Nat×Addr)),(L.map (·.1)).Nodup→∀x∈L,L.find? (fun y=>y.1==x.1)=some x
 |[],_,x,hx=>absurd hx (by simp)
 |y::L,hn,x,hx=>by
   rw [List.map_cons,List.nodup_cons] at hn
   rcases List.mem_cons.1 hx with rfl|hx
   ·simp
   ·have hne:y.1≠x.1:=fun e=>hn.1 (List.mem_map.2 ⟨x,hx,e.symm⟩)
    rw [List.find?_cons]
    rw [show (y.1==x.1)=false from by simpa using hne]
    exact find_of_mem L hn.2 x hx
theorem errs_of_laid {W:World} {l:List (String×DataW Unit)} (h:laidMet Tryz.prog l W) (hs:∀x∈l,IsSent x.2)
 (ht:l.map (fun x=>(Tryz.prog.globalNamed x.1).bind fun g=>(Tryz.prog.globals[g]?).map (·.type))=l.map fun _=>some 37)
 (gs:List Nat) (hg:l.map (fun x=>Tryz.prog.globalNamed x.1)=gs.map some):∃ea,ErrsAt W ea gs:=by
 obtain ⟨ps,hv,hnd,hrows⟩:=h
 obtain ⟨L,h1,rfl,h3⟩:=laid_list l ps hv hs ht hrows
 obtain ⟨n1,n2⟩:=zfI L hnd
 have hgs:gs=L.map (·.1):=by
  have:gs.map some=(L.map (·.1)).map some:=by rw [←hg,←h1,List.map_map];rfl
  exact (List.map_inj_right (fun _ _=>Option.some.inj)).1 this
 have key:∀x∈L,((L.find? fun y=>y.1==x.1).map (·.2)).getD ⟨0,0,none⟩=x.2:=fun x hx=>by rw [find_of_mem L n1 x hx];rfl
 refine ⟨fun g=>((L.find? fun y=>y.1==g).map (·.2)).getD ⟨0,0,none⟩,fun g hgm=> ?_,fun g hgm g' hgm' hne he=> ?_⟩
 ·rw [hgs] at hgm
  obtain ⟨x,hx,rfl⟩:=List.mem_map.1 hgm
  have:=h3 x hx
  rw [key x hx]
  exact this
 ·rw [hgs] at hgm hgm'
  obtain ⟨x,hx,rfl⟩:=List.mem_map.1 hgm
  obtain ⟨y,hy,rfl⟩:=List.mem_map.1 hgm'
  rw [key x hx,key y hy] at he
  obtain ⟨i,hi,ei⟩:=List.mem_iff_getElem.1 hx
  obtain ⟨j,hj,ej⟩:=List.mem_iff_getElem.1 hy
  have hij:i≠j:=by rintro rfl;exact hne (by rw [←ei,←ej])
  have:=(List.pairwise_iff_getElem.1 n2)
  rcases Nat.lt_or_gt_of_ne hij with hlt|hlt
  ·exact this i j (by simpa using hi) (by simpa using hj) hlt (by simp [ei,ej,he])
  ·exact this j i (by simpa using hj) (by simpa using hi) hlt (by simp [ei,ej,he])
theorem lt_of_cell {W:World} {g:Nat} {v:Value} (h:W.cell? ⟨g,0,none⟩=some v):g<W.heap.size:=by
 rcases Nat.lt_or_ge g W.heap.size with h'|h'
 ·exact h'
 ·simp [World.cell?,Array.getElem?_eq_none h'] at h
theorem ErrsAt.cell {W:World} {ea:Nat→Addr} {gs:List Nat} (h:ErrsAt W ea gs) {g:Nat} (hg:g∈gs):W.cell? ⟨g,0,none⟩=some (.iface 355 (.pointer (some (ea g)))):=(h.at_ g hg).1
end Go.Proofs.YthkfhfldoniolaaGreatDoor
namespace Go.Proofs.YthkfhfldoniolaaGreatDoor
open Go.RowKit Go.WideShapes Go.ChangeShapes
section
variable {H:Type} {enc:TypeId×Value→H} {P:Program}
theorem args_stay (hl:laidOutB P=true) {W W':World} (hb:Below W.heap.size W W') (sp:Nat→Bool):
 ∀{ts:List TypeId} {vs:List Value} {ds:List (DataW H)} {ps:List MemPlace},(∀t∈ts,P.readableRec t=true∧t<P.types.size)→DataW.TrodAll enc P W 0 (fun _=>true) true ts vs ds ps→
  (∀p∈ps,p.block<W.heap.size)→(∀p∈ps,sp p.block=true)→DataW.TrodAll enc P W' 0 sp true ts vs ds ps
 |[],[],[],_,_,h,_,_=>h
 |_::_,_::_,_::_,_,ht,⟨p,q,h1,h2,e⟩,hlt,hs=>
  ⟨p,q,WideElems.Trod_stays hl (ht _ List.mem_cons_self).1 (ht _ List.mem_cons_self).2 h1 (fun x hx=>hb.same (hlt x (by rw [e];exact List.mem_append_left _ hx))) (fun x hx=>hs x (by rw [e];exact List.mem_append_left _ hx)),
    args_stay hl hb sp (fun t h=>ht t (List.mem_cons_of_mem _ h)) h2 (fun x hx=>hlt x (by rw [e];exact List.mem_append_right _ hx)) (fun x hx=>hs x (by rw [e];exact List.mem_append_right _ hx)),e⟩
theorem law_post {f:Func} {s:ChangeSpec} {W W':World} {args:Array Value} {ds gs:List (DataW H)} {before:List MemPlace} {tb:TypeId} (hl:laidOutB P=true)
 (hts:(f.params.toList.all fun t=>P.readableRec t&&decide (t<P.types.size))=true) (hvars:s.vars=[]) (hres:f.resultTypes= #[tb]) (htb:P.underlying tb=some .bool)
 (hfn:(s.fn H (ds++gs)).results=[.lit (.bool true)]∧(s.fn H (ds++gs)).args=ds∧(s.fn H (ds++gs)).vars=[])
 (hW:DataW.Whole enc P f.params.toList s.vars false W args.toList ds gs before) (hb:Below W.heap.size W W'):s.post enc P f false true false false W args (.bool true) W':=by
 have hW':=hW
 obtain ⟨p,q,hA,hV,rfl,_,_⟩:=hW
 rw [hvars] at hV
 obtain ⟨rfl,rfl⟩:=trodVars_none hV
 have hlt:∀x∈p,x.block<W.heap.size:=fun x hx=>hW'.lt x (by simpa using hx)
 have hT:∀t∈f.params.toList,P.readableRec t=true∧t<P.types.size:=fun t ht=>by
  have:=List.all_eq_true.1 hts t ht
  simpa [Bool.and_eq_true] using this
 refine Post.post_of_below (pa:=p) (pv:=[]) hW' (fun b sp hd=> ?_) (fun sp hsp=> ?_) (fun sp _=> ?_) rfl hb ?_
 ·rw [hfn.1,hres]
  exact trodAll_cons_mk (shut_bool htb _) trodAll_mk0
 ·rw [hfn.2.1]
  exact args_stay hl hb sp hT hA hlt (fun x hx=>hsp x (by simpa using hx))
 ·rw [hfn.2.2,hvars];rfl
 ·exact ok_one hres rfl (okWide_bool_mk htb _)
end
end Go.Proofs.YthkfhfldoniolaaGreatDoor
