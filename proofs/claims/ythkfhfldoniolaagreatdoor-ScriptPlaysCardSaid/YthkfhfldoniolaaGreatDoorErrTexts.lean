/-
  What a row that lists errors.errorType gives: the variable's cell; with all nine errors: what Code asks. A world for the witnesses: the settled one, each listed error laid. The texts of the listed errors.
-/
import Derived.Test.YthkfhfldoniolaaGreatDoorCodeA
import Derived.LaidSub
import Derived.Test.YthkfhfldoniolaaGreatDoorLaidA
import Derived.Test.YthkfhfldoniolaaGreatDoorScrAct
namespace Go.Proofs.YthkfhfldoniolaaGreatDoor
open Go.RowKit
theorem h_et:Tryz.prog.globalNamed "errors.errorType"=some 9:=by kernel_rfl
theorem h_rt:(Tryz.prog.cutTypes.find? (·.1== "internal/reflectlite.rtype")).map (·.2)=some 229:=by kernel_rfl
theorem h_one:((List.range Tryz.prog.types.size).filter fun t=>Tryz.prog.rowNamed t [101,114,114,111,114])=[37]:=by kernel_rfl
theorem handle_of {W:World} {l:List (String×DataW Unit)} (h:laidMetH Tryz.prog l W) (hm:("errors.errorType",Rows.laid_errors_errorType)∈l):zbK W:=by
 have h':=(laidMetH_iff.1 h).2
 obtain ⟨name,u,ty,e1,e2,e3,e4,e5⟩:=h' _ (List.mem_filter.2 ⟨hm,rfl⟩)
 have en:name=[101,114,114,111,114]:=(Option.some.inj e1).symm
 subst en
 obtain rfl:=Option.some.inj (h_rt.symm.trans e2)
 have hm2:ty∈(List.range Tryz.prog.types.size).filter fun t=>Tryz.prog.rowNamed t [101,114,114,111,114]:=List.mem_filter.2 ⟨List.mem_range.2 e3,e4⟩
 rw [h_one] at hm2
 obtain rfl:=List.mem_singleton.1 hm2
 have hh:typeHandle Tryz.prog 37= .pointer (some ⟨23,37,none⟩):=by kernel_rfl
 rw [hh] at e5
 have:=World.var?_cell h_et e5 0
 exact this
theorem laid_of_handle {W:World} {l:List (String×DataW Unit)} (h:laidMetH Tryz.prog l W):laidMet Tryz.prog (l.filter fun x=>x.2.handleName?.isNone) W:=(laidMetH_iff.1 h).1
end Go.Proofs.YthkfhfldoniolaaGreatDoor
namespace Go.Proofs.YthkfhfldoniolaaGreatDoor
open Go.RowKit
noncomputable def low:Nat:=(World.holding Tryz.prog default ⟨#[],#[],[]⟩).heap.size
noncomputable def withHandle (h:Array Obj):Array Obj:=h.modify 9 fun
 | .cells _ t frozen=> .cells #[.iface 229 (.agg #[.pointer (some ⟨23,37,none⟩)])] t frozen
 |o=>o
end Go.Proofs.YthkfhfldoniolaaGreatDoor
namespace Go.Proofs.YthkfhfldoniolaaGreatDoor
open Go.RowKit
def sentD (text:List UInt8):DataW Unit:= .iface "*errors.errorString" (.ptr (.agg [.lit (.string text)]))
set_option maxRecDepth 100000 in
theorem laid_texts {W:World}:∀(l:List (String×DataW Unit)) (ps:List MemPlace),DataW.LaidVars Tryz.prog W l ps→(∀x∈l,IsSent x.2)→
 (l.map (fun x=>(Tryz.prog.globalNamed x.1).bind fun g=>(Tryz.prog.globals[g]?).map (·.type))=l.map fun _=>some 37)→
 (∀b off,MemPlace.cell b off∈ps→(∃c t,W.heap[b]? =some (.cells c t (0,0)))∧∀u v,W.cell? ⟨b,off,none⟩=some (.iface u v)→Value.okWide Tryz.prog W .any 0 u v)→
 ∀x∈l,∃g text a,∃s:ByteArray,Tryz.prog.globalNamed x.1=some g∧x.2=sentD text∧W.cell? ⟨g,0,none⟩=some (.iface 355 (.pointer (some a)))∧W.cell? a=some (.string s)∧s.data.toList=text
 |[],ps,h,_,_,_=>fun x hx=>absurd hx (by simp)
 |(n,d)::r,ps,h,hs,ht,hrows=>by
    obtain ⟨g,t,cs,f,p,q,hg,hty,hv,hd,hq,rfl⟩:=h
    obtain ⟨text,rfl⟩:IsSent d:=hs (n,d) List.mem_cons_self
    simp only [List.map_cons,List.cons.injEq] at ht
    obtain ⟨ht0,ht⟩:=ht
    rw [hg,Option.bind_some,hty] at ht0
    obtain rfl:t=37:=Option.some.inj ht0
    obtain ⟨l0⟩:=cs
    have ok0:∀u v,l0=[.iface u v]→Value.okWide Tryz.prog W .any 0 u v:=fun u v e=>by
     subst e
     exact (hrows g 0 (by simp [MemPlace.row])).2 u v (by simpa using World.var?_cell hg hv 0)
    obtain ⟨a,s,rfl,hc,htx,_,rfl⟩:=errorString_of_trod Tryz.underlying37 sent_row Tryz.underlying355 Tryz.underlying357 rfl rfl Tryz.underlying9 sent_cells zdI hd ok0
    have ih:=laid_texts r q hq (fun x hx=>hs x (List.mem_cons_of_mem _ hx)) ht (fun b off hp=>hrows b off (by simp [hp]))
    intro x hx
    rcases List.mem_cons.1 hx with rfl|hx
    ·exact ⟨g,text,a,s,hg,rfl,by simpa using World.var?_cell hg hv 0,hc,htx⟩
    ·exact ih x hx
theorem zbP {W:World} {l:List (String×DataW Unit)} (h:laidMet Tryz.prog l W) (hs:∀x∈l,IsSent x.2)
 (ht:l.map (fun x=>(Tryz.prog.globalNamed x.1).bind fun g=>(Tryz.prog.globals[g]?).map (·.type))=l.map fun _=>some 37)
 {n:String} {g:Nat} {t:ByteArray} (hm:(n,sentD t.data.toList)∈l) (hn:Tryz.prog.globalNamed n=some g) {ea:Nat→Addr} (hc:W.cell? ⟨g,0,none⟩=some (.iface 355 (.pointer (some (ea g))))):
 W.cell? (ea g)=some (.string t):=by
 obtain ⟨ps,hv,hnd,hrows⟩:=h
 obtain ⟨g',text,a,s,h1,h2,h3,h4,h5⟩:=laid_texts l ps hv hs ht hrows _ hm
 rw [hn] at h1
 obtain rfl:=Option.some.inj h1
 rw [hc] at h3
 obtain rfl:ea g=a:=by simpa using h3
 have h6:t.data.toList=text:=by simpa [sentD] using h2
 rw [h4]
 congr 2
 exact ba_toList (h5.trans h6.symm)
end Go.Proofs.YthkfhfldoniolaaGreatDoor
