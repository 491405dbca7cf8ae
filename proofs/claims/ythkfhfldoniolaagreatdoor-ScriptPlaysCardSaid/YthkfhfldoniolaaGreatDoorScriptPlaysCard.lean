/-
  ScriptPlays: for every argument the call returns true, and the arguments read as they did. No condition.
-/
import Derived.Test.YthkfhfldoniolaaGreatDoorLaidA
import Derived.Test.YthkfhfldoniolaaGreatDoorCarLaws
import Derived.Test.YthkfhfldoniolaaGreatDoorErrTexts
import Derived.Test.YthkfhfldoniolaaGreatDoorArgLines
import Derived.Test.YthkfhfldoniolaaGreatDoorScriptPlays
import Derived.Test.YthkfhfldoniolaaGreatDoorCards
import Derived.Test.YthkfhfldoniolaaGreatDoorTie
import Derived.MakeChecks
import Derived.Lay
import Derived.LaidOnce
set_option maxHeartbeats 8000000
namespace Go.Proofs.YthkfhfldoniolaaGreatDoor.scriptPlaysLaw
open Go.ChangeShapes Go.WideShapes Go.ChangeAt Go.RowKit Go.ChangeMaps
theorem own:ownKnob Tryz.prog.godebug=none:=by kernel_rfl
theorem laidOut:laidOutB Tryz.prog=true:=by kernel_rfl
noncomputable def zcj:List (String×DataW Unit):=[("math/bits.deBruijn32tab",Rows.laid_math_bits_deBruijn32tab),("math/bits.deBruijn64tab",Rows.laid_math_bits_deBruijn64tab),("internal/strconv.uint64pow10",Rows.laid_internal_strconv_uint64pow10),("unicode/utf8.acceptRanges",Rows.laid_unicode_utf8_acceptRanges),("levelhand/api.ErrText",Rows.laid_levelhand_api_ErrText),("levelhand/api.ErrBound",Rows.laid_levelhand_api_ErrBound),("levelhand/api.ErrShape",Rows.laid_levelhand_api_ErrShape),("levelhand/api.ErrName",Rows.laid_levelhand_api_ErrName),("levelhand/api.ErrNone",Rows.laid_levelhand_api_ErrNone),("levelhand/api.ErrExist",Rows.laid_levelhand_api_ErrExist),("levelhand/api.ErrOld",Rows.laid_levelhand_api_ErrOld),("strconv.ErrRange",Rows.laid_strconv_ErrRange),("strconv.ErrSyntax",Rows.laid_strconv_ErrSyntax),("unicode/utf8.first",Rows.laid_unicode_utf8_first)]
theorem plainL_eq:(Rows.scriptPlaysRow.laid.filter fun x=>x.2.handleName?.isNone)=zcj:=by kernel_rfl
theorem plain_of {W:World} (h:laidMetH Tryz.prog Rows.scriptPlaysRow.laid W):laidMet Tryz.prog zcj W:=by
 rw [←plainL_eq]
 exact laid_of_handle h
noncomputable def errsL:List (String×DataW Unit):=[("levelhand/api.ErrText",Rows.laid_levelhand_api_ErrText),("levelhand/api.ErrBound",Rows.laid_levelhand_api_ErrBound),("levelhand/api.ErrShape",Rows.laid_levelhand_api_ErrShape),("levelhand/api.ErrName",Rows.laid_levelhand_api_ErrName),("levelhand/api.ErrNone",Rows.laid_levelhand_api_ErrNone),("levelhand/api.ErrExist",Rows.laid_levelhand_api_ErrExist),("levelhand/api.ErrOld",Rows.laid_levelhand_api_ErrOld)]
def gsL:List Nat:=[gv 1,gv 2,gv 3,gv 4,gv 5,gv 6,gv 8]
theorem zdt {W:World} (h:laidMet Tryz.prog zcj W):laidMet Tryz.prog errsL W:=by
 have h2:=laidMet.filter (fun x=>["levelhand/api.ErrText","levelhand/api.ErrBound","levelhand/api.ErrShape","levelhand/api.ErrName","levelhand/api.ErrNone","levelhand/api.ErrExist","levelhand/api.ErrOld"].contains x.1) h
 rw [show (zcj.filter fun x=>["levelhand/api.ErrText","levelhand/api.ErrBound","levelhand/api.ErrShape","levelhand/api.ErrName","levelhand/api.ErrNone","levelhand/api.ErrExist","levelhand/api.ErrOld"].contains x.1)=errsL by kernel_rfl] at h2
 exact h2
theorem zcb:∀x∈errsL,IsSent x.2:=by
 intro x hx
 simp only [errsL,List.mem_cons,List.not_mem_nil,or_false] at hx
 rcases hx with rfl|rfl|rfl|rfl|rfl|rfl|rfl
 ·exact ⟨_,rfl⟩
 ·exact ⟨_,rfl⟩
 ·exact ⟨_,rfl⟩
 ·exact ⟨_,rfl⟩
 ·exact ⟨_,rfl⟩
 ·exact ⟨_,rfl⟩
 ·exact ⟨_,rfl⟩
theorem zdg:errsL.map (fun x=>(Tryz.prog.globalNamed x.1).bind fun g=>(Tryz.prog.globals[g]?).map (·.type))=errsL.map fun _=>some 37:=by kernel_rfl
theorem errs {W:World} (h:laidMet Tryz.prog zcj W):∃ea,ErrsAt W ea gsL:=errs_of_laid (zdt h) zcb zdg _ (by kernel_rfl)
theorem errTx {W:World} {ea:Nat→Addr} (h:laidMet Tryz.prog zcj W) (hE:ErrsAt W ea gsL):∀c,CdOk c→W.cell? (ea (gv c))=some (.string (ze8 c)):=by
 intro c hc
 have hw:c=1∨c=2∨c=3∨c=4∨c=5∨c=6∨c=8:=by obtain ⟨h1,h2,h3⟩:=hc;omega
 rcases hw with rfl|rfl|rfl|rfl|rfl|rfl|rfl
 ·exact zbP (zdt h) zcb zdg (n:= "levelhand/api.ErrText") (by rw [show sentD (ze8 1).data.toList=Rows.laid_levelhand_api_ErrText by kernel_rfl];simp [errsL]) (by kernel_rfl) (hE.cell (by decide))
 ·exact zbP (zdt h) zcb zdg (n:= "levelhand/api.ErrBound") (by rw [show sentD (ze8 2).data.toList=Rows.laid_levelhand_api_ErrBound by kernel_rfl];simp [errsL]) (by kernel_rfl) (hE.cell (by decide))
 ·exact zbP (zdt h) zcb zdg (n:= "levelhand/api.ErrShape") (by rw [show sentD (ze8 3).data.toList=Rows.laid_levelhand_api_ErrShape by kernel_rfl];simp [errsL]) (by kernel_rfl) (hE.cell (by decide))
 ·exact zbP (zdt h) zcb zdg (n:= "levelhand/api.ErrName") (by rw [show sentD (ze8 4).data.toList=Rows.laid_levelhand_api_ErrName by kernel_rfl];simp [errsL]) (by kernel_rfl) (hE.cell (by decide))
 ·exact zbP (zdt h) zcb zdg (n:= "levelhand/api.ErrNone") (by rw [show sentD (ze8 5).data.toList=Rows.laid_levelhand_api_ErrNone by kernel_rfl];simp [errsL]) (by kernel_rfl) (hE.cell (by decide))
 ·exact zbP (zdt h) zcb zdg (n:= "levelhand/api.ErrExist") (by rw [show sentD (ze8 6).data.toList=Rows.laid_levelhand_api_ErrExist by kernel_rfl];simp [errsL]) (by kernel_rfl) (hE.cell (by decide))
 ·exact zbP (zdt h) zcb zdg (n:= "levelhand/api.ErrOld") (by rw [show sentD (ze8 8).data.toList=Rows.laid_levelhand_api_ErrOld by kernel_rfl];simp [errsL]) (by kernel_rfl) (hE.cell (by decide))
set_option maxRecDepth 100000 in
theorem contract (H:Type) (enc:TypeId×Value→H) (W:World) (base:Nat) (args:Array Value) (ds gs:List (DataW H)) (before:List MemPlace)
 (hval:∀(j:Nat) t v,Tryz.f3.params[j]? =some t→args[j]? =some v→Value.okWide Tryz.prog W .any base t v)
 (hW:DataW.Whole enc Tryz.prog Tryz.f3.params.toList Rows.scriptPlaysSpec.vars false W args.toList ds gs before) (hL0:laidMetH Tryz.prog Rows.scriptPlaysRow.laid W) (hsh:W.ShapedOpen Tryz.prog):
 Calls Tryz.prog 3 args W fun e W'=>∃v,e= .returned v∧Rows.scriptPlaysSpec.post enc Tryz.prog Tryz.f3 false true false false W args v W':=by
 have hW':=hW
 obtain ⟨p,q,hA0,hV,rfl,hfz,hnd⟩:=hW
 have hA:DataW.TrodAll enc Tryz.prog W 0 (fun _=>true) true Tryz.f3.params.toList args.toList ds p:=hA0
 have hlt:∀x∈p,x.block<W.heap.size:=fun x hx=>hW'.lt x (List.mem_append_left _ hx)
 rw [Tryz.params3] at hA hval
 obtain ⟨v0,vs0,d0,ds0,p0,q0,hargs,rfl,e0,h0,r0⟩:=trodAll_cons hA
 obtain ⟨ez,rfl,eq⟩:=trodAll_nil r0
 subst ez
 obtain rfl:args= #[v0]:=by cases args;simp_all
 obtain ⟨rfl,rfl⟩:=trodVars_none hV
 have L0:∀x∈p0,x.block<W.heap.size:=fun x hx=>hlt x (by rw [e0];exact List.mem_append_left _ hx)
 obtain ⟨A0,c0,l0,rfl,R0,m0,wf0⟩:=arg_lines (hval 0 22 v0 rfl rfl) h0 L0
 have hL:=plain_of hL0
 obtain ⟨ea,hE⟩:=errs hL
 have hG:zbK W:=handle_of hL0 (by simp [Rows.scriptPlaysRow])
 have hC:zdz W:=carW_of hL hsh (by simp [zcj]) (by simp [zcj]) (by simp [zcj]) (by simp [zcj])
 have hS:ErrsS ea W:=⟨errsB_of hE (by decide) (by decide) (by decide) (by decide) (by decide) (by decide),errsK_of hE (by decide) (by decide) (by decide) (by decide),errTx hL hE⟩
 refine (splays_any W hS hC hG R0 m0 wf0).mono fun e W' ⟨he,hg⟩=> ?_
 subst he
 exact ⟨_,rfl,law_post (tb:=4) laidOut (by kernel_rfl) rfl rfl Tryz.underlying4 ⟨rfl,rfl,rfl⟩ hW' hg⟩
noncomputable def base0 (os:Os):World:={ World.holding Tryz.prog os ⟨#[],#[],[]⟩ with heap:=withHandle (World.holding Tryz.prog os ⟨#[],#[],[]⟩).heap }
noncomputable def wit (os:Os):World:=(base0 os).layVars Tryz.prog zcj
theorem wit_laid (os:Os) (args:Array Value):laidMet Tryz.prog zcj ((wit os).forCall (fun _ _=>0) ⟨#[],args,[]⟩).memory:=by
 have e1:(zcj.filter fun x=>(zcj.map (·.1)).contains x.1)=zcj:=List.filter_eq_self.2 fun x hx=>List.contains_iff_mem.2 (List.mem_map.2 ⟨x,hx,rfl⟩)
 have e2:(zcj.filter fun x=> !(zcj.map (·.1)).contains x.1)=[]:=List.filter_eq_nil_iff.2 fun x hx=>by rw [List.contains_iff_mem.2 (List.mem_map.2 ⟨x,hx,rfl⟩)];simp
 have h:laidMet Tryz.prog zcj (wit os):=laidMet_layVars (w0:=base0 os) (zcj.map (·.1)) [] (by rw [e1];rfl) (by rw [e1];kernel_rfl) (by rw [e1];kernel_rfl) (by rw [e2];exact LaidIn.none)
 exact h.of_heap (by simp [World.memory,World.forCall,Input.heap])
theorem laid_met (os:Os):laidMetH Tryz.prog Rows.scriptPlaysRow.laid ((wit os).forCall (fun _ _=>0) ⟨#[],#[Value.slice none 0 0],[]⟩).memory:=
 laidMetH_of_parts (plainL_eq▸wit_laid os _) (by kernel_rfl)
theorem reads (os:Os) {H:Type} (enc:TypeId×Value→H):∃places,DataW.whole enc Tryz.prog ((wit os).forCall (fun _ _=>0) ⟨#[],#[Value.slice none 0 0],[]⟩).memory Tryz.f3.params.toList Rows.scriptPlaysSpec.vars false (#[Value.slice none 0 0]:Array Value).toList 8=some ([.nil],[],places):=
 ⟨[],by kernel_rfl⟩
set_option maxRecDepth 100000 in
theorem lifted (os:Os) (started:os.Started) (H:Type) (enc:TypeId×Value→H) (F:Stop.Interp):
 ReturnsInHanded {} Tryz.checked os 3 .any ((OpenSpec.ofChange Rows.scriptPlaysSpec).preRow enc Tryz.prog Tryz.f3 Rows.scriptPlaysRow.domain false Rows.scriptPlaysRow.laid) (((OpenSpec.ofChange Rows.scriptPlaysSpec).at F).post enc Tryz.prog Tryz.f3 false true false false):=by
 obtain ⟨places,hx⟩:=reads os enc
 refine returnsInHanded_of_row (C:=Tryz.checked) (s:=OpenSpec.ofChange Rows.scriptPlaysSpec) own started (by kernel_rfl) Tryz.func3
  (witness_row_atRef (enc:=enc) (C:=Tryz.checked) false (wit os) #[Value.slice none 0 0] (World.layVars_os _ _ _) (by kernel_rfl) (by kernel_rfl) (by kernel_rfl)
    (OpenSpec.preRow_of_cond 8 hx (by kernel_rfl) (fun k hk=>by cases hk) (by kernel_rfl) (laid_met os))) ?_
 intro W base args ds gs before hval hW _ _ _ hL hsh _
 exact contract H enc W base args ds gs before hval hW hL hsh
theorem and_pair {a b:Bool} (h1:a=true) (h2:b=true):(a&&b)=true:=by rw [h1,h2];rfl
set_option maxRecDepth 100000 in
theorem joined:joinedFacts Tryz.pinned.checked.prog 3 Tryz.f3 (OpenSpec.ofChange Rows.scriptPlaysSpec).bare Rows.scriptPlaysRow=true:=by
 unfold joinedFacts
 iterate 31 refine and_pair ?_ ?_
 all_goals (as_aux_lemma=>kernel_rfl)
theorem said:Rows.ScriptPlaysSaid:=
 OpenClaim.holds_of_cond 3 Tryz.f3 rfl rfl rfl rfl rfl rfl rfl ⟨rfl,rfl,rfl,rfl,rfl⟩ rfl rfl rfl rfl rfl (by kernel_rfl) Tryz.func3 joined
  (of_decide_eq_true (by kernel_rfl)) (by unfold Func.isWrapper;first|(rw [if_pos (by decide+kernel)];kernel_rfl)|(rw [if_neg (by decide+kernel)];exact ⟨rfl,rfl⟩))
  (fun os started H enc _ F=>by rw [OpenClaim.pre_eq_preRow];exact lifted os started H enc F)
theorem plain (f:FuncId) (fn:Func) (hf:Tryz.pinned.checked.prog.funcNamed "levelhand/levelhandlaw3.ScriptPlays"=some f) (hfn:Tryz.pinned.checked.prog.funcs[f]? =some fn):
 true=Tryz.pinned.checked.prog.looks []∧∀(j:Nat) t,fn.params[j]? =some t→Tryz.pinned.checked.prog.wantsStandIn t=false:=by
 obtain rfl:f=3:=Option.some.inj ((show Tryz.prog.funcNamed "levelhand/levelhandlaw3.ScriptPlays"=some 3 by kernel_rfl).symm.trans hf) |>.symm
 obtain rfl:fn=Tryz.f3:=(Option.some.inj (Tryz.func3.symm.trans hfn)).symm
 refine ⟨by kernel_rfl,fun j t ht=> ?_⟩
 rw [Tryz.params3] at ht
 have hm:=Array.mem_of_getElem? ht
 simp only [List.mem_toArray,List.mem_cons,List.not_mem_nil,or_false] at hm
 subst hm
 exact (show Tryz.prog.wantsStandIn 22=false by kernel_rfl)
theorem card:Rows.ScriptPlaysCardSaid:=
 Claim7.holds_tied_plain_at .later [] _ _ _ _ said (fun _ h=>by cases h) (by kernel_rfl) (fun _ h=>by cases h) scriptPlays_row_tie rfl ⟨rfl,rfl⟩ (by kernel_rfl) rfl plain (by kernel_rfl)
end Go.Proofs.YthkfhfldoniolaaGreatDoor.scriptPlaysLaw
