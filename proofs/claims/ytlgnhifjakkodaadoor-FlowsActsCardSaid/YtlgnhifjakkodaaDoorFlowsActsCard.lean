/-
  FlowsActs: for every argument the call returns true, and the arguments read as they did. No condition.
-/
import Derived.Test.YtlgnhifjakkodaaDoorLaidWorld
import Derived.Test.YtlgnhifjakkodaaDoorArgs
import Derived.Test.YtlgnhifjakkodaaDoorHandle
import Derived.Test.YtlgnhifjakkodaaDoorFlowsActs
import Derived.Test.YtlgnhifjakkodaaDoorArgFlowActs
import Derived.Test.YtlgnhifjakkodaaDoorCards
import Derived.Test.YtlgnhifjakkodaaDoorTie
import Derived.MakeChecks
namespace Go.Proofs.YtlgnhifjakkodaaDoor
open Go.RowKit
theorem ErrsW.errsF {ea : Nat → Addr} {w : World} (h : ErrsW ea w) : ErrsF ea w := ⟨(h.row 2 (by decide) (by decide)).1, (h.row 4 (by decide) (by decide)).1, (h.row 8 (by decide) (by decide)).1⟩
theorem flowsActs_any (ea : Nat → Addr) (T : Int) (A : Option Addr) (c : Nat) (acts : List FAct) (w : World) (hE : ErrsW ea w) (hG : HandleAt w) (hr : Reads w w.heap.size 5 A acts.length (fActsC acts)) (hm : acts.length ≤ maxLen) (hs : ∀ a ∈ acts, FActOk w a) :
    Calls Tryd.prog 4 #[.int .i64 T, .slice A acts.length c] w (True1 w) := by
  by_cases hn : 80 < acts.length
  · exact facts_skip T A c acts w hm hn
  · by_cases hT : T < 1 ∨ 1000 < T
    · exact facts_time ea T A c acts w hE hG hE.errsF (by omega) hT
    · obtain ⟨t, rfl⟩ := Int.eq_ofNat_of_zero_le (by omega : 0 ≤ T)
      exact facts_good ea t A c acts w hE hG hE.errsF ⟨hr, hm, hs⟩ (by omega) (by omega) (by omega)
end Go.Proofs.YtlgnhifjakkodaaDoor
namespace Go.Proofs.YtlgnhifjakkodaaDoor.flowsActsLaw
open Go.ChangeShapes Go.WideShapes Go.ChangeAt Go.RowKit Go.ChangeMaps

theorem own : ownKnob Tryd.prog.godebug = none := by kernel_rfl
theorem laidOut : laidOutB Tryd.prog = true := by kernel_rfl

theorem errs {W : World} (h : laidMetH Tryd.prog Rows.flowsActsRow.laid W) : ∃ ea, ErrsAt W ea all9 := by
  have h2 : laidMet Tryd.prog (Rows.flowsActsRow.laid.filter fun x => x.2.handleName?.isNone) W := laid_of_handle h
  refine errs_of_laid h2 ?_ (by kernel_rfl) _ (by kernel_rfl)
  have e : (Rows.flowsActsRow.laid.filter fun x => x.2.handleName?.isNone) = Rows.flowsActsRow.laid.tail := by kernel_rfl
  rw [e]
  intro x hx
  simp only [Rows.flowsActsRow, List.tail_cons, List.mem_cons, List.not_mem_nil, or_false] at hx
  rcases hx with rfl | rfl | rfl | rfl | rfl | rfl | rfl | rfl | rfl
  · exact ⟨_, rfl⟩
  · exact ⟨_, rfl⟩
  · exact ⟨_, rfl⟩
  · exact ⟨_, rfl⟩
  · exact ⟨_, rfl⟩
  · exact ⟨_, rfl⟩
  · exact ⟨_, rfl⟩
  · exact ⟨_, rfl⟩
  · exact ⟨_, rfl⟩

set_option maxRecDepth 100000 in
theorem contract (H : Type) (enc : TypeId × Value → H) (W : World) (base : Nat) (args : Array Value) (ds gs : List (DataW H)) (before : List MemPlace)
    (hval : ∀ (j : Nat) t v, Tryd.f4.params[j]? = some t → args[j]? = some v → Value.okWide Tryd.prog W .any base t v)
    (hW : DataW.Whole enc Tryd.prog Tryd.f4.params.toList Rows.flowsActsSpec.vars false W args.toList ds gs before) (hL : laidMetH Tryd.prog Rows.flowsActsRow.laid W) :
    Calls Tryd.prog 4 args W fun e W' => ∃ v, e = .returned v ∧ Rows.flowsActsSpec.post enc Tryd.prog Tryd.f4 false true false false W args v W' := by
  have hW' := hW
  obtain ⟨p, q, hA0, hV, rfl, hfz, hnd⟩ := hW
  have hA : DataW.TrodAll enc Tryd.prog W 0 (fun _ => true) true Tryd.f4.params.toList args.toList ds p := hA0
  have hlt : ∀ x ∈ p, x.block < W.heap.size := fun x hx => hW'.lt x (List.mem_append_left _ hx)
  rw [Tryd.params4] at hA hval
  obtain ⟨v0, vs0, d0, ds0, p0, q0, hargs, rfl, e0, h0, r0⟩ := trodAll_cons hA
  obtain ⟨v1, vs1, d1, ds1, p1, q1, rfl, rfl, e1, h1, r1⟩ := trodAll_cons r0
  obtain ⟨ez, rfl, eq⟩ := trodAll_nil r1
  subst ez
  obtain rfl : args = #[v0, v1] := by cases args; simp_all
  obtain ⟨rfl, rfl⟩ := trodVars_none hV
  have L0 : ∀ x ∈ p0, x.block < W.heap.size := fun x hx => hlt x (by rw [e0]; exact List.mem_append_left _ hx)
  have L1 : ∀ x ∈ p1, x.block < W.heap.size := fun x hx => hlt x (by rw [e0]; rw [e1]; exact List.mem_append_right _ (List.mem_append_left _ hx))
  obtain ⟨x0, rfl, rfl, g0, wx0⟩ := open_int Tryd.underlying3 (hval 0 3 v0 rfl rfl) h0
  have b0 := bounds_i64 wx0
  obtain ⟨A1, c1, l1, rfl, R1, m1, wf1⟩ := arg_facts (hval 1 41 v1 rfl rfl) h1 L1
  obtain ⟨ea, hE⟩ := errs hL
  have hG : HandleAt W := handle_of hL (List.mem_cons_self)
  have hW9 := errsW_of hE
  refine (flowsActs_any ea x0 A1 c1 l1 W hW9 hG R1 m1 wf1).mono fun e W' ⟨he, hg⟩ => ?_
  subst he
  exact ⟨_, rfl, law_post (tb := 4) laidOut (by kernel_rfl) rfl rfl Tryd.underlying4 ⟨rfl, rfl, rfl⟩ hW' hg⟩

theorem laid_met (os : Os) : laidMetH Tryd.prog Rows.flowsActsRow.laid ((laidWorld os).forCall (fun _ _ => 0) ⟨#[], #[Value.int .i64 0, Value.slice none 0 0], []⟩).memory :=
  laidMetH_of_parts (laidMet_of_run' 8 (by kernel_rfl) (by kernel_rfl)) (by kernel_rfl)
theorem reads (os : Os) {H : Type} (enc : TypeId × Value → H) : ∃ places, DataW.whole enc Tryd.prog ((laidWorld os).forCall (fun _ _ => 0) ⟨#[], #[Value.int .i64 0, Value.slice none 0 0], []⟩).memory Tryd.f4.params.toList Rows.flowsActsSpec.vars false (#[Value.int .i64 0, Value.slice none 0 0] : Array Value).toList 8 = some ([.lit (.int .i64 0), .nil], [], places) :=
  ⟨[], by kernel_rfl⟩

set_option maxRecDepth 100000 in
theorem lifted (os : Os) (started : os.Started) (H : Type) (enc : TypeId × Value → H) (F : Stop.Interp) :
    ReturnsInHanded {} Tryd.checked os 4 .any ((OpenSpec.ofChange Rows.flowsActsSpec).preRow enc Tryd.prog Tryd.f4 Rows.flowsActsRow.domain false Rows.flowsActsRow.laid) (((OpenSpec.ofChange Rows.flowsActsSpec).at F).post enc Tryd.prog Tryd.f4 false true false false) := by
  obtain ⟨places, hx⟩ := reads os enc
  refine returnsInHanded_of_row (C := Tryd.checked) (s := OpenSpec.ofChange Rows.flowsActsSpec) own started (by kernel_rfl) Tryd.func4
    (witness_row_atRef (enc := enc) (C := Tryd.checked) false (laidWorld os) #[Value.int .i64 0, Value.slice none 0 0] rfl (by kernel_rfl) (by kernel_rfl) (by kernel_rfl)
      (OpenSpec.preRow_of_cond 8 hx (by kernel_rfl) (fun k hk => by cases hk) (by kernel_rfl) (laid_met os))) ?_
  intro W base args ds gs before hval hW _ _ _ hL _ _
  exact contract H enc W base args ds gs before hval hW hL

theorem said : Rows.FlowsActsSaid :=
  OpenClaim.holds_of_cond 4 Tryd.f4 rfl rfl rfl rfl rfl rfl rfl ⟨rfl, rfl, rfl, rfl, rfl⟩ rfl rfl rfl rfl rfl (by kernel_rfl) Tryd.func4 (by kernel_rfl)
    (of_decide_eq_true (by kernel_rfl)) (by unfold Func.isWrapper; first | (rw [if_pos (by decide +kernel)]; kernel_rfl) | (rw [if_neg (by decide +kernel)]; exact ⟨rfl, rfl⟩))
    (fun os started H enc _ F => by rw [OpenClaim.pre_eq_preRow]; exact lifted os started H enc F)

theorem plain (f : FuncId) (fn : Func) (hf : Tryd.pinned.checked.prog.funcNamed "levelhand/levelhandlaw2.FlowsActs" = some f) (hfn : Tryd.pinned.checked.prog.funcs[f]? = some fn) :
    true = Tryd.pinned.checked.prog.looks [] ∧ ∀ (j : Nat) t, fn.params[j]? = some t → Tryd.pinned.checked.prog.wantsStandIn t = false := by
  obtain rfl : f = 4 := Option.some.inj ((show Tryd.prog.funcNamed "levelhand/levelhandlaw2.FlowsActs" = some 4 by kernel_rfl).symm.trans hf) |>.symm
  obtain rfl : fn = Tryd.f4 := (Option.some.inj (Tryd.func4.symm.trans hfn)).symm
  refine ⟨by kernel_rfl, fun j t ht => ?_⟩
  rw [Tryd.params4] at ht
  have hm := Array.mem_of_getElem? ht
  simp only [List.mem_toArray, List.mem_cons, List.not_mem_nil, or_false] at hm
  rcases hm with rfl | rfl
  · exact (show Tryd.prog.wantsStandIn 3 = false by kernel_rfl)
  · exact (show Tryd.prog.wantsStandIn 41 = false by kernel_rfl)

theorem card : Rows.FlowsActsCardSaid :=
  Claim7.holds_tied_plain_at .later [] _ _ _ _ said (fun _ h => by cases h) (by kernel_rfl) (fun _ h => by cases h) flowsActs_row_tie rfl ⟨rfl, rfl⟩ (by kernel_rfl) rfl plain (by kernel_rfl)
end Go.Proofs.YtlgnhifjakkodaaDoor.flowsActsLaw
