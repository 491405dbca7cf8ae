/-
  BalanceOver: for every argument the call returns true, and the arguments read as they did. No condition.
-/
import Derived.Test.YteilefpjfbholaaGreatDoorArgs
import Derived.Test.YteilefpjfbholaaGreatDoorCarLaws
import Derived.Test.YteilefpjfbholaaGreatDoorBalanceOver
import Derived.Test.YteilefpjfbholaaGreatDoorCards
import Derived.Test.YteilefpjfbholaaGreatDoorTie
import Derived.MakeChecks
import Derived.Lay
import Derived.LaidOnce
namespace Go.Proofs.YteilefpjfbholaaGreatDoor.balanceOverLaw
open Go.ChangeShapes Go.WideShapes Go.ChangeAt Go.RowKit Go.ChangeMaps

theorem own : ownKnob Tryz.prog.godebug = none := by kernel_rfl
theorem laidOut : laidOutB Tryz.prog = true := by kernel_rfl

theorem errs {W : World} (h : laidMet Tryz.prog Rows.balanceOverRow.laid W) : ∃ ea, ErrsAt W ea [4, 2, 6, 3, 0, 7, 1, 5] := by
  have h2 := laidMet.filter (fun x => ["levelhand/api.ErrText", "levelhand/api.ErrBound", "levelhand/api.ErrShape", "levelhand/api.ErrName", "levelhand/api.ErrNone", "levelhand/api.ErrExist", "levelhand/api.ErrOld", "levelhand/api.ErrSum"].contains x.1) h
  rw [show (Rows.balanceOverRow.laid.filter fun x => ["levelhand/api.ErrText", "levelhand/api.ErrBound", "levelhand/api.ErrShape", "levelhand/api.ErrName", "levelhand/api.ErrNone", "levelhand/api.ErrExist", "levelhand/api.ErrOld", "levelhand/api.ErrSum"].contains x.1) = [("levelhand/api.ErrText", Rows.laid_levelhand_api_ErrText), ("levelhand/api.ErrBound", Rows.laid_levelhand_api_ErrBound), ("levelhand/api.ErrShape", Rows.laid_levelhand_api_ErrShape), ("levelhand/api.ErrName", Rows.laid_levelhand_api_ErrName), ("levelhand/api.ErrNone", Rows.laid_levelhand_api_ErrNone), ("levelhand/api.ErrExist", Rows.laid_levelhand_api_ErrExist), ("levelhand/api.ErrOld", Rows.laid_levelhand_api_ErrOld), ("levelhand/api.ErrSum", Rows.laid_levelhand_api_ErrSum)] by kernel_rfl] at h2
  refine errs_of_laid h2 ?_ (by kernel_rfl) _ (by kernel_rfl)
  intro x hx
  simp only [List.mem_cons, List.not_mem_nil, or_false] at hx
  rcases hx with rfl | rfl | rfl | rfl | rfl | rfl | rfl | rfl
  · exact ⟨_, rfl⟩
  · exact ⟨_, rfl⟩
  · exact ⟨_, rfl⟩
  · exact ⟨_, rfl⟩
  · exact ⟨_, rfl⟩
  · exact ⟨_, rfl⟩
  · exact ⟨_, rfl⟩
  · exact ⟨_, rfl⟩

set_option maxRecDepth 100000 in
theorem contract (H : Type) (enc : TypeId × Value → H) (W : World) (base : Nat) (args : Array Value) (ds gs : List (DataW H)) (before : List MemPlace)
    (hval : ∀ (j : Nat) t v, Tryz.f4.params[j]? = some t → args[j]? = some v → Value.okWide Tryz.prog W .any base t v)
    (hW : DataW.Whole enc Tryz.prog Tryz.f4.params.toList Rows.balanceOverSpec.vars false W args.toList ds gs before) (hL0 : laidMetH Tryz.prog Rows.balanceOverRow.laid W) (hsh : W.ShapedOpen Tryz.prog) :
    Calls Tryz.prog 4 args W fun e W' => ∃ v, e = .returned v ∧ Rows.balanceOverSpec.post enc Tryz.prog Tryz.f4 false true false false W args v W' := by
  have hW' := hW
  obtain ⟨p, q, hA0, hV, rfl, hfz, hnd⟩ := hW
  have hA : DataW.TrodAll enc Tryz.prog W 0 (fun _ => true) true Tryz.f4.params.toList args.toList ds p := hA0
  have hlt : ∀ x ∈ p, x.block < W.heap.size := fun x hx => hW'.lt x (List.mem_append_left _ hx)
  rw [Tryz.params4] at hA hval
  obtain ⟨v0, vs0, d0, ds0, p0, q0, hargs, rfl, e0, h0, r0⟩ := trodAll_cons hA
  obtain ⟨v1, vs1, d1, ds1, p1, q1, rfl, rfl, e1, h1, r1⟩ := trodAll_cons r0
  obtain ⟨ez, rfl, eq⟩ := trodAll_nil r1
  subst ez
  obtain rfl : args = #[v0, v1] := by cases args; simp_all
  obtain ⟨rfl, rfl⟩ := trodVars_none hV
  have L0 : ∀ x ∈ p0, x.block < W.heap.size := fun x hx => hlt x (by rw [e0]; exact List.mem_append_left _ hx)
  have L1 : ∀ x ∈ p1, x.block < W.heap.size := fun x hx => hlt x (by rw [e0]; rw [e1]; exact List.mem_append_right _ (List.mem_append_left _ hx))
  obtain ⟨A0, c0, l0, rfl, R0, lc0, cm0, wf0⟩ := arg_ints Tryz.underlying22 Tryz.underlying32 (by kernel_rfl) (hval 0 22 v0 rfl rfl) h0 L0
  obtain ⟨x1, rfl, rfl, g1, wx1⟩ := open_int Tryz.underlying3 (hval 1 3 v1 rfl rfl) h1
  have hL := hL0
  rw [Go.MakeChecks.laidMetH_plain _ _ _ (by kernel_rfl)] at hL
  obtain ⟨ea, hE⟩ := errs hL
  refine (over_any2 ea A0 c0 x1 l0 W (errsB_of hE (by decide) (by decide) (by decide) (by decide) (by decide) (by decide)) (carW_of hL hsh (by simp [Rows.balanceOverRow]) (by simp [Rows.balanceOverRow]) (by simp [Rows.balanceOverRow]) (by simp [Rows.balanceOverRow])) (errsK_of hE (by decide) (by decide) (by decide) (by decide) (by decide)) R0 wf0).mono fun e W' ⟨he, hg⟩ => ?_
  subst he
  exact ⟨_, rfl, law_post (tb := 4) laidOut (by kernel_rfl) rfl rfl Tryz.underlying4 ⟨rfl, rfl, rfl⟩ hW' hg⟩

theorem laid_met (os : Os) : laidMetH Tryz.prog Rows.balanceOverRow.laid ((World.laidAll Tryz.prog os Rows.balanceOverRow.laid).forCall (fun _ _ => 0) ⟨#[], #[Value.slice none 0 0, Value.int .i64 0], []⟩).memory :=
  by
  rw [Go.MakeChecks.laidMetH_plain _ _ _ (by kernel_rfl)]
  exact laidMet_laidAll _ (by kernel_rfl) (by kernel_rfl)
theorem reads (os : Os) {H : Type} (enc : TypeId × Value → H) : ∃ places, DataW.whole enc Tryz.prog ((World.laidAll Tryz.prog os Rows.balanceOverRow.laid).forCall (fun _ _ => 0) ⟨#[], #[Value.slice none 0 0, Value.int .i64 0], []⟩).memory Tryz.f4.params.toList Rows.balanceOverSpec.vars false (#[Value.slice none 0 0, Value.int .i64 0] : Array Value).toList 8 = some ([.nil, .lit (.int .i64 0)], [], places) :=
  ⟨[], by kernel_rfl⟩

set_option maxRecDepth 100000 in
theorem lifted (os : Os) (started : os.Started) (H : Type) (enc : TypeId × Value → H) (F : Stop.Interp) :
    ReturnsInHanded {} Tryz.checked os 4 .any ((OpenSpec.ofChange Rows.balanceOverSpec).preRow enc Tryz.prog Tryz.f4 Rows.balanceOverRow.domain false Rows.balanceOverRow.laid) (((OpenSpec.ofChange Rows.balanceOverSpec).at F).post enc Tryz.prog Tryz.f4 false true false false) := by
  obtain ⟨places, hx⟩ := reads os enc
  refine returnsInHanded_of_row (C := Tryz.checked) (s := OpenSpec.ofChange Rows.balanceOverSpec) own started (by kernel_rfl) Tryz.func4
    (witness_row_atRef (enc := enc) (C := Tryz.checked) false (World.laidAll Tryz.prog os Rows.balanceOverRow.laid) #[Value.slice none 0 0, Value.int .i64 0] (World.laidAll_os _ _ _) (by kernel_rfl) (by kernel_rfl) (by kernel_rfl)
      (OpenSpec.preRow_of_cond 8 hx (by kernel_rfl) (fun k hk => by cases hk) (by kernel_rfl) (laid_met os))) ?_
  intro W base args ds gs before hval hW _ _ _ hL hsh _
  exact contract H enc W base args ds gs before hval hW hL hsh

theorem and_pair {a b : Bool} (h1 : a = true) (h2 : b = true) : (a && b) = true := by rw [h1, h2]; rfl
set_option maxRecDepth 100000 in
set_option maxHeartbeats 8000000 in
theorem joined : joinedFacts Tryz.pinned.checked.prog 4 Tryz.f4 (OpenSpec.ofChange Rows.balanceOverSpec).bare Rows.balanceOverRow = true := by
  unfold joinedFacts
  iterate 31 refine and_pair ?_ ?_
  all_goals (as_aux_lemma => kernel_rfl)
theorem said : Rows.BalanceOverSaid :=
  OpenClaim.holds_of_cond 4 Tryz.f4 rfl rfl rfl rfl rfl rfl rfl ⟨rfl, rfl, rfl, rfl, rfl⟩ rfl rfl rfl rfl rfl (by kernel_rfl) Tryz.func4 joined
    (of_decide_eq_true (by kernel_rfl)) (by unfold Func.isWrapper; first | (rw [if_pos (by decide +kernel)]; kernel_rfl) | (rw [if_neg (by decide +kernel)]; exact ⟨rfl, rfl⟩))
    (fun os started H enc _ F => by rw [OpenClaim.pre_eq_preRow]; exact lifted os started H enc F)

theorem plain (f : FuncId) (fn : Func) (hf : Tryz.pinned.checked.prog.funcNamed "levelhand/levelhandlaw3.BalanceOver" = some f) (hfn : Tryz.pinned.checked.prog.funcs[f]? = some fn) :
    true = Tryz.pinned.checked.prog.looks [] ∧ ∀ (j : Nat) t, fn.params[j]? = some t → Tryz.pinned.checked.prog.wantsStandIn t = false := by
  obtain rfl : f = 4 := Option.some.inj ((show Tryz.prog.funcNamed "levelhand/levelhandlaw3.BalanceOver" = some 4 by kernel_rfl).symm.trans hf) |>.symm
  obtain rfl : fn = Tryz.f4 := (Option.some.inj (Tryz.func4.symm.trans hfn)).symm
  refine ⟨by kernel_rfl, fun j t ht => ?_⟩
  rw [Tryz.params4] at ht
  have hm := Array.mem_of_getElem? ht
  simp only [List.mem_toArray, List.mem_cons, List.not_mem_nil, or_false] at hm
  rcases hm with rfl | rfl
  · exact (show Tryz.prog.wantsStandIn 22 = false by kernel_rfl)
  · exact (show Tryz.prog.wantsStandIn 3 = false by kernel_rfl)

theorem card : Rows.BalanceOverCardSaid :=
  Claim7.holds_tied_plain_at .later [] _ _ _ _ said (fun _ h => by cases h) (by kernel_rfl) (fun _ h => by cases h) balanceOver_row_tie rfl ⟨rfl, rfl⟩ (by kernel_rfl) rfl plain (by kernel_rfl)
end Go.Proofs.YteilefpjfbholaaGreatDoor.balanceOverLaw
