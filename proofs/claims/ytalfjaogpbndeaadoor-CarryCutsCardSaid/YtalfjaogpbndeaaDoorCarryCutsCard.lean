/-
  CarryCuts: for every argument the call returns true, and the arguments read as they did. No condition.
-/
import Derived.Test.YtalfjaogpbndeaaDoorArgs
import Derived.Test.YtalfjaogpbndeaaDoorCarLaid
import Derived.Test.YtalfjaogpbndeaaDoorCarryCuts
import Derived.Test.YtalfjaogpbndeaaDoorCards
import Derived.Test.YtalfjaogpbndeaaDoorTie
import Derived.MakeChecks
import Derived.Lay
import Derived.LaidOnce
namespace Go.Proofs.YtalfjaogpbndeaaDoor.carryCutsLaw
open Go.ChangeShapes Go.WideShapes Go.ChangeAt Go.RowKit Go.ChangeMaps

theorem own : ownKnob Tryd.prog.godebug = none := by kernel_rfl
theorem laidOut : laidOutB Tryd.prog = true := by kernel_rfl

theorem errs {W : World} (h : laidMet Tryd.prog Rows.carryCutsRow.laid W) : ∃ ea, ErrsAt W ea [3, 0, 2, 7, 4] := by
  have h2 := laidMet.filter (fun x => ["levelhand/api.ErrText", "levelhand/api.ErrBound", "levelhand/api.ErrName", "levelhand/api.ErrExist", "levelhand/api.ErrSum"].contains x.1) h
  rw [show (Rows.carryCutsRow.laid.filter fun x => ["levelhand/api.ErrText", "levelhand/api.ErrBound", "levelhand/api.ErrName", "levelhand/api.ErrExist", "levelhand/api.ErrSum"].contains x.1) = [("levelhand/api.ErrText", Rows.laid_levelhand_api_ErrText), ("levelhand/api.ErrBound", Rows.laid_levelhand_api_ErrBound), ("levelhand/api.ErrName", Rows.laid_levelhand_api_ErrName), ("levelhand/api.ErrExist", Rows.laid_levelhand_api_ErrExist), ("levelhand/api.ErrSum", Rows.laid_levelhand_api_ErrSum)] by kernel_rfl] at h2
  refine errs_of_laid h2 ?_ (by kernel_rfl) _ (by kernel_rfl)
  intro x hx
  simp only [List.mem_cons, List.not_mem_nil, or_false] at hx
  rcases hx with rfl | rfl | rfl | rfl | rfl
  · exact ⟨_, rfl⟩
  · exact ⟨_, rfl⟩
  · exact ⟨_, rfl⟩
  · exact ⟨_, rfl⟩
  · exact ⟨_, rfl⟩

set_option maxRecDepth 100000 in
theorem contract (H : Type) (enc : TypeId × Value → H) (W : World) (base : Nat) (args : Array Value) (ds gs : List (DataW H)) (before : List MemPlace)
    (hval : ∀ (j : Nat) t v, Tryd.f4.params[j]? = some t → args[j]? = some v → Value.okWide Tryd.prog W .any base t v)
    (hW : DataW.Whole enc Tryd.prog Tryd.f4.params.toList Rows.carryCutsSpec.vars false W args.toList ds gs before) (hL0 : laidMetH Tryd.prog Rows.carryCutsRow.laid W) (hsh : W.ShapedOpen Tryd.prog) :
    Calls Tryd.prog 4 args W fun e W' => ∃ v, e = .returned v ∧ Rows.carryCutsSpec.post enc Tryd.prog Tryd.f4 false true false false W args v W' := by
  have hW' := hW
  obtain ⟨p, q, hA0, hV, rfl, hfz, hnd⟩ := hW
  have hA : DataW.TrodAll enc Tryd.prog W 0 (fun _ => true) true Tryd.f4.params.toList args.toList ds p := hA0
  have hlt : ∀ x ∈ p, x.block < W.heap.size := fun x hx => hW'.lt x (List.mem_append_left _ hx)
  rw [Tryd.params4] at hA hval
  obtain ⟨v0, vs0, d0, ds0, p0, q0, hargs, rfl, e0, h0, r0⟩ := trodAll_cons hA
  obtain ⟨v1, vs1, d1, ds1, p1, q1, rfl, rfl, e1, h1, r1⟩ := trodAll_cons r0
  obtain ⟨v2, vs2, d2, ds2, p2, q2, rfl, rfl, e2, h2, r2⟩ := trodAll_cons r1
  obtain ⟨v3, vs3, d3, ds3, p3, q3, rfl, rfl, e3, h3, r3⟩ := trodAll_cons r2
  obtain ⟨v4, vs4, d4, ds4, p4, q4, rfl, rfl, e4, h4, r4⟩ := trodAll_cons r3
  obtain ⟨ez, rfl, eq⟩ := trodAll_nil r4
  subst ez
  obtain rfl : args = #[v0, v1, v2, v3, v4] := by cases args; simp_all
  obtain ⟨rfl, rfl⟩ := trodVars_none hV
  have L0 : ∀ x ∈ p0, x.block < W.heap.size := fun x hx => hlt x (by rw [e0]; exact List.mem_append_left _ hx)
  have L1 : ∀ x ∈ p1, x.block < W.heap.size := fun x hx => hlt x (by rw [e0]; rw [e1]; exact List.mem_append_right _ (List.mem_append_left _ hx))
  have L2 : ∀ x ∈ p2, x.block < W.heap.size := fun x hx => hlt x (by rw [e0]; rw [e1]; rw [e2]; exact List.mem_append_right _ (List.mem_append_right _ (List.mem_append_left _ hx)))
  have L3 : ∀ x ∈ p3, x.block < W.heap.size := fun x hx => hlt x (by rw [e0]; rw [e1]; rw [e2]; rw [e3]; exact List.mem_append_right _ (List.mem_append_right _ (List.mem_append_right _ (List.mem_append_left _ hx))))
  have L4 : ∀ x ∈ p4, x.block < W.heap.size := fun x hx => hlt x (by rw [e0]; rw [e1]; rw [e2]; rw [e3]; rw [e4]; exact List.mem_append_right _ (List.mem_append_right _ (List.mem_append_right _ (List.mem_append_right _ (List.mem_append_left _ hx)))))
  obtain ⟨x0, rfl, rfl, g0, wx0⟩ := open_int Tryd.underlying3 (hval 0 3 v0 rfl rfl) h0
  obtain ⟨A1, c1, l1, rfl, wf1⟩ := arg_flows (hval 1 31 v1 rfl rfl) h1 L1
  obtain ⟨x2, rfl, rfl, g2, wx2⟩ := open_int Tryd.underlying3 (hval 2 3 v2 rfl rfl) h2
  obtain ⟨x3, rfl, rfl, g3, wx3⟩ := open_int Tryd.underlying3 (hval 3 3 v3 rfl rfl) h3
  obtain ⟨x4, rfl, rfl, g4, wx4⟩ := open_int Tryd.underlying5 (hval 4 5 v4 rfl rfl) h4
  obtain ⟨n4, rfl⟩ := u8_of_wf wx4
  have hL := hL0
  rw [Go.MakeChecks.laidMetH_plain _ _ _ (by kernel_rfl)] at hL
  obtain ⟨ea, hE⟩ := errs hL
  refine (carryCuts_any ea x0 A1 c1 l1 x2 x3 n4 W (carW_of hL hsh (by simp [Rows.carryCutsRow]) (by simp [Rows.carryCutsRow]) (by simp [Rows.carryCutsRow]) (by simp [Rows.carryCutsRow])) (errsK_of hE (by decide) (by decide) (by decide) (by decide) (by decide)) wf1).mono fun e W' ⟨he, hg⟩ => ?_
  subst he
  exact ⟨_, rfl, law_post (tb := 4) laidOut (by kernel_rfl) rfl rfl Tryd.underlying4 ⟨rfl, rfl, rfl⟩ hW' hg⟩

theorem laid_met (os : Os) : laidMetH Tryd.prog Rows.carryCutsRow.laid ((World.laidAll Tryd.prog os Rows.carryCutsRow.laid).forCall (fun _ _ => 0) ⟨#[], #[Value.int .i64 0, Value.slice none 0 0, Value.int .i64 0, Value.int .i64 0, Value.int .u8 0], []⟩).memory :=
  by
  rw [Go.MakeChecks.laidMetH_plain _ _ _ (by kernel_rfl)]
  exact laidMet_laidAll _ (by kernel_rfl) (by kernel_rfl)
theorem reads (os : Os) {H : Type} (enc : TypeId × Value → H) : ∃ places, DataW.whole enc Tryd.prog ((World.laidAll Tryd.prog os Rows.carryCutsRow.laid).forCall (fun _ _ => 0) ⟨#[], #[Value.int .i64 0, Value.slice none 0 0, Value.int .i64 0, Value.int .i64 0, Value.int .u8 0], []⟩).memory Tryd.f4.params.toList Rows.carryCutsSpec.vars false (#[Value.int .i64 0, Value.slice none 0 0, Value.int .i64 0, Value.int .i64 0, Value.int .u8 0] : Array Value).toList 8 = some ([.lit (.int .i64 0), .nil, .lit (.int .i64 0), .lit (.int .i64 0), .lit (.int .u8 0)], [], places) :=
  ⟨[], by kernel_rfl⟩

set_option maxRecDepth 100000 in
theorem lifted (os : Os) (started : os.Started) (H : Type) (enc : TypeId × Value → H) (F : Stop.Interp) :
    ReturnsInHanded {} Tryd.checked os 4 .any ((OpenSpec.ofChange Rows.carryCutsSpec).preRow enc Tryd.prog Tryd.f4 Rows.carryCutsRow.domain false Rows.carryCutsRow.laid) (((OpenSpec.ofChange Rows.carryCutsSpec).at F).post enc Tryd.prog Tryd.f4 false true false false) := by
  obtain ⟨places, hx⟩ := reads os enc
  refine returnsInHanded_of_row (C := Tryd.checked) (s := OpenSpec.ofChange Rows.carryCutsSpec) own started (by kernel_rfl) Tryd.func4
    (witness_row_atRef (enc := enc) (C := Tryd.checked) false (World.laidAll Tryd.prog os Rows.carryCutsRow.laid) #[Value.int .i64 0, Value.slice none 0 0, Value.int .i64 0, Value.int .i64 0, Value.int .u8 0] (World.laidAll_os _ _ _) (by kernel_rfl) (by kernel_rfl) (by kernel_rfl)
      (OpenSpec.preRow_of_cond 8 hx (by kernel_rfl) (fun k hk => by cases hk) (by kernel_rfl) (laid_met os))) ?_
  intro W base args ds gs before hval hW _ _ _ hL hsh _
  exact contract H enc W base args ds gs before hval hW hL hsh

theorem said : Rows.CarryCutsSaid :=
  OpenClaim.holds_of_cond 4 Tryd.f4 rfl rfl rfl rfl rfl rfl rfl ⟨rfl, rfl, rfl, rfl, rfl⟩ rfl rfl rfl rfl rfl (by kernel_rfl) Tryd.func4 (by kernel_rfl)
    (of_decide_eq_true (by kernel_rfl)) (by unfold Func.isWrapper; first | (rw [if_pos (by decide +kernel)]; kernel_rfl) | (rw [if_neg (by decide +kernel)]; exact ⟨rfl, rfl⟩))
    (fun os started H enc _ F => by rw [OpenClaim.pre_eq_preRow]; exact lifted os started H enc F)

theorem plain (f : FuncId) (fn : Func) (hf : Tryd.pinned.checked.prog.funcNamed "levelhand/levelhandlaw2.CarryCuts" = some f) (hfn : Tryd.pinned.checked.prog.funcs[f]? = some fn) :
    true = Tryd.pinned.checked.prog.looks [] ∧ ∀ (j : Nat) t, fn.params[j]? = some t → Tryd.pinned.checked.prog.wantsStandIn t = false := by
  obtain rfl : f = 4 := Option.some.inj ((show Tryd.prog.funcNamed "levelhand/levelhandlaw2.CarryCuts" = some 4 by kernel_rfl).symm.trans hf) |>.symm
  obtain rfl : fn = Tryd.f4 := (Option.some.inj (Tryd.func4.symm.trans hfn)).symm
  refine ⟨by kernel_rfl, fun j t ht => ?_⟩
  rw [Tryd.params4] at ht
  have hm := Array.mem_of_getElem? ht
  simp only [List.mem_toArray, List.mem_cons, List.not_mem_nil, or_false] at hm
  rcases hm with rfl | rfl | rfl | rfl | rfl
  · exact (show Tryd.prog.wantsStandIn 3 = false by kernel_rfl)
  · exact (show Tryd.prog.wantsStandIn 31 = false by kernel_rfl)
  · exact (show Tryd.prog.wantsStandIn 3 = false by kernel_rfl)
  · exact (show Tryd.prog.wantsStandIn 3 = false by kernel_rfl)
  · exact (show Tryd.prog.wantsStandIn 5 = false by kernel_rfl)

theorem card : Rows.CarryCutsCardSaid :=
  Claim7.holds_tied_plain_at .later [] _ _ _ _ said (fun _ h => by cases h) (by kernel_rfl) (fun _ h => by cases h) carryCuts_row_tie rfl ⟨rfl, rfl⟩ (by kernel_rfl) rfl plain (by kernel_rfl)
end Go.Proofs.YtalfjaogpbndeaaDoor.carryCutsLaw
