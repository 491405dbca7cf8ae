/-
  TableCounts: for every argument the call returns true, and the arguments read as they did. No condition.
-/
import Derived.Test.YtbbbnnooaaelmaaDoorLaidWorld
import Derived.Test.YtbbbnnooaaelmaaDoorArgs
import Derived.Test.YtbbbnnooaaelmaaDoorHandle
import Derived.Test.YtbbbnnooaaelmaaDoorTableCounts
import Derived.Test.YtbbbnnooaaelmaaDoorCards
import Derived.Test.YtbbbnnooaaelmaaDoorTie
import Derived.MakeChecks
namespace Go.Proofs.YtbbbnnooaaelmaaDoor.tableCountsLaw
open Go.ChangeShapes Go.WideShapes Go.ChangeAt Go.RowKit Go.ChangeMaps

theorem own : ownKnob Tryd.prog.godebug = none := by kernel_rfl
theorem laidOut : laidOutB Tryd.prog = true := by kernel_rfl

theorem errs {W : World} (h : laidMetH Tryd.prog Rows.tableCountsRow.laid W) : ∃ ea, ErrsAt W ea all9 := by
  have h2 : laidMet Tryd.prog (Rows.tableCountsRow.laid.filter fun x => x.2.handleName?.isNone) W := laid_of_handle h
  refine errs_of_laid h2 ?_ (by kernel_rfl) _ (by kernel_rfl)
  have e : (Rows.tableCountsRow.laid.filter fun x => x.2.handleName?.isNone) = Rows.tableCountsRow.laid.tail := by kernel_rfl
  rw [e]
  intro x hx
  simp only [Rows.tableCountsRow, List.tail_cons, List.mem_cons, List.not_mem_nil, or_false] at hx
  rcases hx with rfl | rfl | rfl | rfl | rfl | rfl | rfl | rfl | rfl
  · exact ⟨_, rfl⟩
  · exact ⟨_, rfl⟩
  · exact ⟨_, rfl⟩
  · exact ⟨_, rfl⟩
  · exact ⟨_, rfl⟩
  · exact ⟨_, rfl⟩
  · exact ⟨_, rfl⟩
  · exact ⟨_, rfl⟩
  · exact ⟨_, rfl⟩

set_option maxRecDepth 100000 in
theorem contract (H : Type) (enc : TypeId × Value → H) (W : World) (base : Nat) (args : Array Value) (ds gs : List (DataW H)) (before : List MemPlace)
    (hval : ∀ (j : Nat) t v, Tryd.f10.params[j]? = some t → args[j]? = some v → Value.okWide Tryd.prog W .any base t v)
    (hW : DataW.Whole enc Tryd.prog Tryd.f10.params.toList Rows.tableCountsSpec.vars false W args.toList ds gs before) (hL : laidMetH Tryd.prog Rows.tableCountsRow.laid W) :
    Calls Tryd.prog 10 args W fun e W' => ∃ v, e = .returned v ∧ Rows.tableCountsSpec.post enc Tryd.prog Tryd.f10 false true false false W args v W' := by
  have hW' := hW
  obtain ⟨p, q, hA0, hV, rfl, hfz, hnd⟩ := hW
  have hA : DataW.TrodAll enc Tryd.prog W 0 (fun _ => true) true Tryd.f10.params.toList args.toList ds p := hA0
  have hlt : ∀ x ∈ p, x.block < W.heap.size := fun x hx => hW'.lt x (List.mem_append_left _ hx)
  rw [Tryd.params10] at hA hval
  obtain ⟨v0, vs0, d0, ds0, p0, q0, hargs, rfl, e0, h0, r0⟩ := trodAll_cons hA
  obtain ⟨v1, vs1, d1, ds1, p1, q1, rfl, rfl, e1, h1, r1⟩ := trodAll_cons r0
  obtain ⟨v2, vs2, d2, ds2, p2, q2, rfl, rfl, e2, h2, r2⟩ := trodAll_cons r1
  obtain ⟨v3, vs3, d3, ds3, p3, q3, rfl, rfl, e3, h3, r3⟩ := trodAll_cons r2
  obtain ⟨v4, vs4, d4, ds4, p4, q4, rfl, rfl, e4, h4, r4⟩ := trodAll_cons r3
  obtain ⟨ez, rfl, eq⟩ := trodAll_nil r4
  subst ez
  obtain rfl : args = #[v0, v1, v2, v3, v4] := by cases args; simp_all
  obtain ⟨rfl, rfl⟩ := trodVars_none hV
  have L0 : ∀ x ∈ p0, x.block < W.heap.size := fun x hx => hlt x (by rw [e0]; exact List.mem_append_left _ hx)
  have L1 : ∀ x ∈ p1, x.block < W.heap.size := fun x hx => hlt x (by rw [e0]; rw [e1]; exact List.mem_append_right _ (List.mem_append_left _ hx))
  have L2 : ∀ x ∈ p2, x.block < W.heap.size := fun x hx => hlt x (by rw [e0]; rw [e1]; rw [e2]; exact List.mem_append_right _ (List.mem_append_right _ (List.mem_append_left _ hx)))
  have L3 : ∀ x ∈ p3, x.block < W.heap.size := fun x hx => hlt x (by rw [e0]; rw [e1]; rw [e2]; rw [e3]; exact List.mem_append_right _ (List.mem_append_right _ (List.mem_append_right _ (List.mem_append_left _ hx))))
  have L4 : ∀ x ∈ p4, x.block < W.heap.size := fun x hx => hlt x (by rw [e0]; rw [e1]; rw [e2]; rw [e3]; rw [e4]; exact List.mem_append_right _ (List.mem_append_right _ (List.mem_append_right _ (List.mem_append_right _ (List.mem_append_left _ hx)))))
  obtain ⟨A0, c0, l0, rfl, R0, lc0, cm0, wf0⟩ := arg_ints Tryd.underlying25 Tryd.underlying3 (by kernel_rfl) (hval 0 25 v0 rfl rfl) h0 L0
  obtain ⟨x1, rfl, rfl, g1, wx1⟩ := open_int Tryd.underlying3 (hval 1 3 v1 rfl rfl) h1
  have b1 := bounds_i64 wx1
  obtain ⟨A2, c2, l2, rfl, R2, lc2, cm2, wf2⟩ := arg_strings Tryd.underlying22 Tryd.underlying9 (by kernel_rfl) (hval 2 22 v2 rfl rfl) h2 L2
  obtain ⟨A3, c3, l3, rfl, R3, lc3, cm3, wf3⟩ := arg_strings Tryd.underlying22 Tryd.underlying9 (by kernel_rfl) (hval 3 22 v3 rfl rfl) h3 L3
  obtain ⟨x4, rfl, rfl, g4, wx4⟩ := open_int Tryd.underlying3 (hval 4 3 v4 rfl rfl) h4
  have b4 := bounds_i64 wx4
  obtain ⟨ea, hE⟩ := errs hL
  have hG : HandleAt W := handle_of hL (List.mem_cons_self)
  have hW9 := errsW_of hE
  refine (tableCounts_args ea A0 c0 l0 x1 A2 A3 c2 c3 l2 l3 x4 W (errsW_of hE) hG R0 R2 lc2 cm2 wf2 R3 lc3 cm3 wf3).mono fun e W' ⟨he, hg⟩ => ?_
  subst he
  exact ⟨_, rfl, law_post (tb := 4) laidOut (by kernel_rfl) rfl rfl Tryd.underlying4 ⟨rfl, rfl, rfl⟩ hW' hg⟩

theorem laid_met (os : Os) : laidMetH Tryd.prog Rows.tableCountsRow.laid ((laidWorld os).forCall (fun _ _ => 0) ⟨#[], #[Value.slice none 0 0, Value.int .i64 0, Value.slice none 0 0, Value.slice none 0 0, Value.int .i64 0], []⟩).memory :=
  laidMetH_of_parts (laidMet_of_run' 8 (by kernel_rfl) (by kernel_rfl)) (by kernel_rfl)
theorem reads (os : Os) {H : Type} (enc : TypeId × Value → H) : ∃ places, DataW.whole enc Tryd.prog ((laidWorld os).forCall (fun _ _ => 0) ⟨#[], #[Value.slice none 0 0, Value.int .i64 0, Value.slice none 0 0, Value.slice none 0 0, Value.int .i64 0], []⟩).memory Tryd.f10.params.toList Rows.tableCountsSpec.vars false (#[Value.slice none 0 0, Value.int .i64 0, Value.slice none 0 0, Value.slice none 0 0, Value.int .i64 0] : Array Value).toList 8 = some ([.nil, .lit (.int .i64 0), .nil, .nil, .lit (.int .i64 0)], [], places) :=
  ⟨[], by kernel_rfl⟩

set_option maxRecDepth 100000 in
theorem lifted (os : Os) (started : os.Started) (H : Type) (enc : TypeId × Value → H) (F : Stop.Interp) :
    ReturnsInHanded {} Tryd.checked os 10 .any ((OpenSpec.ofChange Rows.tableCountsSpec).preRow enc Tryd.prog Tryd.f10 Rows.tableCountsRow.domain false Rows.tableCountsRow.laid) (((OpenSpec.ofChange Rows.tableCountsSpec).at F).post enc Tryd.prog Tryd.f10 false true false false) := by
  obtain ⟨places, hx⟩ := reads os enc
  refine returnsInHanded_of_row (C := Tryd.checked) (s := OpenSpec.ofChange Rows.tableCountsSpec) own started (by kernel_rfl) Tryd.func10
    (witness_row_atRef (enc := enc) (C := Tryd.checked) false (laidWorld os) #[Value.slice none 0 0, Value.int .i64 0, Value.slice none 0 0, Value.slice none 0 0, Value.int .i64 0] rfl (by kernel_rfl) (by kernel_rfl) (by kernel_rfl)
      (OpenSpec.preRow_of_cond 8 hx (by kernel_rfl) (fun k hk => by cases hk) (by kernel_rfl) (laid_met os))) ?_
  intro W base args ds gs before hval hW _ _ _ hL _ _
  exact contract H enc W base args ds gs before hval hW hL

theorem said : Rows.TableCountsSaid :=
  OpenClaim.holds_of_cond 10 Tryd.f10 rfl rfl rfl rfl rfl rfl rfl ⟨rfl, rfl, rfl, rfl, rfl⟩ rfl rfl rfl rfl rfl (by kernel_rfl) Tryd.func10 (by kernel_rfl)
    (of_decide_eq_true (by kernel_rfl)) (by unfold Func.isWrapper; first | (rw [if_pos (by decide +kernel)]; kernel_rfl) | (rw [if_neg (by decide +kernel)]; exact ⟨rfl, rfl⟩))
    (fun os started H enc _ F => by rw [OpenClaim.pre_eq_preRow]; exact lifted os started H enc F)

theorem plain (f : FuncId) (fn : Func) (hf : Tryd.pinned.checked.prog.funcNamed "levelhand/levelhandlaw1.TableCounts" = some f) (hfn : Tryd.pinned.checked.prog.funcs[f]? = some fn) :
    true = Tryd.pinned.checked.prog.looks [] ∧ ∀ (j : Nat) t, fn.params[j]? = some t → Tryd.pinned.checked.prog.wantsStandIn t = false := by
  obtain rfl : f = 10 := Option.some.inj ((show Tryd.prog.funcNamed "levelhand/levelhandlaw1.TableCounts" = some 10 by kernel_rfl).symm.trans hf) |>.symm
  obtain rfl : fn = Tryd.f10 := (Option.some.inj (Tryd.func10.symm.trans hfn)).symm
  refine ⟨by kernel_rfl, fun j t ht => ?_⟩
  rw [Tryd.params10] at ht
  have hm := Array.mem_of_getElem? ht
  simp only [List.mem_toArray, List.mem_cons, List.not_mem_nil, or_false] at hm
  rcases hm with rfl | rfl | rfl | rfl | rfl
  · exact (show Tryd.prog.wantsStandIn 25 = false by kernel_rfl)
  · exact (show Tryd.prog.wantsStandIn 3 = false by kernel_rfl)
  · exact (show Tryd.prog.wantsStandIn 22 = false by kernel_rfl)
  · exact (show Tryd.prog.wantsStandIn 22 = false by kernel_rfl)
  · exact (show Tryd.prog.wantsStandIn 3 = false by kernel_rfl)

theorem card : Rows.TableCountsCardSaid :=
  Claim7.holds_tied_plain_at .later [] _ _ _ _ said (fun _ h => by cases h) (by kernel_rfl) (fun _ h => by cases h) tableCounts_row_tie rfl ⟨rfl, rfl⟩ (by kernel_rfl) rfl plain (by kernel_rfl)
end Go.Proofs.YtbbbnnooaaelmaaDoor.tableCountsLaw
