/-
  maps.Values at flows, and slices.AppendSeq, slices.Collect over it: a new slice of the flows, in some order.
-/
import Derived.Test.YtnmkdmehljkedaaGreatDoorFlowMem
import Derived.RangeFuncNested
import Derived.RangeFuncBound
import Derived.RangeFuncCalls
import Derived.RangeFuncLeaves
import Derived.RangeFuncBox
import Derived.RangeFuncSeq
import Derived.Sort.MapsRangeIn
import Derived.Shelf.Abstract
import Derived.Shelf.RegionOpen
import Derived.WalkKit
import Derived.OwnWalkIn
import Derived.TacticsInMore
import Derived.LoopNIn
import Derived.LoopIn
import Derived.RegionIn
import Derived.Maps.AppendAt
namespace Go.Proofs.YtnmkdmehljkedaaGreatDoor
open Go.RowKit Go.Shelf Go.Maps

attribute [local go_sem] Oper.semAt_some

theorem info_flow : (Tryz.prog.info? 80).map (fun i => (i.zero, i.size, i.bytes)) = some (some (flV flZ), 3, 32) := by kernel_rfl
theorem flcells_new (w : World) (x : Fl) : ∀ (j : Nat) (u : Value), (flC x)[j]? = some u → (w.alloc (.cells (flC x).toArray 80)).cell? ((⟨w.heap.size, 0, none⟩ : Addr).add j) = some u := by
  intro j u hu
  have hB := Blk.new w 80 (flC x).toArray
  have e : ((⟨w.heap.size, 0, none⟩ : Addr).add j) = ⟨w.heap.size, j, none⟩ := by
    by_cases h0 : j = 0
    · subst h0; rfl
    · simp [Addr.add, h0]
  rw [e, hB.cell j]
  simpa using hu
theorem blk_own {β : Type} (B : Nat) (t : TypeId) (f : β → Array Value) : Own (fun s W => Blk W B t (f s)) := fun s X Y row hs hg hrow =>
  hs.grown hg (fun e' => by obtain ⟨o, ho, hc⟩ := hrow B e'.symm; rw [show X.heap[B]? = _ from hs] at ho; cases ho; cases hc)

/-- What has come so far of a range over the flows. -/
def FlColl (L : List Fl) (left : Lit → Bool) (ss : List Fl) : Prop := ss.Nodup ∧ ∀ x, x ∈ ss ↔ x ∈ L ∧ left (lk x.key) = false
theorem FlColl.start {L : List Fl} (hr : Rise L) : FlColl L (has (flM L)) [] := ⟨List.nodup_nil, fun x => ⟨fun h => (List.not_mem_nil h).elim, fun ⟨h1, h2⟩ => by
  rw [flM_has, findF_mem hr h1] at h2
  cases h2⟩⟩
theorem fl_came {L : List Fl} {k : Nat} {v : Value} {y : DataW Unit × List MemPlace} (hv : rFl v = some y) (hat : ∀ zd, (flM L).atKey (lk k) zd = y.1) : ∃ x, x ∈ L ∧ x.key = k ∧ v = flV x := by
  cases hf : findF L k with
  | none =>
    have h1 := hat .nil
    have h2 := hat (.lit (.bool true))
    rw [flM_at, hf] at h1 h2
    dsimp only at h1 h2
    rw [← h2] at h1
    cases h1
  | some x =>
    have h1 := hat .nil
    rw [flM_at, hf] at h1
    obtain ⟨x', rfl, rfl⟩ := rFl_some hv
    obtain rfl := flD_inj h1
    exact ⟨x, (findF_some hf).1, (findF_some hf).2, rfl⟩
theorem FlColl.step {L : List Fl} {left : Lit → Bool} {ss : List Fl} (h : FlColl L left ss) (hr : Rise L) {x : Fl} (hx : x ∈ L) (hl : left (lk x.key) = true) : FlColl L (fun z => left z && !z.sameKey (lk x.key)) (ss ++ [x]) := by
  refine ⟨?_, fun y => ?_⟩
  · rw [List.nodup_append]
    refine ⟨h.1, by simp, fun a ha b hb => ?_⟩
    rw [List.mem_singleton] at hb
    subst hb
    rintro rfl
    have := ((h.2 a).1 ha).2
    rw [hl] at this; cases this
  · dsimp only
    rw [List.mem_append, List.mem_singleton, h.2, lk_same]
    constructor
    · rintro (⟨h1, h2⟩ | rfl)
      · exact ⟨h1, by simp [h2]⟩
      · exact ⟨hx, by simp⟩
    · rintro ⟨h1, h2⟩
      by_cases hk : y.key = x.key
      · exact .inr (hr.inj h1 hx hk)
      · exact .inl ⟨h1, by simpa [hk] using h2⟩
theorem FlColl.perm {L : List Fl} {left : Lit → Bool} {ss : List Fl} (h : FlColl L left ss) (hr : Rise L) (hl : ∀ kl, left kl = false) : ss.Perm L :=
  (List.perm_ext_iff_of_nodup h.1 (nodup_of_rise hr)).2 fun x => by rw [h.2]; simp [hl]

set_option maxRecDepth 100000 in
set_option maxHeartbeats 2000000 in
theorem flvalues1_in (F : Fence) (n : Nat) (h7 : F.fn 59) (hro : F.round = none) (hn : 1 ≤ n) (l Bm b : Nat) (L : List Fl) (J Jx : List Fl → World → Prop)
    (hY : ∀ pre x W, J pre W → pre.length < L.length → YieldAt F (n - 1) Tryz.prog l #[flV x] W fun e W' =>
      (e = .returned (.bool true) ∧ J (pre ++ [x]) W' ∧ KeepsWalks W W') ∨ (e = .returned (.bool false) ∧ Jx (pre ++ [x]) W'))
    (W : World) (hJ : AbidesFrom W.heap.size J) (hm : W.cell? ⟨Bm, 0, none⟩ = some (.map (some b))) (hM : FlMap W b L) (h0 : J [] W) :
    CallsIn F n Tryz.prog 59 #[.func (.yield l) #[] #[], .pointer (some ⟨Bm, 0, none⟩)] W fun e W' => (∃ v, e = .returned v) ∧
      ((∃ ys, ys.Perm L ∧ J ys W') ∨ (∃ pre : List Fl, True ∧ Jx pre W')) := by
  have hr := hM.rise
  have K := int_keyed Tryz.underlying32
  have hown := hM.own
  have HY := Lib.hid hY
  have HJ := Lib.hid hJ
  clear hY hJ
  refine callsIn_of_wp Tryz.func59 rfl h7 ?_ hro
  simp only [Tryz.ntmps59, List.size_toArray, List.length_cons, List.length_nil, Nat.reduceAdd, Nat.reduceSub, Array.replicate_succ, Array.replicate_zero, List.push_toArray, List.append_toArray, List.nil_append, List.cons_append]
  gi_wp2_with (first
    | (gi_at_range; refine wpListIn_range_own _ rfl _ 76 rfl 32 80 K Tryz.underlying76 _ b L.length _ rfl hown ?_; intro w0 hrg0 hg0 hs0)
    | gi_in)
  go_frame
  gi_loopw [4] (fun _ wr => ∃ (left : Lit → Bool) (cnt : Nat) (ss : List Fl), wr.ranges Tryz.prog 32 rFl b W.heap.size L.length (flM L) left cnt ∧ ss.length + cnt ≤ L.length ∧ FlColl L left ss ∧ J ss wr)
    (fun _ wr => wr.rangeLeft b W.heap.size)
  case atStart =>
    exact ⟨_, _, [], hrg0, by rw [flM_size]; simp, FlColl.start hr, HJ.out [] W w0 none h0 hg0 (fun r e => by cases e)⟩
  case round =>
    obtain ⟨left, cnt, ss, hrg, hcs, hC, hJs⟩ := hrel
    gi_wp2_with (first
      | (gi_at_next; refine wpListIn_next_ranges _ rfl _ rfl 32 K rFl id flV (fun key kl _ => ⟨key, rfl⟩) (fun v y hv => by obtain ⟨x, hx, _⟩ := rFl_some hv; exact ⟨x, hx⟩) b W.heap.size L.length _ _ _ rfl hrg ?_ ?_)
      | gi_in)
    · intro hc0 hl0
      gi_wp2
      go_end0
      exact ⟨⟨_, rfl⟩, .inl ⟨ss, hC.perm hr hl0, hJs⟩⟩
    · intro key c kl yd yp w2 cnt2 hkey hlk hv hat hrg2 hlt hg2 hs2 hen
      obtain ⟨kz, rfl, rfl, hwf⟩ := Maps.keyOf_int_inv Tryz.underlying32 hkey
      obtain ⟨k, rfl, hU⟩ := u64_of_wf hwf
      obtain ⟨x, hx, rfl, hcx⟩ := fl_came hv hat
      have hxc : c = x := by
        have h1 := rFl_mk c
        rw [hcx, rFl_mk] at h1
        exact (flD_inj (by injection h1 with h1; injection h1)).symm
      subst hxc
      have hJ2 : J ss w2 := HJ.out ss wr w2 (some W.heap.size) hJs hg2 (fun r e => by cases e; exact ⟨Nat.le_refl _, hrg.iter_walk⟩)
      have hJ3 : J ss (w2.alloc (.cells #[.int .u64 (c.key : Int), .string c.host, .int .i64 c.til] 80)) := HJ.out ss w2 _ none hJ2 (World.grownBy_alloc w2 _ none) (fun r e => by cases e)
      have hrg3 := hrg2.alloc (.cells #[.int .u64 (c.key : Int), .string c.host, .int .i64 c.til] 80)
      obtain ⟨fn, tmps, assign, body, hy, hR⟩ := HY.out ss c _ hJ3 (by omega)
      have hC2 := Lib.hid (hC.step hr hx hlk)
      clear hs2 hC hcx hkey hv hat
      unfold flV at hy hen
      gi_wp2
      refine hR.mono ?_
      rintro e W3 (⟨rfl, hJ4, hk3⟩ | ⟨rfl, hJx4⟩)
      · gi_wp2
        have hrg4 := hrg3.of_walks hk3
        go_roundw
        case rel => exact ⟨_, cnt2, ss ++ [c], hrg4, by simp; omega, hC2.out, hJ4⟩
        case measure => rw [hrg4.left_eq, hrg.left_eq]; exact hlt
      · gi_wp2
        refine bodyPost_ret (results_none rfl _ _ _) rfl ?_
        exact ⟨⟨_, rfl⟩, .inr ⟨_, trivial, hJx4⟩⟩
theorem flvalues_any (mb : Option Nat) (w : World) :
    Calls Tryz.prog 39 #[.map mb] w fun e w' => e = .returned (.func (.func 59) #[] #[.pointer (some ⟨w.heap.size, 0, none⟩)]) ∧ w.alloc (.cells #[.map mb] 76) = w' := by
  go_enter Tryz.func39, Tryz.ntmps39
  go_wp2
  go_ret
  exact ⟨rfl, rfl⟩
theorem flvalues_stops (F : Fence) (n : Nat) (h7 : F.fn 59) (hro : F.round = none) (hn : 1 ≤ n) (Bm b : Nat) (L : List Fl) (w : World) (hBm : Bm < w.heap.size)
    (hc : w.cell? ⟨Bm, 0, none⟩ = some (.map (some b))) (hM : FlMap w b L) :
    SeqStopsK F n Tryz.prog 59 #[.pointer (some ⟨Bm, 0, none⟩)] (fun x : Fl => #[flV x]) KeepsWalks (fun ys => ys.Perm L) (fun _ => True) L.length w := fun l J Jx W hW hJ _ hY h0 => by
  have hc' := (hW.cell (p := ⟨Bm, 0, none⟩) hBm).trans hc
  exact flvalues1_in F n h7 hro hn l Bm b L J Jx hY W hJ hc' (hM.below hW) h0

theorem app_walks {W w1 : World} {n₀ B : Nat} {e : TypeId} {size k : Nat} {v v' : Value} {xs : List Value} {tmp : Obj} (hrow : W.ownsRow n₀ e size v k xs) (hgrow : (W.alloc tmp).grownBy w1 v.ownBlock) : KeepsWalks W (w1.setCell ⟨B, 0, none⟩ v') := by
  refine ((KeepsWalks.alloc W tmp).trans (KeepsWalks.of_grownBy hgrow ?_)).trans (KeepsWalks.setCell _ _ _)
  intro j o hj ho
  rcases (hrow.alloc tmp).2 with ⟨rfl, _⟩ | ⟨g, cap, cur, rfl, _, hgb, _⟩
  · simp [Value.ownBlock] at hj
  · obtain rfl : g = j := by simpa [Value.ownBlock] using hj
    rw [ho] at hgb
    cases hgb
    rfl
set_option maxRecDepth 100000 in
set_option maxHeartbeats 4000000 in
theorem flAppendSeq_in (F : Fence) (n : Nat) (h3 : F.fn 68) (h5 : F.fn 59) (hro : F.round = none) (hn : 3 ≤ n) (Bm b : Nat) (L : List Fl) (hlen : L.length ≤ 1000) (w : World)
    (hBm : Bm < w.heap.size) (hc : w.cell? ⟨Bm, 0, none⟩ = some (.map (some b))) (hM : FlMap w b L) :
    CallsIn F n Tryz.prog 68 #[.slice none 0 0, .func (.func 59) #[] #[.pointer (some ⟨Bm, 0, none⟩)]] w fun e W' => ∃ v ys, e = .returned v ∧ ys.Perm L ∧ W'.ownsRow w.heap.size 80 3 v ys.length (flsC ys) ∧ Below w.heap.size w W' := by
  have h1 : 1 ≤ n := by omega
  obtain ⟨i0, hi, hz0, hz1, hz2⟩ := info_parts info_flow
  refine callsIn_of_wp_marks Tryz.func68 rfl h3 ?_ hro
  simp only [Tryz.ntmps68, List.size_toArray, List.length_cons, List.length_nil, Nat.reduceAdd, Nat.reduceSub, Array.replicate_succ, Array.replicate_zero, List.push_toArray, List.append_toArray, List.nil_append, List.cons_append]
  gi_wp2
  have bO := Boxed.new w 36 (.slice none 0 0)
  have hB0 : Below w.heap.size w (w.alloc (.cells #[.slice none 0 0] 36)) := (Below.refl _ w).alloc (Nat.le_refl _) _
  refine wpIn_rangeFunc_ownH hro h1 (gf := 59) (lb := #[.pointer (some ⟨Bm, 0, none⟩)]) rfl h5 (enters_of Tryz.func59 (by kernel_rfl) rfl)
    (flvalues_stops F (n - 1) h5 hro (by omega) Bm b L _ (by simp; omega) ((hB0.cell (p := ⟨Bm, 0, none⟩) hBm).trans hc) (hM.below hB0)) walksK_t walksK_b (Below.refl _ _) (fun _ => rfl)
    (fun pre W => (∃ v, Boxed W w.heap.size 36 v ∧ W.ownsRow w.heap.size 80 3 v pre.length (flsC pre) ∧ True) ∧ Below w.heap.size w W)
    (fun _ _ _ => False)
    (OwnFrom.and (Own.from (holdsRow_own w.heap.size w.heap.size 36 80 3 (fun pre => pre.length) (fun pre => flsC pre) (fun pre v => True)) _) (ownFrom_below (Nat.le_refl _) (by simp)))
    (fun _ _ _ _ _ hs _ _ => hs)
    ⟨⟨_, bO, World.ownsRow_nil _ _ _ _, trivial⟩, hB0⟩
    (fun x a' W => ∃ c, a' = { tmps := #[.slice none 0 0, .func (.func 59) #[] #[.pointer (some ⟨Bm, 0, none⟩)], .pointer (some ⟨w.heap.size, 0, none⟩), undef, .slice none 0 0, .pointer (some ⟨c, 0, none⟩), .func (.func 59) #[] #[.pointer (some ⟨Bm, 0, none⟩)], flV x, undef, undef, undef, undef, undef], defers := [] } ∧ Blk W c 80 (flC x).toArray) (fun x a' => ?axown) ?assign ?body ?done ?stop
  case axown =>
    rintro ⟨⟩ X Y row ⟨c, ha, hb⟩ hg hrow
    exact ⟨c, ha, (blk_own c 80 (fun _ : Unit => (flC x).toArray)) () X Y row hb hg fun r e => (hrow r e).2⟩
  case assign =>
    rintro l pre x W K ⟨⟨v, hv, hrow, _⟩, hB⟩ hK
    have hK2 := hK _ (W.alloc (.cells (flC x).toArray 80)) (KeepsFrom.of_grownBy (World.grownBy_alloc W _ none) (fun j e => by cases e)) (KeepsWalks.alloc W _) ⟨⟨v, hv.alloc _, hrow.alloc _, trivial⟩, hB.alloc hB.size _⟩ ⟨_, rfl, Blk.new W _ _⟩
    unfold flV flC at *
    gi_wp2
    exact hK2
  case body =>
    rintro l pre x a' W _ _ ⟨⟨v, hv, hrow, _⟩, hB⟩ ⟨c, rfl, hb⟩ hlt
    have hcv := hv.cell
    have c0 : W.cell? ⟨c, 0, none⟩ = some (.int .u64 (x.key : Int)) := hb.cell 0
    have c1 : W.cell? ⟨c, 1, none⟩ = some (.string x.host) := hb.cell 1
    have c2 : W.cell? ⟨c, 2, none⟩ = some (.int .i64 x.til) := hb.cell 2
    unfold flV
    gi_wp2_with (gi_at_builtin; refine wpListIn_append_own _ rfl _ _ 36 rfl w.heap.size 80 i0 (flV flZ) 3 32 Tryz.underlying36 hi hz0 hz1 hz2 rfl (by decide) _ _ _ rfl (hrow.alloc _) ⟨W.heap.size, 0, none⟩ 1 1 (flC x) rfl rfl (flcells_new W x) (fun u hu => flsC_one [x] u (by simpa [flsC] using hu)) (by unfold maxLen; omega) (by omega) (by have := hB.size; simp; omega) ?_; intro v' w1 hown' hgrow _; obtain ⟨g', cap', rfl⟩ := ownsRow_succ hown'; obtain ⟨hv1, hv2, hr2, hk2, hb2⟩ := hv.appended (by decide) hrow hB.size (Nat.le_refl _) hown' hgrow; have hc1 := hv1.cell; have hf1 := hv1.frozen; have hw2 := app_walks (B := w.heap.size) (v' := .slice (some ⟨g', 0, none⟩) (pre.length + 1) cap') hrow hgrow)
    exact ⟨hk2.from _, hw2, ⟨_, hv2, by simpa [flsC_append, flsC] using hr2, trivial⟩, hB.trans hb2⟩
  case done =>
    rintro D ys W hD hS ⟨⟨v, hv, hrow, _⟩, hB⟩ hK
    have hc := hv.cell
    gi_wp2
    refine ⟨by simp, .inl ⟨_, _, rfl, run_takeDeferred hK, ?_⟩⟩
    exact ⟨_, results_tmp rfl _ _ _, v, ys, rfl, hS, ownsRow_putObj hrow _ hK rfl, hB.trans (belowK_b (w := w) (Nat.le_refl _) W D _ _ (by simp at hD; omega) hK rfl rfl)⟩
  case stop =>
    rintro D c pre W _ _ h _
    exact h.elim
theorem flCollect_any (Bm b : Nat) (L : List Fl) (hlen : L.length ≤ 1000) (w : World) (hBm : Bm < w.heap.size) (hc : w.cell? ⟨Bm, 0, none⟩ = some (.map (some b))) (hM : FlMap w b L) :
    Calls Tryz.prog 57 #[.func (.func 59) #[] #[.pointer (some ⟨Bm, 0, none⟩)]] w fun e W' => ∃ v ys, e = .returned v ∧ ys.Perm L ∧ W'.ownsRow w.heap.size 80 3 v ys.length (flsC ys) ∧ Below w.heap.size w W' := by
  have HA := Lib.hid ((callsIn_wide (n := 6)).1 (flAppendSeq_in Fence.wide 6 trivial trivial rfl (by omega) Bm b L hlen w hBm hc hM))
  clear hc hM hBm
  go_enter Tryz.func57, Tryz.ntmps57
  go_wp2_with fail
  refine HA.out.mono ?_
  rintro e w1 ⟨v, ys, rfl, hp, ho, hb⟩
  go_wp2
  go_ret
  exact ⟨v, ys, rfl, hp, ho, hb⟩
end Go.Proofs.YtnmkdmehljkedaaGreatDoor
