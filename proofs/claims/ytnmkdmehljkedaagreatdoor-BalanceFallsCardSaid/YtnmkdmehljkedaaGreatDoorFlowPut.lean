/-
  The walks of package flows: room, Put.
-/
import Derived.Test.YtnmkdmehljkedaaGreatDoorFlows
import Derived.Deep.RegionHeld3
import Derived.Deep.RegionLaw
namespace Go.Proofs.YtnmkdmehljkedaaGreatDoor
open Go.RowKit

/-- The first one of those that are gone first. -/
def minF : List Fl → Fl → Fl
  | [], m => m
  | x :: r, m => minF r (if x.til < m.til then x else m)
theorem minF_snoc (l : List Fl) (x m : Fl) : minF (l ++ [x]) m = if x.til < (minF l m).til then x else minF l m := by
  induction l generalizing m with
  | nil => rfl
  | cons y r ih => exact ih _
theorem minF_mem (l : List Fl) (m : Fl) : minF l m = m ∨ minF l m ∈ l := by
  induction l generalizing m with
  | nil => exact .inl rfl
  | cons y r ih =>
    rcases ih (if y.til < m.til then y else m) with h | h
    · rw [minF, h]
      split
      · exact .inr (List.mem_cons_self ..)
      · exact .inl rfl
    · exact .inr (List.mem_cons_of_mem _ h)
def minL (L : List Fl) : Fl := match L with | [] => flZ | x :: r => minF r x
def roomF (L : List Fl) (k : Nat) : List Fl := if (findF L k).isSome = true ∨ L.length < 200 then L else delF (minL L).key L
def putF (L : List Fl) (x : Fl) : List Fl := insF x (delF x.key (roomF L x.key))
theorem minL_mem {L : List Fl} (h : L ≠ []) : minL L ∈ L := by
  cases L with
  | nil => exact absurd rfl h
  | cons x r =>
    rcases minF_mem r x with h1 | h1
    · show minF r x ∈ _; rw [h1]; exact List.mem_cons_self ..
    · exact List.mem_cons_of_mem _ h1
/-! Flows that one reads. -/
theorem flReads_at {w : World} {A : Option Addr} {L : List Fl} {B k : Nat} (h : Reads w B 3 A L.length (flsC L)) (hk : k < L.length) : ∃ ad, A = some ad ∧ ad.block < B ∧ w.cell? (ad.add (k * 3)) = some (.int .u64 (L[k].key : Int)) ∧ w.cell? ((ad.add (k * 3)).add 1) = some (.string L[k].host) ∧ w.cell? ((ad.add (k * 3)).add 2) = some (.int .i64 L[k].til) := by
  obtain ⟨ad, hA, hb, hc⟩ := h.2 (by omega)
  obtain ⟨h0, h1, h2⟩ := flsC_get hk
  exact ⟨ad, hA, hb, hc _ _ h0, by rw [add_of_add]; exact hc _ _ h1, by rw [add_of_add]; exact hc _ _ h2⟩
set_option maxHeartbeats 1000000 in
theorem closure_room (x y : Fl) (W : World) : Calls Tryz.prog 53 #[flV x, flV y] W fun e w' => e = .returned (.int .i64 (cmpI x.til y.til)) ∧ Below W.heap.size W w' := by
  have HC := fun W' => Lib.hid (cmp_int x.til y.til W')
  unfold IntQ at HC
  unfold flV
  generalize cmpI x.til y.til = c at *
  go_enter Tryz.func53, Tryz.ntmps53
  go_wp2_with fail
  refine (HC _).out.mono ?_
  rintro e w1 ⟨rfl, rfl⟩
  go_wp2
  go_ret
  exact ⟨rfl, ((Below.refl _ _).alloc (Nat.le_refl _) _).alloc (by simp) _⟩
theorem cmpI_neg (a b : Int) : decide (cmpI a b < 0) = decide (a < b) := by
  unfold cmpI
  by_cases h : a < b
  · simp [h]
  · by_cases h2 : b < a <;> simp [h, h2]
theorem minL_succ {L : List Fl} {k : Nat} (h1 : 1 ≤ k) (hk : k < L.length) : minL (L.take (k + 1)) = if L[k].til < (minL (L.take k)).til then L[k] else minL (L.take k) := by
  rw [List.take_succ_eq_append_getElem hk]
  cases L with
  | nil => simp at hk
  | cons x r =>
    obtain ⟨j, rfl⟩ : ∃ j, k = j + 1 := ⟨k - 1, by omega⟩
    show minF (r.take j ++ [_]) x = _
    rw [minF_snoc]
    rfl
theorem minL_one {L : List Fl} (h : 0 < L.length) : minL (L.take 1) = L[0] := by
  cases L with
  | nil => simp at h
  | cons x r => rfl
theorem flBlk_at {w : World} {g n cap B : Nat} {L : List Fl} (h : w.ownsRow B 80 3 (.slice (some ⟨g, 0, none⟩) n cap) n (flsC L)) {k : Nat} (hk : k < L.length) :
    w.cell? ⟨g, k * 3, none⟩ = some (.int .u64 (L[k].key : Int)) ∧ w.cell? ⟨g, k * 3 + 1, none⟩ = some (.string L[k].host) ∧ w.cell? ⟨g, k * 3 + 2, none⟩ = some (.int .i64 L[k].til) := by
  obtain ⟨h0, h1, h2⟩ := flsC_get hk
  have hl := h.1
  rw [flsC_length] at hl
  refine ⟨?_, ?_, ?_⟩
  · rw [h.cellAt (k * 3) (by omega)]; exact h0
  · rw [h.cellAt (k * 3 + 1) (by omega)]; exact h1
  · rw [h.cellAt (k * 3 + 2) (by omega)]; exact h2
def MinPost (x : Fl) (w : World) (e : Ending) (w' : World) : Prop := e = .returned (flV x) ∧ Below w.heap.size w w'
structure Cells3 (w : World) (g i : Nat) (x : Fl) : Prop where
  c0 : w.cell? ⟨g, i, none⟩ = some (.int .u64 (x.key : Int))
  c1 : w.cell? ⟨g, i + 1, none⟩ = some (.string x.host)
  c2 : w.cell? ⟨g, i + 2, none⟩ = some (.int .i64 x.til)
theorem cells3_of {w : World} {g n cap B : Nat} {L : List Fl} (h : w.ownsRow B 80 3 (.slice (some ⟨g, 0, none⟩) n cap) n (flsC L)) {k : Nat} (hk : k < L.length) : Cells3 w g (k * 3) L[k] := by
  obtain ⟨h0, h1, h2⟩ := flBlk_at h hk
  exact ⟨h0, h1, h2⟩
theorem Cells3.blk {w : World} {g : Nat} {t : TypeId} {x : Fl} (h : Blk w g t (flC x).toArray) : Cells3 w g 0 x := ⟨h.cell 0, h.cell 1, h.cell 2⟩
set_option maxRecDepth 100000 in
set_option maxHeartbeats 2000000 in
theorem minFlows_any (g cap B : Nat) (L : List Fl) (w : World) (ho : w.ownsRow B 80 3 (.slice (some ⟨g, 0, none⟩) L.length cap) L.length (flsC L)) (h0 : 0 < L.length) (hl : L.length ≤ 1000) :
    Calls Tryz.prog 52 #[.slice (some ⟨g, 0, none⟩) L.length cap, .func (.func 53) #[] #[]] w (MinPost (minL L) w) := by
  have HO : Hid (∀ k (h : k < L.length) W, Below w.heap.size w W → Cells3 W g (k * 3) L[k]) := Lib.hid fun k h W hW => cells3_of (own_below ho hW) h
  have t0 : decide ((L.length : Int) < 1) = false := by simp; omega
  have HN := Lib.hid (fun k (h1 : 1 ≤ k) (h2 : k < L.length) => minL_succ h1 h2)
  have H1 := Lib.hid (minL_one h0)
  have HE : Hid (minL (L.take L.length) = minL L) := Lib.hid (by rw [List.take_length])
  have hbZ : Below w.heap.size w (w.alloc (.cells #[.int .u64 0, .string ⟨#[]⟩, .int .i64 0] 80)) := (Below.refl _ _).alloc (Nat.le_refl _) _
  obtain ⟨z0, z1, z2⟩ := HO.out 0 h0 _ hbZ
  rw [Nat.zero_mul] at z0 z1 z2
  have hbA := hbZ.alloc hbZ.size (.cells (flC L[0]).toArray 80)
  have HBM := Lib.hid (Blk.new (w.alloc (.cells #[.int .u64 0, .string ⟨#[]⟩, .int .i64 0] 80)) 80 (flC L[0]).toArray)
  have HBZ := Lib.hid ((Blk.new w 80 #[.int .u64 0, .string ⟨#[]⟩, .int .i64 0]).alloc (.cells (flC L[0]).toArray 80))
  have hs : (w.alloc (.cells #[.int .u64 0, .string ⟨#[]⟩, .int .i64 0] 80)).heap.size = w.heap.size + 1 := by simp
  rw [hs, ← H1.out] at HBM
  rw [← H1.out] at HBZ hbA
  rw [← H1.out] at z0 z1 z2
  clear ho hbZ
  go_enter Tryz.func52, Tryz.ntmps52
  go_wp2_with fail
  go_loopg [6] L.length (fun gk iv wr => ∃ k : Nat, gk + k = L.length + 1 ∧ 1 ≤ k ∧ k ≤ L.length ∧ iv = .int .i64 (k : Int) ∧ Hid (Blk wr (w.heap.size + 1) 80 (flC (minL (L.take k))).toArray) ∧ Hid (Blk wr w.heap.size 80 #[.int .u64 0, .string ⟨#[]⟩, .int .i64 0]) ∧ Below w.heap.size w wr)
  case atStart => exact ⟨1, by omega, Nat.le_refl _, by omega, rfl, HBM, HBZ, hbA⟩
  case round =>
    obtain ⟨k, hgk, hk1, hkl, rfl, hBm, hBz, hb⟩ := hrel
    clear z0 z1 z2
    by_cases hlt : k < L.length
    · have hlt2 : (k : Int) < L.length := by omega
      obtain ⟨x0, x1, x2⟩ := HO.out k hlt wr hb
      obtain ⟨m0, m1, m2⟩ := Cells3.blk hBm.out
      have HNk := Lib.hid (HN.out k hk1 hlt)
      have HX : Hid (∀ W, Below w.heap.size w W → Cells3 W g (k * 3) L[k]) := Lib.hid fun W hW => HO.out k hlt W hW
      generalize L[k] = x at *
      generalize hmk : minL (L.take k) = m at *
      have HC := Lib.hid (fun W => closure_room x m W)
      have hneg := cmpI_neg x.til m.til
      unfold flV at HC
      clear hmk
      generalize cmpI x.til m.til = cv at *
      have HK : Hid (∀ W, Below wr.heap.size wr W → W.cell? ⟨g, k * 3, none⟩ = some (.int .u64 (x.key : Int)) ∧ W.cell? ⟨g, k * 3 + 1, none⟩ = some (.string x.host) ∧ W.cell? ⟨g, k * 3 + 2, none⟩ = some (.int .i64 x.til) ∧ W.cell? ⟨w.heap.size + 1, 0, none⟩ = some (.int .u64 (m.key : Int)) ∧ W.cell? ⟨w.heap.size + 1, 1, none⟩ = some (.string m.host) ∧ W.cell? ⟨w.heap.size + 1, 2, none⟩ = some (.int .i64 m.til)) := Lib.hid fun W hW => by
        obtain ⟨a0, a1, a2⟩ := HX.out W (below_two hb hW)
        obtain ⟨b0, b1, b2⟩ := Cells3.blk (hBm.out.below hW hBm.out.lt)
        exact ⟨a0, a1, a2, b0, b1, b2⟩
      by_cases hc : x.til < m.til
      · rw [if_pos hc] at HNk
        rw [decide_eq_true hc] at hneg
        go_wp2_with fail
        go_region_held3 (fun w' => w'.cell? ⟨g, k * 3, none⟩ = some (.int .u64 (x.key : Int)) ∧ w'.cell? ⟨g, k * 3 + 1, none⟩ = some (.string x.host) ∧ w'.cell? ⟨g, k * 3 + 2, none⟩ = some (.int .i64 x.til) ∧ w'.cell? ⟨w.heap.size + 1, 0, none⟩ = some (.int .u64 (m.key : Int)) ∧ w'.cell? ⟨w.heap.size + 1, 1, none⟩ = some (.string m.host) ∧ w'.cell? ⟨w.heap.size + 1, 2, none⟩ = some (.int .i64 m.til)) (first | exact ⟨x0, x1, x2, m0, m1, m2⟩ | exact HK.out _ (bl_undrew hb1) | go_keep)
          (first | (go_at_call 53; refine (HC.out _).mono ?_; rintro e w1 ⟨rfl, hb1⟩))
        have hbr : Below wr.heap.size wr w1 := bl_undrew hb1
        obtain ⟨y0, y1, y2, n0, n1, n2⟩ := HK.out _ hbr
        have hB1 := hBm.out.below hbr hBm.out.lt
        have HBz := Lib.hid (hBz.out.below hbr hBz.out.lt)
        have hb2 := below_two hb hbr
        have f0 := hB1.frozen 0
        have f1 := hB1.frozen 1
        have f2 := hB1.frozen 2
        have HB3 := Lib.hid (((hB1.set_ 0 (.int .u64 (x.key : Int))).set_ 1 (.string x.host)).set_ 2 (.int .i64 x.til))
        have HBz3 := Lib.hid (((HBz.out.far (p := ⟨w.heap.size + 1, 0, none⟩) (by simp) (.int .u64 (x.key : Int))).far (p := ⟨w.heap.size + 1, 1, none⟩) (by simp) (.string x.host)).far (p := ⟨w.heap.size + 1, 2, none⟩) (by simp) (.int .i64 x.til))
        have hb3 := ((hb2.setCell (p := ⟨w.heap.size + 1, 0, none⟩) (by simp) (.int .u64 (x.key : Int))).setCell (p := ⟨w.heap.size + 1, 1, none⟩) (by simp) (.string x.host)).setCell (p := ⟨w.heap.size + 1, 2, none⟩) (by simp) (.int .i64 x.til)
        clear hB1 hc hBm hBz hb1
        go_wp2_with fail
        go_roundg (L.length - k)
        case rel => exact ⟨k + 1, by omega, by omega, by omega, by go_num, by rw [HNk.out]; exact HB3, HBz3, hb3⟩
        case measure => omega
      · rw [if_neg hc] at HNk
        rw [decide_eq_false hc] at hneg
        go_wp2_with fail
        go_region_held3 (fun w' => w'.cell? ⟨g, k * 3, none⟩ = some (.int .u64 (x.key : Int)) ∧ w'.cell? ⟨g, k * 3 + 1, none⟩ = some (.string x.host) ∧ w'.cell? ⟨g, k * 3 + 2, none⟩ = some (.int .i64 x.til) ∧ w'.cell? ⟨w.heap.size + 1, 0, none⟩ = some (.int .u64 (m.key : Int)) ∧ w'.cell? ⟨w.heap.size + 1, 1, none⟩ = some (.string m.host) ∧ w'.cell? ⟨w.heap.size + 1, 2, none⟩ = some (.int .i64 m.til)) (first | exact ⟨x0, x1, x2, m0, m1, m2⟩ | exact HK.out _ (bl_undrew hb1) | go_keep)
          (first | (go_at_call 53; refine (HC.out _).mono ?_; rintro e w1 ⟨rfl, hb1⟩))
        have hbr : Below wr.heap.size wr w1 := bl_undrew hb1
        obtain ⟨y0, y1, y2, n0, n1, n2⟩ := HK.out _ hbr
        have hB1 := hBm.out.below hbr hBm.out.lt
        have HBz := Lib.hid (hBz.out.below hbr hBz.out.lt)
        have hb2 := below_two hb hbr
        have HB3 := Lib.hid hB1
        clear hB1 hc hBm hBz hb1
        go_wp2_with fail
        go_roundg (L.length - k)
        case rel => exact ⟨k + 1, by omega, by omega, by omega, by go_num, by rw [HNk.out]; exact HB3, HBz, hb2⟩
        case measure => omega
    · obtain rfl : k = L.length := by omega
      have hge : ¬ ((L.length : Int) < L.length) := by omega
      rw [HE.out] at hBm
      obtain ⟨m0, m1, m2⟩ := Cells3.blk hBm.out
      have HP : Hid (∀ W e, e = .returned (flV (minL L)) → Below w.heap.size w W → MinPost (minL L) w e W) := Lib.hid fun W e h1 h2 => ⟨h1, h2⟩
      unfold flV at HP
      generalize minL L = m at *
      have r0 : wr.cell? ⟨w.heap.size, 0, none⟩ = some (.int .u64 0) := hBz.out.cell 0
      have r1 : wr.cell? ⟨w.heap.size, 1, none⟩ = some (.string ⟨#[]⟩) := hBz.out.cell 1
      have r2 : wr.cell? ⟨w.heap.size, 2, none⟩ = some (.int .i64 0) := hBz.out.cell 2
      have f0 := hBz.out.frozen 0
      have f1 := hBz.out.frozen 1
      have f2 := hBz.out.frozen 2
      have HBf := Lib.hid (((hBz.out.set_ 0 (.int .u64 (m.key : Int))).set_ 1 (.string m.host)).set_ 2 (.int .i64 m.til))
      have hb3 := ((hb.setCell (p := ⟨w.heap.size, 0, none⟩) (by simp) (.int .u64 (m.key : Int))).setCell (p := ⟨w.heap.size, 1, none⟩) (by simp) (.string m.host)).setCell (p := ⟨w.heap.size, 2, none⟩) (by simp) (.int .i64 m.til)
      clear hBm hBz
      go_wp2
      refine bodyPost_ret (results_cell_row (P := Tryz.prog) rfl _ _ w.heap.size _ _ (0, 0) _ rfl HBf.out Tryz.underlying80 rfl (by kernel_rfl)) rfl ?_
      exact HP.out _ _ rfl hb3
set_option maxRecDepth 100000 in
set_option maxHeartbeats 2000000 in
theorem room_keep {fp mb time last : Nat} {L : List Fl} (k : Nat) (w : World) (h : FlowsR w fp mb time last L) (hU : U64 k) (hk : (findF L k).isSome = true ∨ L.length < 200) :
    Calls Tryz.prog 35 #[.pointer (some ⟨fp, 0, none⟩), .int .u64 (k : Int)] w fun e w' => e = .returned (.tuple #[]) ∧ Below w.heap.size w w' := by
  have c2 := h.c2
  have hlt := h.blk.lt
  have hM := h.map
  have hw : ((findF L k).isSome = true) ∨ ((findF L k).isSome = false ∧ decide ((L.length : Int) < 200) = true) := by
    cases hs : (findF L k).isSome with
    | true => exact .inl rfl
    | false =>
      rw [hs] at hk
      simp at hk
      exact .inr ⟨rfl, by simp; omega⟩
  have HL : Hid (∀ o, FlMap (w.alloc o) mb L) := Lib.hid fun o => hM.below ((Below.refl _ _).alloc (Nat.le_refl _) o)
  obtain ⟨y, hy⟩ : ∃ y, (findF L k).getD flZ = y := ⟨_, rfl⟩
  obtain ⟨bs, hbs⟩ : ∃ y, (findF L k).isSome = y := ⟨_, rfl⟩
  rw [hbs] at hw
  have HY := Lib.hid hy
  have HS := Lib.hid hbs
  clear h hk hy hbs
  rcases hw with rfl | ⟨rfl, t1⟩
  · go_enter Tryz.func35, Tryz.ntmps35
    go_wp2_with (first
      | (at_lookup; refine wp_fl_look rfl _ _ rfl rfl hM k rfl hU y HY.out true HS.out ?_)
      | fail)
    refine bodyPost_ret (results_none rfl _ _ _) rfl ?_
    exact ⟨rfl, (Below.refl _ _).alloc (Nat.le_refl _) _⟩
  · go_enter Tryz.func35, Tryz.ntmps35
    go_wp2_with (first
      | (at_lookup; refine wp_fl_look rfl _ _ rfl rfl hM k rfl hU y HY.out false HS.out ?_)
      | (at_len; go_must (refine wp_fl_lenG rfl _ rfl rfl (HL.out _) ?_))
      | fail)
    refine bodyPost_ret (results_none rfl _ _ _) rfl ?_
    exact ⟨rfl, (Below.refl _ _).alloc (Nat.le_refl _) _⟩
def RoomPost (fp mb time last : Nat) (L' : List Fl) (w : World) (e : Ending) (w' : World) : Prop := e = .returned (.tuple #[]) ∧ FlowsR w' fp mb time last L' ∧ Turn [mb] w w'
set_option maxRecDepth 100000 in
set_option maxHeartbeats 2000000 in
theorem room_drop {fp mb time last : Nat} {L : List Fl} (k : Nat) (w : World) (h : FlowsR w fp mb time last L) (hU : U64 k) (hk : findF L k = none) (hl : 200 ≤ L.length) :
    Calls Tryz.prog 35 #[.pointer (some ⟨fp, 0, none⟩), .int .u64 (k : Int)] w (RoomPost fp mb time last (delF (minL L).key L) w) := by
  have c2 := h.c2
  have hlt := h.blk.lt
  have hM := h.map
  have hl200 := h.len
  have t1 : decide ((L.length : Int) < 200) = false := by simp; omega
  have h0 : L ≠ [] := fun e => by rw [e] at hl; simp at hl
  have hl1 : 0 < L.length := by omega
  have hUm : U64 (minL L).key := hM.u64 _ (minL_mem h0)
  have HL : Hid (∀ o, FlMap (w.alloc o) mb L) := Lib.hid fun o => hM.below ((Below.refl _ _).alloc (Nat.le_refl _) o)
  have HLI : Hid (∀ W, Below w.heap.size w W → Calls Tryz.prog 21 #[.pointer (some ⟨fp, 0, none⟩)] W (FlsPost L W)) := Lib.hid fun W hW => list_any W (h.below hW)
  have HMI : Hid (∀ g cap B W, W.ownsRow B 80 3 (.slice (some ⟨g, 0, none⟩) L.length cap) L.length (flsC L) → Calls Tryz.prog 52 #[.slice (some ⟨g, 0, none⟩) L.length cap, .func (.func 53) #[] #[]] W (MinPost (minL L) W)) := Lib.hid fun g cap B W ho => minFlows_any g cap B L W ho (by omega) (by omega)
  have HF : Hid (∀ W, Below w.heap.size w W → ∃ W2, (Builtin.delete_ #[76, 32] 0 #[.map (some mb), .int .u64 ((minL L).key : Int)]).run Tryz.prog W = .ok (.tuple #[]) W2 ∧ FlMap W2 mb (delF (minL L).key L) ∧ W.grownBy W2 (some mb)) := Lib.hid fun W hW => (hM.below hW).del hUm _
  have HY : Hid ((findF L k).getD flZ = flZ) := Lib.hid (by rw [hk]; rfl)
  have HS : Hid ((findF L k).isSome = false) := Lib.hid (by rw [hk]; rfl)
  have HR : Hid (∀ W W2, Below w.heap.size w W → FlMap W2 mb (delF (minL L).key L) → W.grownBy W2 (some mb) → FlowsR W2 fp mb time last (delF (minL L).key L) ∧ Turn [mb] w W2) := Lib.hid fun W W2 hW h2 hg => by
    have ht : Turn [mb] w W2 := (Turn.of_below hW).then (Turn.of_grown hg fun g e => by cases e; simp)
    exact ⟨⟨ht.blk h.blk (by simpa using h.ne), h2, Nat.le_trans (List.length_filter_le _ _) h.len, h.time, h.last⟩, ht⟩
  unfold MinPost flV at HMI
  unfold FlsPost at HLI
  clear h hk hl
  generalize minL L = m at *
  go_enter Tryz.func35, Tryz.ntmps35
  go_wp2_with (first
    | (at_lookup; refine wp_fl_look rfl _ _ rfl rfl hM k rfl hU flZ HY.out false HS.out ?_)
    | (at_len; go_must (refine wp_fl_lenG rfl _ rfl rfl (HL.out _) ?_))
    | fail)
  have hb1 : Below w.heap.size w (w.alloc (.cells #[.int .u64 (flZ.key : Int), .string flZ.host, .int .i64 flZ.til] 80)) := (Below.refl _ _).alloc (Nat.le_refl _) _
  refine (HLI.out _ hb1).mono ?_
  rintro e w2 ⟨v, rfl, ho, hb2⟩
  have hb12 := below_two hb1 hb2
  obtain ⟨g, cap, hv, _, _⟩ := ho.form hl1
  subst hv
  have HMi := Lib.hid (HMI.out g cap _ w2 ho)
  clear ho
  go_wp2_with fail
  refine HMi.out.mono ?_
  rintro e w3 ⟨rfl, hb3⟩
  have hb13 := below_two hb12 hb3
  have hc3 : (w3.alloc (.cells #[.int .u64 (m.key : Int), .string m.host, .int .i64 m.til] 80)).cell? ⟨fp, 2, none⟩ = some (.map (some mb)) := ((hb13.alloc hb13.size _).cell (p := ⟨fp, 2, none⟩) hlt).trans c2
  have hb4 := bl_drew (hb13.alloc hb13.size (.cells #[.int .u64 (m.key : Int), .string m.host, .int .i64 m.til] 80))
  have HM4 := Lib.hid (HF.out _ hb4)
  have HM5 : Hid (FlMap ((w3.alloc (.cells #[.int .u64 (m.key : Int), .string m.host, .int .i64 m.til] 80)).drew) mb L) := Lib.hid (hM.below hb4)
  have HB4 := Lib.hid hb4
  clear hb4 hb1 hb2 hb3 hb12
  go_wp2_with fail
  go_region_law ((refine step_fl_del rfl _ _ rfl (by simp [Act.eval]) HM5.out m.key (by simp [Act.eval]) hUm ?_
                  intro w5 hM6 hg6))
  all_goals
    obtain ⟨hR6, hT6⟩ := HR.out _ _ HB4.out hM6 hg6
    clear hM6 hg6
    go_wp2
    go_end0
    exact ⟨rfl, hR6, hT6⟩
def roomE (fp mb time last : Nat) (L : List Fl) (k : Nat) (w : World) (e : Ending) (w' : World) : Prop := e = .returned (.tuple #[]) ∧ FlowsR w' fp mb time last (roomF L k) ∧ Turn [mb] w w'
theorem room_any {fp mb time last : Nat} {L : List Fl} (k : Nat) (w : World) (h : FlowsR w fp mb time last L) (hU : U64 k) : Calls Tryz.prog 35 #[.pointer (some ⟨fp, 0, none⟩), .int .u64 (k : Int)] w (roomE fp mb time last L k w) := by
  by_cases hk : (findF L k).isSome = true ∨ L.length < 200
  · refine (room_keep k w h hU hk).mono fun e w' ⟨h1, h2⟩ => ⟨h1, ?_, Turn.of_below h2⟩
    rw [roomF, if_pos hk]
    exact h.below h2
  · simp only [not_or, Bool.not_eq_true, Option.isSome_eq_false_iff, Option.isNone_iff_eq_none] at hk
    have h2 := room_drop k w h hU hk.1 (by omega)
    refine h2.mono fun e w' ⟨h1, h3, h4⟩ => ⟨h1, ?_, h4⟩
    rw [roomF, if_neg (by rw [hk.1]; simp; omega)]
    exact h3
theorem roomF_rise {L : List Fl} (h : Rise L) (k : Nat) : Rise (roomF L k) := by
  unfold roomF
  split
  · exact h
  · exact h.del _
theorem putF_len {L : List Fl} (h : Rise L) (hl : L.length ≤ 200) (x : Fl) : (putF L x).length ≤ 200 := by
  unfold putF
  rw [insF_length]
  cases hf : findF L x.key with
  | some y =>
    have e : roomF L x.key = L := by unfold roomF; rw [if_pos (.inl (by rw [hf]; rfl))]
    have := delF_length h (findF_some hf).1
    rw [(findF_some hf).2] at this
    rw [e]; omega
  | none =>
    by_cases hlt : L.length < 200
    · have e : roomF L x.key = L := by unfold roomF; rw [if_pos (.inr hlt)]
      have := List.length_filter_le (fun y => !decide (y.key = x.key)) L
      rw [e]
      show (List.filter (fun y => !decide (y.key = x.key)) L).length + 1 ≤ 200
      omega
    · have e : roomF L x.key = delF (minL L).key L := by unfold roomF; rw [if_neg (by rw [hf]; simp; omega)]
      have h0 : L ≠ [] := fun e => by rw [e] at hlt; simp at hlt
      have h1 := delF_length h (minL_mem h0)
      have := List.length_filter_le (fun y => !decide (y.key = x.key)) (delF (minL L).key L)
      rw [e]
      show (List.filter (fun y => !decide (y.key = x.key)) (delF (minL L).key L)).length + 1 ≤ 200
      omega
/-! Put. -/
theorem fl_name (s : ByteArray) (hs : s.size ≤ maxLen) (b : Bool) (hb : isName s = b) (w : World) : Calls Tryz.prog 34 #[.string s] w fun e w' => e = .returned (.bool b) ∧ Below w.heap.size w w' := by
  subst hb
  exact name_any s w hs
def PutErr (ea : Nat → Addr) (c : Nat) (w : World) (e : Ending) (w' : World) : Prop := e = .returned (errB ea c) ∧ Below w.heap.size w w'
def PutOk (fp mb time now : Nat) (L' : List Fl) (w : World) (e : Ending) (w' : World) : Prop := e = .returned .nilIface ∧ FlowsR w' fp mb time now L' ∧ Turn [fp, mb] w w'
set_option maxRecDepth 100000 in
set_option maxHeartbeats 2000000 in
theorem put_name (ea : Nat → Addr) {fp mb time last : Nat} {L : List Fl} (k : Nat) (s : ByteArray) (now : Int) (w : World) (hE : ErrsF ea w) (h : FlowsR w fp mb time last L) (hs : s.size ≤ maxLen) (hn : isName s = false) :
    Calls Tryz.prog 18 #[.pointer (some ⟨fp, 0, none⟩), .int .u64 (k : Int), .string s, .int .i64 now] w (PutErr ea (if tickE last now = 0 then 4 else tickE last now) w) := by
  have HN := Lib.hid (fl_name s hs _ hn w)
  have HE := Lib.hid hE
  have HC1 : Hid (∀ W, Below w.heap.size w W → W.cell? ⟨fp, 1, none⟩ = some (.int .i64 (last : Int))) := Lib.hid fun W hW => (h.below hW).c1
  have hw : (tickE last now = 2 ∧ decide (now < 0) = true) ∨ (tickE last now = 2 ∧ decide (now < 0) = false ∧ decide (now > 1099511627776) = true) ∨ (tickE last now = 8 ∧ decide (now < 0) = false ∧ decide (now > 1099511627776) = false ∧ decide (now < (last : Int)) = true) ∨ (tickE last now = 0 ∧ decide (now < 0) = false ∧ decide (now > 1099511627776) = false ∧ decide (now < (last : Int)) = false) := by
    unfold tickE
    simp only [decide_eq_true_eq, decide_eq_false_iff_not]
    by_cases h1 : now < 0 ∨ 1099511627776 < now
    · rw [if_pos h1]; omega
    · rw [if_neg h1]
      by_cases h2 : now < last
      · rw [if_pos h2]; omega
      · rw [if_neg h2]; omega
  generalize tickE last now = te at *
  clear hE h hn hs
  rcases hw with ⟨rfl, t1⟩ | ⟨rfl, t1, t2⟩ | ⟨rfl, t1, t2, t3⟩ | ⟨rfl, t1, t2, t3⟩
  all_goals
    go_enter Tryz.func18, Tryz.ntmps18
    go_wp2_with fail
    refine HN.out.mono ?_
    rintro e w1 ⟨rfl, hb1⟩
    have e2 := (HE.out.below hb1).c2
    have e4 := (HE.out.below hb1).c4
    have e8 := (HE.out.below hb1).c8
    dsimp only [gv] at e2 e4 e8
    have c1 := HC1.out _ hb1
    go_wp2
    go_ret
    exact ⟨rfl, hb1⟩
set_option maxRecDepth 100000 in
set_option maxHeartbeats 2000000 in
theorem put_tick (ea : Nat → Addr) {fp mb time last : Nat} {L : List Fl} (k : Nat) (s : ByteArray) (now : Int) (w : World) (hE : ErrsF ea w) (h : FlowsR w fp mb time last L) (hs : s.size ≤ maxLen) (hn : isName s = true) (ht : tickE last now ≠ 0) :
    Calls Tryz.prog 18 #[.pointer (some ⟨fp, 0, none⟩), .int .u64 (k : Int), .string s, .int .i64 now] w (PutErr ea (tickE last now) w) := by
  have HN := Lib.hid (fl_name s hs _ hn w)
  have HT : Hid (∀ W, Below w.heap.size w W → Calls Tryz.prog 29 #[.pointer (some ⟨fp, 0, none⟩), .int .i64 now] W fun e w' => e = .returned (errB ea (tickE last now)) ∧ W = w') := Lib.hid fun W hW => tick_bad ea now W (hE.below hW) (h.below hW) ht
  unfold errB at HT
  generalize tickE last now = te at *
  clear hE h hn hs ht
  go_enter Tryz.func18, Tryz.ntmps18
  go_wp2_with fail
  refine HN.out.mono ?_
  rintro e w1 ⟨rfl, hb1⟩
  go_wp2_with fail
  refine (HT.out _ hb1).mono ?_
  rintro e w2 ⟨rfl, rfl⟩
  go_wp2
  go_ret
  exact ⟨rfl, hb1⟩
set_option maxRecDepth 100000 in
set_option maxHeartbeats 2000000 in
theorem put_ok {fp mb time last : Nat} {L : List Fl} (k : Nat) (s : ByteArray) (now : Nat) (w : World) (h : FlowsR w fp mb time last L) (hU : U64 k) (hs : s.size ≤ maxLen) (hn : isName s = true) (h1 : last ≤ now) (h2 : now ≤ 1099511627776) :
    Calls Tryz.prog 18 #[.pointer (some ⟨fp, 0, none⟩), .int .u64 (k : Int), .string s, .int .i64 (now : Int)] w (PutOk fp mb time now (putF L ⟨k, s, (now : Int) + time⟩) w) := by
  have HN := Lib.hid (fl_name s hs _ hn w)
  have HT : Hid (∀ W, Below w.heap.size w W → Calls Tryz.prog 29 #[.pointer (some ⟨fp, 0, none⟩), .int .i64 (now : Int)] W fun e w' => e = .returned .nilIface ∧ FlowsR w' fp mb time now L ∧ Turn [fp] W w') := Lib.hid fun W hW => tick_ok now W (h.below hW) h1 h2
  have htm := h.time
  have hlen := putF_len h.map.rise h.len ⟨k, s, (now : Int) + time⟩
  clear h hn hs
  go_enter Tryz.func18, Tryz.ntmps18
  go_wp2_with fail
  refine HN.out.mono ?_
  rintro e w1 ⟨rfl, hb1⟩
  go_wp2_with fail
  refine (HT.out _ hb1).mono ?_
  rintro e w2 ⟨rfl, hF2, ht2⟩
  have HT2 := Lib.hid ((Turn.of_below hb1).then ht2 : Turn [fp] w w2)
  have HRm := Lib.hid (room_any k w2 hF2 hU)
  unfold roomE at HRm
  clear ht2 hF2
  go_wp2_with fail
  refine HRm.out.mono ?_
  rintro e w3 ⟨rfl, hF3, ht3⟩
  have HT3 := Lib.hid ((HT2.out.more (cs := [fp, mb]) (by simp)).then (ht3.more (by simp)) : Turn [fp, mb] w w3)
  have c0 := hF3.c0
  have c2 := hF3.c2
  have hin : IntKind.i64.wrap ((now : Int) + (time : Int)) = (now : Int) + time := IntWalk.i64_in _ (by omega)
  have hl3 := hF3.len
  have hM3 : FlMap w3.drew mb (roomF L k) := hF3.map.below (bl_drew (Below.refl _ _))
  obtain ⟨w4, hrun, hM4, hg4⟩ := hM3.put ⟨k, s, (now : Int) + time⟩ hU (by omega)
  unfold flV at hrun
  dsimp only at hrun
  have HM4 := Lib.hid hM4
  have HG4 := Lib.hid hg4
  have HF3 := Lib.hid hF3
  clear hM4 hg4 hF3 hM3 ht3
  go_wp2_with fail
  go_region
  have hT4 : Turn [fp, mb] w w4 := HT3.out.then (Turn.undrew (Turn.of_grown HG4.out fun g e => by cases e; simp))
  have hB4 := HF3.out.blk.drew.grown HG4.out (by simpa using HF3.out.ne)
  have HFin := Lib.hid (⟨hB4, HM4.out, hlen, htm, h2⟩ : FlowsR w4 fp mb time now (putF L ⟨k, s, (now : Int) + time⟩))
  clear hB4
  go_wp2
  go_ret
  exact ⟨rfl, HFin.out, hT4⟩
end Go.Proofs.YtnmkdmehljkedaaGreatDoor
