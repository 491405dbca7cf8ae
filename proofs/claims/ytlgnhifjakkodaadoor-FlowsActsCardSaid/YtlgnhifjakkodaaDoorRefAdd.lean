/-
  The walk of the reference's Add.
-/
import Derived.Test.YtlgnhifjakkodaaDoorRefGet
import Derived.Test.YtlgnhifjakkodaaDoorFlowAddP
import Derived.Test.YtlgnhifjakkodaaDoorBare
namespace Go.Proofs.YtlgnhifjakkodaaDoor
open Go.RowKit

theorem results_tmp_cell {P : Program} {fn : Func} {q p : Tmp} {ty : TypeId} (h : fn.results = #[.tmp q, .cell p ty]) (tmps : Array Value) (w : World) (g : Nat) (t : TypeId) (cs : Array Value) (fr : Nat × Nat) (d : TypeDesc)
    (hp : tmps.getD p undef = .pointer (some ⟨g, 0, none⟩)) (hg : w.heap[g]? = some (.cells cs t fr))
    (hu : P.underlying ty = some d) (hd : (match d with | .struct _ | .array _ _ => true | _ => false) = true) (hi : (P.info? ty).map (·.size) = some cs.size) :
    (results fn tmps).run P w = .ok (.tuple #[tmps.getD q undef, .agg cs]) w := by
  have hp' : tmps[p]?.getD undef = .pointer (some ⟨g, 0, none⟩) := by simpa using hp
  simp [results, h, hp', asAddr, run_loadVar_row w g t ty cs fr d hg hu hd hi]
theorem add_zero_ (g j : Nat) : (⟨g, 0, none⟩ : Addr).add j = ⟨g, j, none⟩ := by
  by_cases h : j = 0
  · subst h; rfl
  · simp [Addr.add, h]
theorem cells3_reads {w : World} {g B k : Nat} {L : List Fl} (h : Reads w B 3 (some ⟨g, 0, none⟩) L.length (flsC L)) (hk : k < L.length) : Cells3 w g (k * 3) L[k] := by
  obtain ⟨ad, hA, _, hc⟩ := h.2 (by omega)
  cases hA
  obtain ⟨h0, h1, h2⟩ := flsC_get hk
  have e0 := hc _ _ h0
  have e1 := hc _ _ h1
  have e2 := hc _ _ h2
  rw [add_zero_] at e0 e1 e2
  exact ⟨e0, e1, e2⟩
/-- The cells of a flow in a list that lies anywhere. -/
theorem cellsA {w : World} {A : Option Addr} {B k : Nat} {L : List Fl} (h : Reads w B 3 A L.length (flsC L)) (hk : k < L.length) : ∃ ad, A = some ad ∧ w.cell? (ad.add (k * 3)) = some (.int .u64 (L[k].key : Int)) ∧ w.cell? ⟨(ad.add (k * 3)).block, (ad.add (k * 3)).off + 1, none⟩ = some (.string L[k].host) ∧ w.cell? ⟨(ad.add (k * 3)).block, (ad.add (k * 3)).off + 2, none⟩ = some (.int .i64 L[k].til) := by
  obtain ⟨ad, rfl, _, hc⟩ := h.2 (by omega)
  obtain ⟨h0, h1, h2⟩ := flsC_get hk
  have e : ∀ i, 0 < i → ad.add (k * 3 + i) = ⟨(ad.add (k * 3)).block, (ad.add (k * 3)).off + i, none⟩ := fun i hi => by
    rw [← add_of_add]
    conv => lhs; unfold Addr.add
    rw [if_neg (by omega)]
    rfl
  refine ⟨ad, rfl, hc _ _ h0, ?_, ?_⟩
  · rw [← e 1 (by omega)]; exact hc _ _ h1
  · rw [← e 2 (by omega)]; exact hc _ _ h2
def AddErr (c : Nat) (i : Int) (w : World) (e : Ending) (w' : World) : Prop := e = .returned (.tuple #[.int .i64 0, .agg #[.int .i64 (c : Int), .int .i64 i]]) ∧ Below w.heap.size w w'
set_option maxRecDepth 100000 in
set_option maxHeartbeats 2000000 in
theorem ref_add_tick {B mp time last : Nat} {L : List Fl} {sv : Value} (av : Value) (now : Int) (w : World) (h : RFs w B mp time last L sv) (ht : tickE last now ≠ 0) :
    Calls Tryd.prog 20 #[.pointer (some ⟨mp, 0, none⟩), av, .int .i64 now] w (AddErr (tickE last now) (-1) w) := by
  have hb0 : Below w.heap.size w (w.alloc (.cells #[.int .i64 0, .int .i64 0] 57)) := (Below.refl _ _).alloc (Nat.le_refl _) _
  have HT := Lib.hid (ref_tick now _ (h.below hb0))
  have HB0 := Lib.hid (Blk.new w 57 #[.int .i64 0, .int .i64 0])
  have HC := Lib.hid (bare_any (tickE last now : Int))
  generalize tickE last now = te at *
  have q1 : 0 < te := by omega
  clear h ht
  go_enter Tryd.func20, Tryd.ntmps20
  go_wp2_with fail
  generalize hW0 : w.alloc (.cells #[.int .i64 0, .int .i64 0] 57) = W0 at *
  refine HT.out.mono ?_
  rintro e w1 ⟨rfl, rfl⟩
  go_wp2_with fail
  refine (HC.out W0).mono ?_
  rintro e w2 ⟨rfl, hb2⟩
  have hB2 := HB0.out.below hb2 HB0.out.lt
  have hbw := hb0.trans (hb2.mono hb0.size)
  have r0 : w2.cell? ⟨w.heap.size, 0, none⟩ = some (.int .i64 0) := hB2.cell 0
  have r1 : w2.cell? ⟨w.heap.size, 1, none⟩ = some (.int .i64 0) := hB2.cell 1
  have f0 := hB2.frozen 0
  have f1 := hB2.frozen 1
  have HBf := Lib.hid ((hB2.set_ 0 (.int .i64 (te : Int))).set_ 1 (.int .i64 (-1)))
  have hb3 := (hbw.setCell (p := ⟨w.heap.size, 0, none⟩) (by simp) (.int .i64 (te : Int))).setCell (p := ⟨w.heap.size, 1, none⟩) (by simp) (.int .i64 (-1))
  clear hB2 hb2 hbw
  go_wp2
  refine bodyPost_ret (results_tmp_cell (P := Tryd.prog) rfl _ _ w.heap.size _ _ (0, 0) _ rfl HBf.out Tryd.underlying57 rfl (by kernel_rfl)) rfl ?_
  exact ⟨rfl, hb3⟩
set_option maxRecDepth 100000 in
set_option maxHeartbeats 4000000 in
theorem ref_add_name {B Bx mp time last i0 : Nat} {L xs : List Fl} {sv : Value} {A : Option Addr} {cap : Nat} (now : Int) (w : World) (h : RFs w B mp time last L sv) (hx : Reads w Bx 3 A xs.length (flsC xs)) (hBx : Bx ≤ w.heap.size) (hxl : xs.length ≤ 1000) (hs : ∀ x ∈ xs, x.host.size ≤ maxLen) (ht : tickE last now = 0) (hbad : badAt xs = some i0) :
    Calls Tryd.prog 20 #[.pointer (some ⟨mp, 0, none⟩), .slice A xs.length cap, .int .i64 now] w (AddErr 4 (i0 : Int) w) := by
  have hb0 : Below w.heap.size w (w.alloc (.cells #[.int .i64 0, .int .i64 0] 57)) := (Below.refl _ _).alloc (Nat.le_refl _) _
  have HT := Lib.hid (ref_tick now _ (h.below hb0))
  rw [ht] at HT
  have hB0 := Blk.new w 57 #[.int .i64 0, .int .i64 0]
  have r0 : (w.alloc (.cells #[.int .i64 0, .int .i64 0] 57)).cell? ⟨w.heap.size, 0, none⟩ = some (.int .i64 0) := hB0.cell 0
  have r1 : (w.alloc (.cells #[.int .i64 0, .int .i64 0] 57)).cell? ⟨w.heap.size, 1, none⟩ = some (.int .i64 0) := hB0.cell 1
  have f0 := hB0.frozen 0
  have f1 := hB0.frozen 1
  have HBf := Lib.hid (fun c i => (hB0.set_ 0 (.int .i64 c)).set_ 1 (.int .i64 i))
  have HB3 := Lib.hid (fun c i => (hb0.setCell (p := ⟨w.heap.size, 0, none⟩) (by simp) (.int .i64 c)).setCell (p := ⟨w.heap.size, 1, none⟩) (by simp) (.int .i64 i))
  have HX := Lib.hid (hx.below (hb0.mono hBx))
  have HS := Lib.hid hs
  have hbad' := hbad
  unfold badAt at hbad'
  rw [List.findIdx?_eq_some_iff_getElem] at hbad'
  obtain ⟨hi0, hn0, hall0⟩ := hbad'
  have HN0 : Hid (isName xs[i0].host = false) := Lib.hid (by simpa using hn0)
  have HALL : Hid (∀ j (hj : j < i0), isName (xs[j]'(by omega)).host = true) := Lib.hid fun j hj => by simpa using hall0 j hj
  clear h ht hbad hb0 hB0 hx hs hn0 hall0
  go_enter Tryd.func20, Tryd.ntmps20
  go_wp2_with fail
  generalize hW0 : w.alloc (.cells #[.int .i64 0, .int .i64 0] 57) = W0 at *
  refine HT.out.mono ?_
  rintro e w1 ⟨rfl, rfl⟩
  clear hW0 HT
  go_wp2_with fail
  go_loop [9, 10] (fun iv bv => ∃ i : Nat, i ≤ i0 ∧ iv = .int .i64 (i : Int)) (fun iv _ => i0 + 1 - (intOf iv).toNat)
  case atStart => exact ⟨0, Nat.zero_le _, rfl⟩
  case round =>
    obtain ⟨i, hi, rfl⟩ := hrel
    have hil : i < xs.length := by omega
    have hil2 : (i : Int) < xs.length := by omega
    obtain ⟨ad, rfl, a0, a1, a2⟩ := cellsA HX.out hil
    clear a0 a2
    have hsz := HS.out xs[i] (List.getElem_mem _)
    by_cases he : i = i0
    · subst he
      have HNM := Lib.hid (ref_name xs[i].host _ W0 hsz HN0.out)
      clear hsz
      generalize xs[i].host = hh at *
      go_wp2_with fail
      refine HNM.out.mono ?_
      rintro e w2 ⟨rfl, rfl⟩
      go_wp2
      refine bodyPost_ret (results_tmp_cell (P := Tryd.prog) rfl _ _ w.heap.size _ _ (0, 0) _ rfl (HBf.out _ _) Tryd.underlying57 rfl (by kernel_rfl)) rfl ?_
      exact ⟨rfl, HB3.out _ _⟩
    · have HNM := Lib.hid (ref_name xs[i].host _ W0 hsz (HALL.out i (by omega)))
      clear hsz
      generalize xs[i].host = hh at *
      go_wp2_with fail
      refine HNM.out.mono ?_
      rintro e w2 ⟨rfl, rfl⟩
      go_wp2
      go_round
      case rel => exact ⟨i + 1, by omega, by go_num⟩
      case measure => simp [intOf]; omega
end Go.Proofs.YtlgnhifjakkodaaDoor
