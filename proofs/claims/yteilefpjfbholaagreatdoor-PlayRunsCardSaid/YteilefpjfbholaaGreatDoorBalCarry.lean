/-
  A balance's Export.
  A row of flows that is written in place.
  slices.DeleteFunc at flows with Import's closure: those whose host is not up go.
  A balance's Import.
  Two balances in a law's walk.
  What is added to nothing, in plain words.
-/
import Derived.Test.YteilefpjfbholaaGreatDoorBalNow
import Derived.Test.YteilefpjfbholaaGreatDoorCarText
import Derived.Test.YteilefpjfbholaaGreatDoorFlows
import Derived.Test.YteilefpjfbholaaGreatDoorFlowPlain
import Derived.Test.YteilefpjfbholaaGreatDoorTexts
import Derived.Test.YteilefpjfbholaaGreatDoorTurn
import Derived.Lib.SliceRun
import Derived.Laws.IdiomCopy
import Derived.Test.YteilefpjfbholaaGreatDoorPick
import Derived.Test.YteilefpjfbholaaGreatDoorHealthOps
import Derived.Test.YteilefpjfbholaaGreatDoorCarReads
import Derived.Test.YteilefpjfbholaaGreatDoorAddOk
import Derived.Test.YteilefpjfbholaaGreatDoorCarLaws
namespace Go.Proofs.YteilefpjfbholaaGreatDoor
open Go.RowKit

section
variable {w w' W : World} {lo hi : Nat} {p : BPl} {c : BCfg} {s : BS} {ea : Nat → Addr}
/-- The epoch turns. -/
theorem BalAt.turnE (h : BalAt w lo p c s) (e : Nat) : BalAt (w.setCell ⟨p.bp, 5, none⟩ (.int .i64 (e : Int))) lo p c { s with epoch := e } ∧ Turn [p.bp] w (w.setCell ⟨p.bp, 5, none⟩ (.int .i64 (e : Int))) := by
  have ht : Turn [p.bp] w (w.setCell ⟨p.bp, 5, none⟩ (.int .i64 (e : Int))) := (Turn.refl _ w).setCell (p := ⟨p.bp, 5, none⟩) (.inl (by simp)) _
  obtain ⟨es, cl, hm⟩ := h.f.map.heap
  obtain ⟨es2, cl2, hd⟩ := h.d.heap
  have n1 := h.h.blk.ne_ h.blk (by decide)
  have n2 := h.f.blk.ne_ h.blk (by decide)
  have n3 := fun e => blk_not_map hm h.blk (Eq.symm e)
  have n4 := fun e => blk_not_map hd h.blk (Eq.symm e)
  refine ⟨⟨h.blk.set_ 5 _, ht.own h.row fun g hg => ?_, h.h.turn ht (by simpa using n1) (fun q hq => ?_) (fun g hg => ?_), h.f.turn ht (by simpa using n2) (by simpa using n3), h.d.turn ht (by simpa using n4), h.ne, h.same, h.lk, h.ab⟩, ht⟩
  · simp only [List.mem_singleton]
    rintro rfl
    exact own_blk_ne h.row h.blk (by decide) hg
  · obtain ⟨x, hx⟩ := h.pbs hq
    simpa using hx.ne_ h.blk (by decide)
  · simp only [List.mem_singleton]
    rintro rfl
    exact own_blk_ne h.h.own h.blk (by decide) hg
theorem BPl.be (p : BPl) : ∀ b ∈ [p.bp], b ∈ p.bs := by
  intro b hb
  rw [List.mem_singleton] at hb
  subst hb
  simp [BPl.bs]
def ExpAs (t : List UInt8) (ea : Nat → Addr) (w : World) (lo hi : Nat) (p : BPl) (c : BCfg) (s' : BS) (W : World) (e : Ending) (w' : World) : Prop :=
  e = .returned (.tuple #[.string ⟨t.toArray⟩, .nilIface]) ∧ BNow ea w w' lo hi p c s' ∧ Turn [p.bp] W w'
theorem hosts_small (hO : BOk c) : ∀ x ∈ c.hosts, x.size ≤ maxLen := (hosts_fit hO.hf).2
set_option maxRecDepth 100000 in
set_option maxHeartbeats 2000000 in
theorem bn_export (h : BNow ea w W lo hi p c s) (hW : CarW w) (hK : ErrsK ea w) (hz : ∀ x ∈ s.fs.2, x.host.size ≤ maxLen) (he : s.epoch ≤ 1000000) (hc : checkOf ((s.epoch : Int) + 1) s.fs.2 = none) :
    Calls Tryz.prog 13 #[.pointer (some ⟨p.bp, 0, none⟩)] W (ExpAs (textOf ((s.epoch : Int) + 1) s.fs.2) ea w lo hi p c { s with epoch := s.epoch + 1 } W) := by
  have HKC : Hid (∀ W', Below W.heap.size W W' → W'.cell? ⟨p.bp, 5, none⟩ = some (.int .i64 (s.epoch : Int)) ∧ W'.cell? ⟨p.bp, 3, none⟩ = some (.pointer (some ⟨p.fp, 0, none⟩))) := Lib.hid fun W' hb => ⟨(h.below hb).b.blk.cell 5, (h.below hb).b.blk.cell 3⟩
  obtain ⟨c5, c3⟩ := HKC.out W (Below.refl _ _)
  have HL := Lib.hid (fun W' (hb : Below W.heap.size W W') => list_any W' (h.below hb).b.f)
  have HT : Hid (∀ W' A cap, Below W.heap.size W W' → Reads W' W'.heap.size 3 A s.fs.2.length (flsC s.fs.2) → Calls Tryz.prog 48 #[.int .i64 ((s.epoch : Int) + 1), .slice A s.fs.2.length cap] W' fun e w' => e = .returned (.tuple #[.string ⟨(textOf ((s.epoch : Int) + 1) s.fs.2).toArray⟩, .nilIface]) ∧ Below W'.heap.size W' w') := Lib.hid fun W' A cap hb hr => by
    have := text_any ea ((s.epoch : Int) + 1) A cap W'.heap.size s.fs.2 W' (hW.below (below_two h.w hb)) (hK.below (below_two h.w hb)) hr (Nat.le_refl _) hz (fun x hx => h.b.f.map.u64 x hx)
    unfold TxPost at this
    rw [hc] at this
    exact this
  have HE : Hid (∀ W', Below W.heap.size W W' → (BNow ea w (W'.setCell ⟨p.bp, 5, none⟩ (.int .i64 ((s.epoch : Int) + 1))) lo hi p c { s with epoch := s.epoch + 1 } ∧ Turn [p.bp] W (W'.setCell ⟨p.bp, 5, none⟩ (.int .i64 ((s.epoch : Int) + 1)))) ∧ W'.cell? ⟨p.bp, 5, none⟩ = some (.int .i64 (s.epoch : Int)) ∧ W'.frozen? ⟨p.bp, 5, none⟩ = false) := Lib.hid fun W' hb => by
    have hB := h.below hb
    obtain ⟨t1, t2⟩ := hB.b.turnE (s.epoch + 1)
    rw [Int.natCast_add, Int.natCast_one] at t1 t2
    exact ⟨⟨hB.turn t1 t2 p.be, (Turn.of_below hb : Turn [p.bp] W W').then t2⟩, hB.b.blk.cell 5, hB.b.blk.frozen 5⟩
  have he2 : (s.epoch : Int) ≤ 1000000 := by omega
  have hRef := Below.refl W.heap.size W
  unfold FlsPost at HL
  have hws : IntKind.i64.wrap ((s.epoch : Int) + 1) = (s.epoch : Int) + 1 := IntWalk.i64_in _ (by omega)
  clear h hW hK hz hc he
  generalize s.epoch = ep at *
  generalize textOf ((s.epoch : Int) + 1) s.fs.2 = t at *
  generalize s.fs.2 = L at *
  go_enter Tryz.func13, Tryz.ntmps13
  go_wp2_with fail
  go_region_held3 (fun w' => w'.cell? ⟨p.bp, 5, none⟩ = some (.int .i64 (ep : Int)) ∧ w'.cell? ⟨p.bp, 3, none⟩ = some (.pointer (some ⟨p.fp, 0, none⟩))) (first | exact ⟨c5, c3⟩ | exact HKC.out _ (bl_drew hRef) | exact HKC.out _ hb1 | exact HKC.out _ hb2 | go_keep) (first
    | (go_at_call 49
       refine (HL.out _ (bl_drew hRef)).mono ?_
       rintro e w1 ⟨v, rfl, ho1, hb1'⟩
       obtain ⟨A, cap, rfl, hr1, _, _⟩ := own_slice ho1
       have hb1 := below_two (bl_drew hRef) hb1')
    | (go_at_call 48
       refine (HT.out _ A cap hb1 hr1).mono ?_
       rintro e w2 ⟨rfl, hb2'⟩
       have hb2 := below_two hb1 hb2'))
  all_goals
    obtain ⟨hP, d5, f5⟩ := HE.out _ hb2
    have HPost := Lib.hid hP
    clear hP
    go_wp2_with fail
    go_ret2
    exact ⟨rfl, HPost.out.1, HPost.out.2⟩
end
end Go.Proofs.YteilefpjfbholaaGreatDoor

namespace Go.Proofs.YteilefpjfbholaaGreatDoor
open Go.RowKit

section
variable {w : World} {B g n cap size : Nat} {e : TypeId} {xs : List Value}
theorem own_set (h : w.ownsRow B e size (.slice (some ⟨g, 0, none⟩) n cap) n xs) (j : Nat) (u : Value) : (w.setCell ⟨g, j, none⟩ u).ownsRow B e size (.slice (some ⟨g, 0, none⟩) n cap) n (xs.set j u) := by
  obtain ⟨hx, hb, h1, h2, cur, hh, h3, ht⟩ := own_open h
  refine ⟨by rw [List.length_set, hx], .inr ⟨g, cap, cur.setIfInBounds j u, rfl, hb, Blk.set_ (show Blk w g e cur from hh) j u, h1, h2, by simp [h3], ?_⟩⟩
  rw [Array.toList_setIfInBounds, List.take_set, ht]
theorem own_sets : ∀ (vs : List Value) (o : Nat) {w : World} {xs : List Value}, w.ownsRow B e size (.slice (some ⟨g, 0, none⟩) n cap) n xs → ∃ ys, (w.setCells g o vs).ownsRow B e size (.slice (some ⟨g, 0, none⟩) n cap) n ys ∧ ys.take o = xs.take o
  | [], _, _, xs, h => ⟨xs, h, rfl⟩
  | v :: r, o, w, xs, h => by
    obtain ⟨ys, h1, h2⟩ := own_sets r (o + 1) (own_set h o v)
    refine ⟨ys, h1, ?_⟩
    have h3 := congrArg (List.take o) h2
    rw [List.take_take, List.take_take, Nat.min_eq_left (by omega)] at h3
    rw [h3, List.take_set]
    rw [List.set_eq_of_length_le (by rw [List.length_take]; omega)]
theorem turn_sets : ∀ (vs : List Value) (o : Nat) {w w1 : World}, Turn [g] w w1 → Turn [g] w (w1.setCells g o vs)
  | [], _, _, _, h => h
  | v :: r, o, w, w1, h => turn_sets r (o + 1) (h.setCell (p := ⟨g, o, none⟩) (.inl (by simp)) v)
end
theorem flsC_set : ∀ (L : List Fl) (k : Nat) (y : Fl), flsC (L.set k y) = (((flsC L).set (k * 3) (.int .u64 (y.key : Int))).set (k * 3 + 1) (.string y.host)).set (k * 3 + 2) (.int .i64 y.til)
  | [], k, y => by simp [flsC]
  | x :: r, 0, y => by simp [flsC, flC]
  | x :: r, k + 1, y => by
    rw [List.set_cons_succ]
    show flC x ++ flsC (r.set k y) = _
    rw [flsC_set r k y, show (k + 1) * 3 = k * 3 + 1 + 1 + 1 by omega]
    rfl
section
variable {w : World} {B g n cap : Nat} {e : TypeId} {L : List Fl}
theorem own_set3 (h : w.ownsRow B e 3 (.slice (some ⟨g, 0, none⟩) n cap) n (flsC L)) (k : Nat) (y : Fl) : (((w.setCell ⟨g, k * 3, none⟩ (.int .u64 (y.key : Int))).setCell ⟨g, k * 3 + 1, none⟩ (.string y.host)).setCell ⟨g, k * 3 + 2, none⟩ (.int .i64 y.til)).ownsRow B e 3 (.slice (some ⟨g, 0, none⟩) n cap) n (flsC (L.set k y)) := by
  rw [flsC_set]
  exact own_set (own_set (own_set h _ _) _ _) _ _
theorem turn_set3 {w1 : World} (h : Turn [g] w w1) (k : Nat) (y : Fl) : Turn [g] w (((w1.setCell ⟨g, k * 3, none⟩ (.int .u64 (y.key : Int))).setCell ⟨g, k * 3 + 1, none⟩ (.string y.host)).setCell ⟨g, k * 3 + 2, none⟩ (.int .i64 y.til)) :=
  ((h.setCell (p := ⟨g, k * 3, none⟩) (.inl (by simp)) _).setCell (p := ⟨g, k * 3 + 1, none⟩) (.inl (by simp)) _).setCell (p := ⟨g, k * 3 + 2, none⟩) (.inl (by simp)) _
theorem own_len3 (h : w.ownsRow B e 3 (.slice (some ⟨g, 0, none⟩) n cap) n (flsC L)) : L.length = n := by
  have := h.1
  rw [flsC_length] at this
  omega
theorem own_cells3 (h : w.ownsRow B e 3 (.slice (some ⟨g, 0, none⟩) n cap) n (flsC L)) {k : Nat} (hk : k < L.length) : Cells3 w g (k * 3) L[k] := by
  have hl := own_len3 h
  have hr := Reads.of_own h
  rw [← hl] at hr
  exact cells3_reads hr hk
theorem own_frozen (h : w.ownsRow B e 3 (.slice (some ⟨g, 0, none⟩) n cap) n (flsC L)) (j : Nat) : w.frozen? ⟨g, j, none⟩ = false := by
  obtain ⟨_, _, _, _, cur, hh, _, _⟩ := own_open h
  exact Blk.frozen (show Blk w g e cur from hh) j
theorem own_isSome (h : w.ownsRow B e 3 (.slice (some ⟨g, 0, none⟩) n cap) n (flsC L)) {j : Nat} (hj : j < n * 3) : (w.cell? ⟨g, j, none⟩).isSome = true := by
  obtain ⟨_, _, h1, _, cur, hh, h3, _⟩ := own_open h
  rw [Blk.cell (show Blk w g e cur from hh) j, Array.getElem?_eq_getElem (by rw [h3]; omega)]
  rfl
end
/-- What is kept of a list that is gone through, and what is not gone through yet. -/
structure KeptFl (p : Fl → Bool) (xs : List Fl) (i j : Nat) (M : List Fl) : Prop where
  len : M.length = xs.length
  lt : i ≤ j
  le : j ≤ xs.length
  kept : M.take i = (xs.take j).filter p
  rest : M.drop j = xs.drop j
section
variable {p : Fl → Bool} {xs M : List Fl} {i j : Nat}
theorem KeptFl.get (h : KeptFl p xs i j M) (hj : j < xs.length) : M[j]? = some xs[j] := by
  have := congrArg (fun l => l[0]?) h.rest
  simpa [List.getElem?_drop, List.getElem?_eq_getElem hj] using this
theorem KeptFl.skip (h : KeptFl p xs i j M) (hj : j < xs.length) (hp : p xs[j] = false) : KeptFl p xs i (j + 1) M := by
  refine ⟨h.len, by have := h.lt; omega, hj, ?_, ?_⟩
  · rw [h.kept, List.take_succ_eq_append_getElem hj, List.filter_append]
    simp [hp]
  · rw [← List.drop_drop, ← List.drop_drop, h.rest]
theorem KeptFl.keep (h : KeptFl p xs i j M) (hj : j < xs.length) (hp : p xs[j] = true) : KeptFl p xs (i + 1) (j + 1) (M.set i xs[j]) := by
  have hl := h.len
  have hlt := h.lt
  refine ⟨by rw [List.length_set, hl], by omega, hj, ?_, ?_⟩
  · rw [List.take_succ_eq_append_getElem hj, List.filter_append, ← h.kept, List.take_succ_eq_append_getElem (by rw [List.length_set]; omega), List.take_set, List.set_eq_of_length_le (by rw [List.length_take]; omega)]
    simp [hp]
  · rw [List.drop_set, if_pos (by omega), ← List.drop_drop, ← List.drop_drop, h.rest]
theorem KeptFl.start {k : Nat} (hk : k < xs.length) (h0 : p xs[k] = false) (hall : ∀ j (hj : j < xs.length), j < k → p xs[j] = true) : KeptFl p xs k (k + 1) xs := by
  refine ⟨rfl, by omega, hk, ?_, rfl⟩
  rw [List.take_succ_eq_append_getElem hk, List.filter_append, List.filter_eq_self.2 fun x hx => ?_]
  · simp [h0]
  · obtain ⟨j, hj, rfl⟩ := List.getElem_of_mem hx
    rw [List.length_take] at hj
    rw [List.getElem_take]
    exact hall j (by omega) (by omega)
theorem KeptFl.zero : KeptFl p xs 0 0 xs := ⟨rfl, Nat.le_refl _, Nat.zero_le _, rfl, rfl⟩
theorem KeptFl.done (h : KeptFl p xs i xs.length M) : M.take i = xs.filter p ∧ (xs.filter p).length = i := by
  have h1 := h.kept
  rw [List.take_length] at h1
  refine ⟨h1, ?_⟩
  rw [← h1, List.length_take]
  have := h.len
  have := h.lt
  omega
end
end Go.Proofs.YteilefpjfbholaaGreatDoor

namespace Go.Proofs.YteilefpjfbholaaGreatDoor
open Go.RowKit

theorem cell_lt {W : World} {g i : Nat} {v : Value} (hc : W.cell? ⟨g, i, none⟩ = some v) : g < W.heap.size := by
  rcases Nat.lt_or_ge g W.heap.size with h | h
  · exact h
  · have : W.heap[g]? = none := Array.getElem?_eq_none h
    simp [World.cell?, this] at hc
def NotUp (b : Bool) (W : World) (e : Ending) (w' : World) : Prop := e = .returned (.bool b) ∧ Below W.heap.size W w'
set_option maxRecDepth 100000 in
set_option maxHeartbeats 2000000 in
theorem import1_any {bx lo : Nat} {p : BPl} {c : BCfg} {s : BS} (x : Fl) (W : World) (hc : W.cell? ⟨bx, 0, none⟩ = some (.pointer (some ⟨p.bp, 0, none⟩))) (hB : BalAt W lo p c s) :
    Calls Tryz.prog 52 #[flV x, .pointer (some ⟨bx, 0, none⟩)] W (NotUp (!upOf s.st x.host) W) := by
  obtain ⟨W1, hW1⟩ : ∃ W1, W1 = W.alloc (.cells #[.int .u64 (x.key : Int), .string x.host, .int .i64 x.til] 43) := ⟨_, rfl⟩
  have hb1 : Below W.heap.size W W1 := by rw [hW1]; exact (Below.refl _ _).alloc (Nat.le_refl _) _
  have hX : Blk W1 W.heap.size 43 #[.int .u64 (x.key : Int), .string x.host, .int .i64 x.til] := by rw [hW1]; exact Blk.new _ _ _
  have HB := Lib.hid (fun W' (hW : Below W1.heap.size W1 W') => is_op x.host W' (hB.below (below_two hb1 hW)).h)
  have hlt : bx < W.heap.size := cell_lt hc
  have HK : Hid (∀ W', Below W1.heap.size W1 W' → W'.cell? ⟨bx, 0, none⟩ = some (.pointer (some ⟨p.bp, 0, none⟩)) ∧ W'.cell? ⟨p.bp, 0, none⟩ = some (.pointer (some ⟨p.hp, 0, none⟩)) ∧ W'.cell? ⟨W.heap.size, 1, none⟩ = some (.string x.host)) := Lib.hid fun W' hW => by
    have hb := below_two hb1 hW
    exact ⟨(hb.cell hlt).trans hc, (hB.below hb).blk.cell 0, (hX.below hW hX.lt).cell 1⟩
  have HF : Hid (∀ W', Below W1.heap.size W1 W' → Below W.heap.size W W') := Lib.hid fun W' hW => below_two hb1 hW
  have hRef := Below.refl W1.heap.size W1
  clear hB hc hX hb1 hlt
  unfold flV
  generalize upOf s.st x.host = u at *
  go_enter Tryz.func52, Tryz.ntmps52
  go_wp2_with fail
  rw [← hW1]
  clear hW1
  go_region_held3 (fun w' => w'.cell? ⟨bx, 0, none⟩ = some (.pointer (some ⟨p.bp, 0, none⟩)) ∧ w'.cell? ⟨p.bp, 0, none⟩ = some (.pointer (some ⟨p.hp, 0, none⟩)) ∧ w'.cell? ⟨W.heap.size, 1, none⟩ = some (.string x.host)) (first | exact HK.out _ (bl_drew hRef) | exact HK.out _ hb2 | go_keep) (first
    | (go_at_call 43
       refine (HB.out _ (bl_drew hRef)).mono ?_
       rintro e w2 ⟨rfl, hb2'⟩
       have hb2 := below_two (bl_drew hRef) hb2'))
  all_goals
    have HF2 := Lib.hid (HF.out _ hb2)
    go_wp2
    go_ret
    exact ⟨rfl, HF2.out⟩
def Idx (k : Int) (w : World) (e : Ending) (w' : World) : Prop := e = .returned (.int .i64 k) ∧ Below w.heap.size w w'
set_option maxRecDepth 100000 in
set_option maxHeartbeats 2000000 in
theorem idxDel_any {bx : Nat} {p : Fl → Bool} (A : Option Addr) (cap B : Nat) (xs : List Fl) (r : Int) (w : World) (hx : Reads w B 3 A xs.length (flsC xs)) (hB : B ≤ w.heap.size) (hA : 0 < xs.length → ∃ g, A = some ⟨g, 0, none⟩) (hl : xs.length ≤ 1000)
    (hP : ∀ x ∈ xs, ∀ W, Below w.heap.size w W → Calls Tryz.prog 52 #[flV x, .pointer (some ⟨bx, 0, none⟩)] W (NotUp (!p x) W))
    (h1 : ∀ i (hi : i < xs.length), p xs[i] = false → (∀ j (hj : j < xs.length), j < i → p xs[j] = true) → r = (i : Int)) (h2 : (∀ j (hj : j < xs.length), p xs[j] = true) → r = -1) :
    Calls Tryz.prog 96 #[.slice A xs.length cap, .func (.func 52) #[] #[.pointer (some ⟨bx, 0, none⟩)]] w (Idx r w) := by
  have HX := Lib.hid (fun W (hW : Below w.heap.size w W) => hx.below (hW.mono hB))
  have HA := Lib.hid hA
  have HP := Lib.hid hP
  have HH : Hid (∀ i (hi : i < xs.length) W, p xs[i] = false → (∀ j (hj : j < xs.length), j < i → p xs[j] = true) → Below w.heap.size w W → Idx r w (.returned (.int .i64 (i : Int))) W) := Lib.hid fun i hi W a b d => ⟨by rw [h1 i hi a b], d⟩
  have HM : Hid (∀ W, (∀ j (hj : j < xs.length), p xs[j] = true) → Below w.heap.size w W → Idx r w (.returned (.int .i64 (-1))) W) := Lib.hid fun W a d => ⟨by rw [h2 a], d⟩
  clear hx hA hP h1 h2
  go_enter Tryz.func96, Tryz.ntmps96
  go_wp2
  go_loopw [5, 8] (fun _ iv wi => ∃ i : Nat, i ≤ xs.length ∧ iv = .int .i64 (i : Int) ∧ Hid (∀ j (hj : j < xs.length), j < i → p xs[j] = true) ∧ Hid (Below w.heap.size w wi)) (fun _ iv _ => xs.length + 1 - (intOf iv).toNat)
  case atStart => exact ⟨0, Nat.zero_le _, rfl, Lib.hid fun j _ h => absurd h (by omega), Lib.hid (Below.refl _ _)⟩
  case round =>
    obtain ⟨i, hi, rfl, hall, hbw⟩ := hrel
    by_cases hil : i < xs.length
    · have hil2 : (i : Int) < xs.length := by omega
      obtain ⟨g, rfl⟩ := HA.out (by omega)
      obtain ⟨a0, a1, a2⟩ := cells3_reads (HX.out _ hbw.out) hil
      have HC1 := Lib.hid (HP.out xs[i] (List.getElem_mem hil) wr hbw.out)
      unfold flV NotUp at HC1
      cases hb : p xs[i] with
      | false =>
        rw [hb] at HC1
        have HF := Lib.hid (fun W => HH.out i hil W hb hall.out)
        clear hb
        generalize xs[i].key = x0 at *
        generalize xs[i].host = x1 at *
        generalize xs[i].til = x2 at *
        go_wp2_with fail
        refine HC1.out.mono ?_
        rintro e w1 ⟨rfl, hb1⟩
        have hb2 := hbw.out.trans (hb1.mono hbw.out.size)
        clear hb1
        go_wp2
        go_ret
        exact HF.out _ hb2
      | true =>
        rw [hb] at HC1
        have HA2 : Hid (∀ j (hj : j < xs.length), j < i + 1 → p xs[j] = true) := Lib.hid fun j hj h => by
          rcases Nat.lt_succ_iff_lt_or_eq.1 h with h1 | rfl
          · exact hall.out j hj h1
          · exact hb
        clear hb hall
        generalize xs[i].key = x0 at *
        generalize xs[i].host = x1 at *
        generalize xs[i].til = x2 at *
        go_wp2_with fail
        refine HC1.out.mono ?_
        rintro e w1 ⟨rfl, hb1⟩
        have HB2 := Lib.hid (hbw.out.trans (hb1.mono hbw.out.size))
        clear hb1
        go_wp2
        go_roundw
        case rel => exact ⟨i + 1, by omega, by go_num, HA2, HB2⟩
        case measure => simp [intOf]; omega
    · obtain rfl : i = xs.length := by omega
      have hge : ¬ (xs.length : Int) < xs.length := by omega
      have HP := Lib.hid (HM.out wr (fun j hj => hall.out j hj hj) hbw.out)
      clear hall hbw
      go_wp2
      go_ret
      exact HP.out
set_option maxRecDepth 100000 in
set_option maxHeartbeats 2000000 in
theorem delNone_any {bx : Nat} {p : Fl → Bool} (A : Option Addr) (cap B : Nat) (xs : List Fl) (w : World) (hx : Reads w B 3 A xs.length (flsC xs)) (hB : B ≤ w.heap.size) (hA : 0 < xs.length → ∃ g, A = some ⟨g, 0, none⟩) (hl : xs.length ≤ 1000)
    (hP : ∀ x ∈ xs, ∀ W, Below w.heap.size w W → Calls Tryz.prog 52 #[flV x, .pointer (some ⟨bx, 0, none⟩)] W (NotUp (!p x) W)) (hall : ∀ j (hj : j < xs.length), p xs[j] = true) :
    Calls Tryz.prog 51 #[.slice A xs.length cap, .func (.func 52) #[] #[.pointer (some ⟨bx, 0, none⟩)]] w fun e w' => e = .returned (.slice A xs.length cap) ∧ Below w.heap.size w w' := by
  have HI := Lib.hid (idxDel_any A cap B xs (-1) w hx hB hA hl hP (fun i hi h _ => by rw [hall i hi] at h; cases h) (fun _ => rfl))
  unfold Idx at HI
  clear hx hA hP hall
  go_enter Tryz.func51, Tryz.ntmps51
  go_wp2_with fail
  refine HI.out.mono ?_
  rintro e w1 ⟨rfl, hb1⟩
  go_wp2
  go_ret
  exact ⟨rfl, hb1⟩
theorem zeroes_one (n : Nat) : ∀ u ∈ (Builtin.zeroCells (flV flZ).cells n).toList, u.oneCell' = true := by
  intro u hu
  unfold Builtin.zeroCells at hu
  rw [Array.mem_toList_iff, Array.mem_map] at hu
  obtain ⟨i, _, rfl⟩ := hu
  have h3 : i % (flV flZ).cells.size < 3 := Nat.mod_lt _ (by decide)
  generalize i % (flV flZ).cells.size = k at h3
  match k, h3 with
  | 0, _ => rfl
  | 1, _ => rfl
  | 2, _ => rfl
theorem zeroes_len (n : Nat) : (Builtin.zeroCells (flV flZ).cells n).toList.length = n * 3 := by
  unfold Builtin.zeroCells
  simp [flV, Value.cells]
theorem run_clear_fl {w : World} {B g n cap : Nat} {L : List Fl} (h : w.ownsRow B 43 3 (.slice (some ⟨g, 0, none⟩) n cap) n (flsC L)) (i c : Nat) (hi : i < n) (ty : TypeId) :
    (Builtin.clear_ #[40] ty #[.slice (some ⟨g, i * 3, none⟩) (n - i) c]).run Tryz.prog w = .ok (.tuple #[]) (w.setCells g (i * 3) (Builtin.zeroCells (flV flZ).cells (n - i)).toList) := by
  have hst := run_storeCells_cells (P := Tryz.prog) g (i * 3) (Builtin.zeroCells (flV flZ).cells (n - i)).toList 0 w (fun j hj => own_isSome h (by rw [zeroes_len] at hj; omega)) (fun j hj => own_frozen h _) (zeroes_one _)
  rw [Nat.add_zero] at hst
  have hu := Tryz.underlying40
  have hz := zero_flow w
  obtain ⟨m, hm⟩ : ∃ m, n - i = m + 1 := ⟨n - i - 1, by omega⟩
  rw [hm] at hst ⊢
  simp [Builtin.clear_, run_underlying hu, hz, hst]
def DelAs (B g cap : Nat) (L : List Fl) (w : World) (e : Ending) (w' : World) : Prop := e = .returned (.slice (some ⟨g, 0, none⟩) L.length cap) ∧ w'.ownsRow B 43 3 (.slice (some ⟨g, 0, none⟩) L.length cap) L.length (flsC L) ∧ Turn [g] w w'
set_option maxRecDepth 100000 in
set_option maxHeartbeats 2000000 in
theorem delSome_any {bx k : Nat} {p : Fl → Bool} (g cap B : Nat) (xs : List Fl) (w : World) (ho : w.ownsRow B 43 3 (.slice (some ⟨g, 0, none⟩) xs.length cap) xs.length (flsC xs)) (hl : xs.length ≤ 1000)
    (hk : k < xs.length) (h0 : p xs[k] = false) (hall : ∀ j (hj : j < xs.length), j < k → p xs[j] = true)
    (hP : ∀ x ∈ xs, ∀ W, Turn [g] w W → Calls Tryz.prog 52 #[flV x, .pointer (some ⟨bx, 0, none⟩)] W (NotUp (!p x) W)) :
    Calls Tryz.prog 51 #[.slice (some ⟨g, 0, none⟩) xs.length cap, .func (.func 52) #[] #[.pointer (some ⟨bx, 0, none⟩)]] w (DelAs B g cap (xs.filter p) w) := by
  obtain ⟨_, hBg, hnc, hcm, _⟩ := own_open ho
  unfold maxLen at hcm
  have HI := Lib.hid (idxDel_any (some ⟨g, 0, none⟩) cap w.heap.size xs (k : Int) w (Reads.of_own ho) (Nat.le_refl _) (fun _ => ⟨g, rfl⟩) hl (fun x hx W hW => hP x hx W (Turn.of_below hW))
    (fun i hi h h2 => by
      rcases Nat.lt_trichotomy i k with h3 | h3 | h3
      · rw [hall i hi h3] at h; cases h
      · rw [h3]
      · have := h2 k hk h3
        rw [h0] at this; cases this) (fun h => by have := h k hk; rw [h0] at this; cases this))
  unfold Idx at HI
  have HO := Lib.hid ho
  have HP := Lib.hid hP
  have HS := Lib.hid (KeptFl.start hk h0 hall)
  have hne1 : ((k : Int) == -1) = false := beq_eq_false_iff_ne.2 (by omega)
  clear ho hP h0 hall
  go_enter Tryz.func51, Tryz.ntmps51
  go_wp2_with fail
  refine HI.out.mono ?_
  rintro e w1 ⟨rfl, hb1⟩
  have HO1 := Lib.hid (own_below HO.out hb1)
  have HT1 : Hid (Turn [g] w w1) := Lib.hid (Turn.of_below hb1)
  clear hb1
  go_wp2_with fail
  go_loopw [5, 6] (fun iv jv wr => ∃ (i j : Nat) (M : List Fl), i < j ∧ j ≤ xs.length ∧ iv = .int .i64 (i : Int) ∧ jv = .int .i64 (j : Int) ∧ Hid (KeptFl p xs i j M) ∧ Hid (wr.ownsRow B 43 3 (.slice (some ⟨g, 0, none⟩) xs.length cap) xs.length (flsC M)) ∧ Hid (Turn [g] w wr)) (fun _ jv _ => xs.length + 1 - (intOf jv).toNat)
  case atStart => exact ⟨k, k + 1, xs, by omega, by omega, rfl, by go_num, HS, HO1, HT1⟩
  case round =>
    obtain ⟨i, j, M, hij, hj, rfl, rfl, hK, hO, hT⟩ := hrel
    have hlen := hK.out.len
    by_cases hjl : j < xs.length
    · have hjl2 : (j : Int) < xs.length := by omega
      have hMj : M[j]? = some xs[j] := hK.out.get hjl
      have hjM : j < M.length := by omega
      obtain ⟨a0, a1, a2⟩ := own_cells3 hO.out hjM
      have hMe : M[j] = xs[j] := by rw [List.getElem?_eq_getElem hjM] at hMj; exact Option.some.inj hMj
      rw [hMe] at a0 a1 a2
      have hb0 := (Below.refl wr.heap.size wr).alloc (Nat.le_refl _) (.cells #[.int .u64 (xs[j].key : Int), .string xs[j].host, .int .i64 xs[j].til] 43)
      have hB0 := Blk.new wr 43 #[.int .u64 (xs[j].key : Int), .string xs[j].host, .int .i64 xs[j].til]
      obtain ⟨W2, hW2⟩ : ∃ W2, W2 = wr.alloc (.cells #[.int .u64 (xs[j].key : Int), .string xs[j].host, .int .i64 xs[j].til] 43) := ⟨_, rfl⟩
      rw [← hW2] at hb0 hB0
      have HC := Lib.hid (HP.out xs[j] (List.getElem_mem hjl) W2 (hT.out.thenB hb0))
      have HB0 := Lib.hid hB0
      have p0 : W2.cell? ⟨wr.heap.size, 0, none⟩ = some (.int .u64 (xs[j].key : Int)) := hB0.cell 0
      have p1 : W2.cell? ⟨wr.heap.size, 1, none⟩ = some (.string xs[j].host) := hB0.cell 1
      have p2 : W2.cell? ⟨wr.heap.size, 2, none⟩ = some (.int .i64 xs[j].til) := hB0.cell 2
      unfold flV NotUp at HC
      clear hMj hMe hB0
      cases hp : p xs[j] with
      | false =>
        rw [hp] at HC
        have HK2 := Lib.hid (hK.out.skip hjl hp)
        clear hp hK
        generalize xs[j].key = x0 at *
        generalize xs[j].host = x1 at *
        generalize xs[j].til = x2 at *
        go_wp2_with fail
        rw [← hW2]
        refine HC.out.mono ?_
        rintro e w2 ⟨rfl, hb2'⟩
        have hb2 := below_two hb0 hb2'
        have HO2 := Lib.hid (own_below hO.out hb2)
        have HT2 := Lib.hid (hT.out.thenB hb2)
        clear hb2 hb2' hb0 HB0 p0 p1 p2 hW2
        go_wp2_with fail
        go_roundw
        case rel => exact ⟨i, j + 1, M, by omega, by omega, rfl, by go_num, HK2, HO2, HT2⟩
        case measure => simp [intOf]; omega
      | true =>
        rw [hp] at HC
        have HK2 := Lib.hid (hK.out.keep hjl hp)
        have HST : Hid (∀ W, Below wr.heap.size wr W → (((W.setCell ⟨g, i * 3, none⟩ (.int .u64 (xs[j].key : Int))).setCell ⟨g, i * 3 + 1, none⟩ (.string xs[j].host)).setCell ⟨g, i * 3 + 2, none⟩ (.int .i64 xs[j].til)).ownsRow B 43 3 (.slice (some ⟨g, 0, none⟩) xs.length cap) xs.length (flsC (M.set i xs[j])) ∧ Turn [g] w (((W.setCell ⟨g, i * 3, none⟩ (.int .u64 (xs[j].key : Int))).setCell ⟨g, i * 3 + 1, none⟩ (.string xs[j].host)).setCell ⟨g, i * 3 + 2, none⟩ (.int .i64 xs[j].til))) := Lib.hid fun W hW => ⟨own_set3 (own_below hO.out hW) i xs[j], turn_set3 (hT.out.thenB hW) i xs[j]⟩
        have HOb : Hid (∀ W, Below wr.heap.size wr W → Cells3 W g (i * 3) (M[i]'(by omega)) ∧ ∀ m, W.frozen? ⟨g, m, none⟩ = false) := Lib.hid fun W hW => ⟨own_cells3 (own_below hO.out hW) (by omega), own_frozen (own_below hO.out hW)⟩
        clear hp hK
        generalize xs[j] = x at *
        generalize M[i]'(by omega) = old at *
        generalize x.key = x0 at *
        generalize x.host = x1 at *
        generalize x.til = x2 at *
        go_wp2_with fail
        rw [← hW2]
        refine HC.out.mono ?_
        rintro e w2 ⟨rfl, hb2'⟩
        have hb2 := below_two hb0 hb2'
        have hB2 := HB0.out.below hb2' HB0.out.lt
        have q0 : w2.cell? ⟨wr.heap.size, 0, none⟩ = some (.int .u64 (x0 : Int)) := hB2.cell 0
        have q1 : w2.cell? ⟨wr.heap.size, 1, none⟩ = some (.string x1) := hB2.cell 1
        have q2 : w2.cell? ⟨wr.heap.size, 2, none⟩ = some (.int .i64 x2) := hB2.cell 2
        obtain ⟨hO2, hT2⟩ := HST.out _ hb2
        obtain ⟨⟨b0, b1, b2⟩, hfz⟩ := HOb.out _ hb2
        have f0 := hfz (i * 3)
        have f1 := hfz (i * 3 + 1)
        have f2 := hfz (i * 3 + 2)
        have HO2 := Lib.hid hO2
        have HT2 := Lib.hid hT2
        clear hb2 hb2' hb0 hO2 hT2 hfz hB2 HB0 p0 p1 p2 hW2
        go_wp2_with fail
        go_roundw
        case rel => exact ⟨i + 1, j + 1, M.set i x, by omega, by omega, by go_num, by go_num, HK2, HO2, HT2⟩
        case measure => simp [intOf]; omega
    · obtain rfl : j = xs.length := by omega
      have hge : ¬ (xs.length : Int) < xs.length := by omega
      obtain ⟨hd1, hd2⟩ := hK.out.done
      have hcl := fun ty => run_clear_fl hO.out i (cap - i) (by omega) ty
      have HF : Hid (DelAs B g cap (xs.filter p) w (.returned (.slice (some ⟨g, 0, none⟩) i cap)) (wr.setCells g (i * 3) (Builtin.zeroCells (flV flZ).cells (xs.length - i)).toList)) := Lib.hid (by
        obtain ⟨ys, h1, h2⟩ := own_sets (Builtin.zeroCells (flV flZ).cells (xs.length - i)).toList (i * 3) hO.out
        have h3 := own_cut h1 (m := i) (by omega)
        rw [h2, flsC_take, hd1] at h3
        refine ⟨by rw [hd2], ?_, turn_sets _ _ hT.out⟩
        rw [hd2]
        exact h3)
      clear hK hO hT hd1 hd2
      generalize (Builtin.zeroCells (flV flZ).cells (xs.length - i)).toList = zs at *
      go_wp2
      go_ret
      exact HF.out
/-- What is left of a list that is owned. -/
theorem delFl_any {bx : Nat} {p : Fl → Bool} {v : Value} (B : Nat) (xs : List Fl) (w : World) (ho : w.ownsRow B 43 3 v xs.length (flsC xs)) (hl : xs.length ≤ 1000)
    (hP : ∀ x ∈ xs, ∀ W, Turn v.ownBlock.toList w W → Calls Tryz.prog 52 #[flV x, .pointer (some ⟨bx, 0, none⟩)] W (NotUp (!p x) W)) :
    Calls Tryz.prog 51 #[v, .func (.func 52) #[] #[.pointer (some ⟨bx, 0, none⟩)]] w
      fun e w' => ∃ v', e = .returned v' ∧ w'.ownsRow B 43 3 v' (xs.filter p).length (flsC (xs.filter p)) ∧ v'.ownBlock = v.ownBlock ∧ Turn v.ownBlock.toList w w' := by
  obtain ⟨A, cap, rfl, hr, _, _⟩ := own_slice ho
  cases hfi : xs.findIdx? fun x => !p x with
  | none =>
    have h : ∀ j (hj : j < xs.length), p xs[j] = true := fun j hj => by
      have := List.findIdx?_eq_none_iff.1 hfi xs[j] (List.getElem_mem hj)
      simpa using this
    have hf : xs.filter p = xs := List.filter_eq_self.2 fun x hx => by obtain ⟨j, hj, rfl⟩ := List.getElem_of_mem hx; exact h j hj
    rw [hf]
    refine (delNone_any (p := p) A cap w.heap.size xs w hr (Nat.le_refl _) (fun h0 => ?_) hl (fun x hx W hW => hP x hx W (Turn.of_below hW)) h).mono fun e w' ⟨a, b⟩ => ⟨_, a, own_below ho b, rfl, Turn.of_below b⟩
    obtain ⟨g, c', hv, _⟩ := ho.form (by omega)
    injection hv with hA
    exact ⟨g, hA⟩
  | some k =>
    obtain ⟨hk, h0, hall⟩ := List.findIdx?_eq_some_iff_getElem.1 hfi
    obtain ⟨g, c', hv, _⟩ := ho.form (by omega)
    injection hv with hA hn hc
    subst hA
    exact (delSome_any g cap B xs w ho hl hk (by simpa using h0) (fun j hj hjk => by simpa using hall j hjk) hP).mono fun e w' ⟨a, b, t⟩ => ⟨_, a, b, rfl, t⟩
end Go.Proofs.YteilefpjfbholaaGreatDoor

namespace Go.Proofs.YteilefpjfbholaaGreatDoor
open Go.RowKit

section
variable {w w' W : World} {lo hi : Nat} {p : BPl} {c : BCfg} {s : BS} {ea : Nat → Addr}
def ImpAs (n : Nat) (ea : Nat → Addr) (w : World) (lo hi : Nat) (p : BPl) (c : BCfg) (s' : BS) (W : World) (e : Ending) (w' : World) : Prop :=
  e = .returned (.tuple #[.int .i64 (n : Int), .nilIface]) ∧ BNow ea w w' lo hi p c s' ∧ Turn [p.bp, p.fp, p.mb] W w'
theorem BPl.bf (p : BPl) : ∀ b ∈ [p.bp, p.fp, p.mb], b ∈ p.bs := by
  intro b hb
  unfold BPl.bs
  simp only [List.mem_cons, List.not_mem_nil, or_false] at hb ⊢
  rcases hb with rfl | rfl | rfl <;> simp
set_option maxRecDepth 100000 in
set_option maxHeartbeats 2000000 in
theorem bn_import (now e : Nat) (L : List Fl) (str : ByteArray) (h : BNow ea w W lo hi p c s) (hW : CarW w) (hK : ErrsK ea w) (hr : readOf str.data.toList = .good e L) (he : s.epoch ≤ e) (h1 : s.fs.1 ≤ now) (h2 : now ≤ 1099511627776) :
    Calls Tryz.prog 14 #[.pointer (some ⟨p.bp, 0, none⟩), .string str, .int .i64 (now : Int)] W
      (ImpAs ((addF now s.fs.2 (L.filter fun y => upOf s.st y.host)).length - s.fs.2.length) ea w lo hi p c { s with fs := (now, addF now s.fs.2 (L.filter fun y => upOf s.st y.host)), epoch := e } W) := by
  obtain ⟨_, hck, hku⟩ := read_good hr
  have hko := checkOf_none hck
  have hb0 := (Below.refl W.heap.size W).alloc (Nat.le_refl _) (.cells #[.pointer (some ⟨p.bp, 0, none⟩)] 25)
  have hX := Blk.new W 25 #[.pointer (some ⟨p.bp, 0, none⟩)]
  have hsz : W.heap.size < (W.alloc (.cells #[.pointer (some ⟨p.bp, 0, none⟩)] 25)).heap.size := hX.lt
  obtain ⟨W1, hW1⟩ : ∃ W1, W1 = W.alloc (.cells #[.pointer (some ⟨p.bp, 0, none⟩)] 25) := ⟨_, rfl⟩
  rw [← hW1] at hb0 hX hsz
  have hR := read_any ea str W1 (hW.below (below_two h.w hb0)) (hK.below (below_two h.w hb0))
  rw [hr] at hR
  unfold RdPost at hR
  dsimp only at hR
  have HR := Lib.hid hR
  -- what stands while the list is filtered
  have HB : Hid (∀ w2 W3 bs, Below W1.heap.size W1 w2 → Turn bs w2 W3 → (∀ b ∈ bs, W1.heap.size ≤ b) → BNow ea w W3 lo hi p c s ∧ W3.cell? ⟨W.heap.size, 0, none⟩ = some (.pointer (some ⟨p.bp, 0, none⟩)) ∧ Below W.heap.size W W3) := Lib.hid fun w2 W3 bs hb ht hs => by
    have hb3 : Below W1.heap.size W1 W3 := hb.trans (ht.below hb.size hs)
    exact ⟨(h.below hb0).below hb3, (hX.below hb3 hX.lt).cell 0, below_two hb0 hb3⟩
  have HD : Hid (∀ w2 v, Below W1.heap.size W1 w2 → w2.ownsRow W1.heap.size 43 3 v L.length (flsC L) → Calls Tryz.prog 51 #[v, .func (.func 52) #[] #[.pointer (some ⟨W.heap.size, 0, none⟩)]] w2
      fun r w3 => ∃ A cap, r = .returned (.slice A (L.filter fun y => upOf s.st y.host).length cap) ∧ Hid (Calls Tryz.prog 53 #[.pointer (some ⟨p.fp, 0, none⟩), .slice A (L.filter fun y => upOf s.st y.host).length cap, .int .i64 (now : Int)] w3 (Added p.fp p.mb c.time now s.fs.2 (L.filter fun y => upOf s.st y.host) w3)) ∧ Hid (BNow ea w w3 lo hi p c s ∧ Below W.heap.size W w3) ∧ w3.cell? ⟨W.heap.size, 0, none⟩ = some (.pointer (some ⟨p.bp, 0, none⟩)) ∧ w3.cell? ⟨p.bp, 3, none⟩ = some (.pointer (some ⟨p.fp, 0, none⟩))) := Lib.hid fun w2 v hb ho => by
    have hvb : ∀ b ∈ v.ownBlock.toList, W1.heap.size ≤ b := fun b hb' => (ho.lt b (by simpa using hb')).1
    refine (delFl_any (p := fun y => upOf s.st y.host) W1.heap.size L w2 ho (by have := hko.n; omega) (fun x _ W3 hT => ?_)).mono ?_
    · obtain ⟨a, b, _⟩ := HB.out w2 W3 _ hb hT hvb
      exact import1_any x W3 b a.b
    · rintro r w3 ⟨v', rfl, ho', hv', ht⟩
      obtain ⟨a, b, d⟩ := HB.out w2 w3 _ hb ht hvb
      obtain ⟨A, cap, rfl, hr', _, _⟩ := own_slice ho'
      refine ⟨A, cap, rfl, Lib.hid ?_, Lib.hid ⟨a, d⟩, b, a.b.blk.cell 3⟩
      have hin : ∀ x ∈ L.filter (fun y => upOf s.st y.host), x ∈ L := fun x hx => (List.mem_filter.1 hx).1
      refine addF_ok now w3 a.b.f h1 h2 hr' (fun h0 => ?_) (by have := List.length_filter_le (fun y : Fl => upOf s.st y.host) L; have := hko.n; omega) (fun x hx => ?_) (fun x hx => hku x (hin x hx)) (badAt_none fun j hj => (hko.l _ (hin _ (List.getElem_mem hj))).1)
      · obtain ⟨g, c', hv2, _⟩ := ho'.form h0
        injection hv2 with hA
        refine ⟨g, hA, ?_⟩
        have hg := (ho'.lt g (by rw [hA]; rfl)).1
        have l1 := h.b.f.blk.lt
        have l2 := h.b.f.map.lt
        simp only [List.mem_cons, List.not_mem_nil, or_false]
        omega
      · have := name_len (hko.l x (hin x hx)).1
        have e : x.host.data.toList.length = x.host.size := by simp
        unfold maxLen
        omega
  have HBF := Lib.hid h
  have d1 : decide (e < s.epoch) = false := by simp; omega
  have d2 : ¬ e < s.epoch := by omega
  clear hR hr hck hku hko h hW hK he h1 h2
  generalize L.filter (fun y => upOf s.st y.host) = L2 at *
  have HFin : Hid (∀ w3 w4, BNow ea w w3 lo hi p c s → Below W.heap.size W w3 → FlowsR w4 p.fp p.mb c.time now (addF now s.fs.2 L2) → Turn [p.fp, p.mb] w3 w4 → (BNow ea w (w4.setCell ⟨p.bp, 5, none⟩ (.int .i64 (e : Int))) lo hi p c { s with fs := (now, addF now s.fs.2 L2), epoch := e } ∧ Turn [p.bp, p.fp, p.mb] W (w4.setCell ⟨p.bp, 5, none⟩ (.int .i64 (e : Int)))) ∧ w4.cell? ⟨p.bp, 5, none⟩ = some (.int .i64 (s.epoch : Int)) ∧ w4.frozen? ⟨p.bp, 5, none⟩ = false ∧ (w3.cell? ⟨W.heap.size, 0, none⟩ = some (.pointer (some ⟨p.bp, 0, none⟩)) → w4.cell? ⟨W.heap.size, 0, none⟩ = some (.pointer (some ⟨p.bp, 0, none⟩)))) := Lib.hid fun w3 w4 hB hb hF ht => by
    have hB4 := hB.turn (hB.b.turnF (fs' := (now, addF now s.fs.2 L2)) hF ht) ht p.fm
    obtain ⟨t1, t2⟩ := hB4.b.turnE e
    have l1 := HBF.out.b.f.blk.lt
    have l2 := HBF.out.b.f.map.lt
    refine ⟨⟨hB4.turn t1 t2 p.be, (Turn.of_below hb : Turn [p.bp, p.fp, p.mb] W w3).then ((ht.more fun b hb => by simp only [List.mem_cons, List.not_mem_nil, or_false] at hb ⊢; exact .inr hb).then (t2.more fun b hb => by rw [List.mem_singleton] at hb; simp [hb]))⟩, hB4.b.blk.cell 5, hB4.b.blk.frozen 5, fun hc => ht.cell hc ?_⟩
    simp only [List.mem_cons, List.not_mem_nil, or_false]
    omega
  unfold Added at HD
  go_enter Tryz.func14, Tryz.ntmps14
  go_wp2_with fail
  rw [← hW1]
  refine HR.out.mono ?_
  rintro r w2 ⟨v, rfl, ho, hb2⟩
  obtain ⟨hBN2, b2, _⟩ := HB.out w2 w2 [] hb2 (Turn.refl _ _) (fun b hb => by cases hb)
  have c5 : w2.cell? ⟨p.bp, 5, none⟩ = some (.int .i64 (s.epoch : Int)) := hBN2.b.blk.cell 5
  have HD2 := Lib.hid (HD.out w2 v hb2 ho)
  clear hBN2 ho hb2 HB HR HD hW1
  go_wp2_with fail
  refine HD2.out.mono ?_
  rintro r w3 ⟨A, cap, rfl, HA, HB3, b3, c3⟩
  clear b2 c5 HD2
  go_wp2_with fail
  refine HA.out.mono ?_
  rintro r w4 ⟨rfl, hF4, ht4⟩
  obtain ⟨hP, d5, f5, hb4⟩ := HFin.out w3 w4 HB3.out.1 HB3.out.2 hF4 ht4
  have b4 := hb4 b3
  have HP := Lib.hid hP
  clear hP hF4 ht4 hb4 HA HB3 HFin b3 c3
  go_wp2_with fail
  go_ret2
  exact ⟨rfl, HP.out.1, HP.out.2⟩
/-- An elder epoch is told. -/
def ImpOld (ea : Nat → Addr) (W : World) (e : Ending) (w' : World) : Prop := e = .returned (.tuple #[.int .i64 0, errZ ea 8]) ∧ Below W.heap.size W w'
set_option maxRecDepth 100000 in
set_option maxHeartbeats 2000000 in
theorem bn_importOld (now e : Nat) (L : List Fl) (str : ByteArray) (h : BNow ea w W lo hi p c s) (hW : CarW w) (hK : ErrsK ea w) (hr : readOf str.data.toList = .good e L) (he : e < s.epoch) :
    Calls Tryz.prog 14 #[.pointer (some ⟨p.bp, 0, none⟩), .string str, .int .i64 (now : Int)] W (ImpOld ea W) := by
  have hb0 := (Below.refl W.heap.size W).alloc (Nat.le_refl _) (.cells #[.pointer (some ⟨p.bp, 0, none⟩)] 25)
  have hX := Blk.new W 25 #[.pointer (some ⟨p.bp, 0, none⟩)]
  obtain ⟨W1, hW1⟩ : ∃ W1, W1 = W.alloc (.cells #[.pointer (some ⟨p.bp, 0, none⟩)] 25) := ⟨_, rfl⟩
  rw [← hW1] at hb0 hX
  have hR := read_any ea str W1 (hW.below (below_two h.w hb0)) (hK.below (below_two h.w hb0))
  rw [hr] at hR
  unfold RdPost at hR
  dsimp only at hR
  have HR := Lib.hid hR
  have HB : Hid (∀ w2, Below W1.heap.size W1 w2 → w2.cell? ⟨W.heap.size, 0, none⟩ = some (.pointer (some ⟨p.bp, 0, none⟩)) ∧ w2.cell? ⟨p.bp, 5, none⟩ = some (.int .i64 (s.epoch : Int)) ∧ w2.cell? ⟨gv 8, 0, none⟩ = some (.iface 330 (.pointer (some (ea (gv 8))))) ∧ Below W.heap.size W w2) := Lib.hid fun w2 hb => by
    have h2 := (h.below hb0).below hb
    exact ⟨(hX.below hb hX.lt).cell 0, h2.b.blk.cell 5, h2.e.f.c8, below_two hb0 hb⟩
  have d1 : decide (e < s.epoch) = true := by simp; omega
  have d2 : e < s.epoch := he
  have hZ : errZ ea 8 = .iface 330 (.pointer (some (ea (gv 8)))) := rfl
  unfold ImpOld
  rw [hZ]
  clear hR hr h hW hK he hZ
  dsimp only [gv] at HB ⊢
  go_enter Tryz.func14, Tryz.ntmps14
  go_wp2_with fail
  rw [← hW1]
  refine HR.out.mono ?_
  rintro r w2 ⟨v, rfl, ho, hb2⟩
  obtain ⟨b2, c5, e8, hb⟩ := HB.out w2 hb2
  have HBe := Lib.hid hb
  obtain ⟨A, cap, rfl, _⟩ := own_slice ho
  clear ho hb2 HB HR hW1 hb
  go_wp2_with fail
  go_quiet (fail)
  go_wp2_with fail
  go_ret2
  exact ⟨rfl, below_drewN HBe.out _⟩
end
end Go.Proofs.YteilefpjfbholaaGreatDoor

namespace Go.Proofs.YteilefpjfbholaaGreatDoor
open Go.RowKit

/-- What one may write the other is not read from. -/
def Apart (q p : BPl) : Prop := ∀ b ∈ q.all, b ∉ p.all
theorem BPl.bs_all (p : BPl) : ∀ b ∈ p.bs, b ∈ p.all := by
  intro b hb
  unfold BPl.bs at hb
  unfold BPl.all
  simp only [List.mem_cons, List.mem_append] at hb ⊢
  rcases hb with h | h | h | h | h <;> simp [h]
section
variable {ea : Nat → Addr} {w W W' : World} {lo hi lo2 hi2 : Nat} {p q : BPl} {c c2 : BCfg} {s s' s2 : BS} {bs : List Nat}
theorem Apart.symm (h : Apart q p) : Apart p q := fun b hb hq => h b hq hb
theorem BalAt.allLo (h : BalAt W lo p c s) : ∀ b ∈ p.all, lo ≤ b := by
  intro b hb
  unfold BPl.all at hb
  simp only [List.mem_cons, List.mem_append, Option.mem_toList] at hb
  rcases hb with rfl | rfl | rfl | rfl | rfl | hb | hb | hb
  · exact h.ab.1
  · exact h.h.base.1
  · exact h.ab.2.1
  · exact h.ab.2.2.1
  · exact h.ab.2.2.2
  · exact h.h.base.2 b hb
  · exact (h.row.lt b hb).1
  · exact (h.h.own.lt b hb).1
theorem BNow.apart (h : BNow ea w W lo hi p c s) (h2 : BNow ea w W lo2 hi2 q c2 s2) (hh : hi ≤ lo2) : Apart q p := fun b hb hp => by
  have := h2.b.allLo b hb
  have := h.hi b hp
  omega
/-- One stays where the other turns. -/
theorem BNow.stay (h : BNow ea w W lo hi p c s) (h' : BNow ea w W' lo2 hi2 q c2 s2) (ht : Turn bs W W') (hs : ∀ b ∈ bs, b ∈ q.bs) (ha : Apart p q) : BNow ea w W' lo hi p c s :=
  ⟨h.b.away ht fun b hb hm => ha b hb (q.bs_all b (hs b hm)), h.le, h.hi, h'.w, h'.e⟩
/-- One stays where what lies behind it turns. -/
theorem BNow.far (h : BNow ea w W lo hi p c s) (hE : ErrsB ea w) (ht : Turn bs W W') (hs : ∀ b ∈ bs, w.heap.size ≤ b ∧ b ∉ p.all) : BNow ea w W' lo hi p c s := by
  have hb : Below w.heap.size w W' := h.w.trans (ht.below h.w.size fun b hb => (hs b hb).1)
  exact ⟨h.b.away ht fun b hb hm => (hs b hm).2 hb, h.le, h.hi, hb, hE.below hb⟩
end
theorem own_two {w : World} {B n cap size : Nat} {A : Option Addr} {e : TypeId} {xs : List Value} (h : w.ownsRow B e size (.slice A n cap) n xs) : (A = none ∧ n = 0 ∧ cap = 0) ∨ ∃ g, A = some ⟨g, 0, none⟩ := by
  rcases h.2 with ⟨hv, _⟩ | ⟨g, c, cur, hv, _⟩
  · injection hv with h1 h2 h3; exact .inl ⟨h1, h2, h3⟩
  · injection hv with h1; exact .inr ⟨g, h1⟩
end Go.Proofs.YteilefpjfbholaaGreatDoor

namespace Go.Proofs.YteilefpjfbholaaGreatDoor

theorem ckGo_ok : ∀ (L : List Fl) (S : List Nat) (i : Nat), (∀ x ∈ L, FlOk x) → Rise L → (∀ x ∈ L, x.key ∉ S) → ckGo S i L = none
  | [], _, _, _, _, _ => rfl
  | x :: r, S, i, h, hr, hS => by
    have hx := h x List.mem_cons_self
    have hr1 := List.pairwise_cons.1 hr
    have h0 : ckOne S x = 0 := by
      unfold ckOne
      rw [if_neg (by rw [hx.1]; decide), if_neg (by have := hx.2.1; have := hx.2.2; omega), if_neg (hS x List.mem_cons_self)]
    rw [ckGo, if_pos h0]
    refine ckGo_ok r (x.key :: S) (i + 1) (fun y hy => h y (List.mem_cons_of_mem _ hy)) hr1.2 fun y hy hm => ?_
    rcases List.mem_cons.1 hm with e | hm
    · have := hr1.1 y hy
      omega
    · exact hS y (List.mem_cons_of_mem _ hy) hm
/-- What a list of flows may be carried. -/
theorem checkOf_ok {e : Int} {L : List Fl} (h0 : 0 ≤ e) (h1 : e ≤ 1099511627776) (hn : L.length ≤ 200) (h : ∀ x ∈ L, FlOk x) (hr : Rise L) : checkOf e L = none := by
  unfold checkOf
  rw [if_neg (by omega)]
  exact ckGo_ok L [] 0 h hr (fun _ _ hm => by cases hm)
end Go.Proofs.YteilefpjfbholaaGreatDoor
