/-
  Package play's Keys; the law's closed fact: a play of picks.
-/
import Derived.Test.YteilefpjfbholaaGreatDoorPlayRun
import Derived.Test.YteilefpjfbholaaGreatDoorPlayNew
import Derived.Test.YteilefpjfbholaaGreatDoorMixes
namespace Go.Proofs.YteilefpjfbholaaGreatDoor
open Go.RowKit

theorem lt_eq3 {a b c : Int} (h : a < b) (e : c = b) : a < c := e ▸ h
theorem ge_eq3 {b c : Int} (e : c = b) : ¬ b < c := by omega
def turnsL (m : Nat) : List Nat := (List.range m).map Mx.turn
theorem turnsL_succ (m : Nat) : keysV (turnsL (m + 1)) = keysV (turnsL m) ++ [.int .u64 ((Mx.turn m : Nat) : Int)] := by
  unfold turnsL keysV
  rw [List.range_succ]
  simp
def KeysPost (m : Nat) (W : World) (e : Ending) (w' : World) : Prop := ∃ v, e = .returned v ∧ w'.ownsRow W.heap.size 32 1 v m (keysV (turnsL m)) ∧ Below W.heap.size W w'
set_option maxRecDepth 100000 in
set_option maxHeartbeats 2000000 in
theorem keys_any (n : Int) (m : Nat) (hm : max 0 (min n 500) = (m : Int)) (W : World) : Calls Tryz.prog 29 #[.int .i64 n] W (KeysPost m W) := by
  obtain ⟨i0, hi0, hz0, hz1, hz2⟩ := info_parts info_u64
  have hm5 : m ≤ 500 := by omega
  have HT : Hid (∀ i, i < m → ∃ t : Nat, Hid (t = Mx.turn i) ∧ ∀ W', Calls Tryz.prog 60 #[.int .u64 (i : Int)] W' fun e w' => e = .returned (.int .u64 (t : Int)) ∧ W' = w') := Lib.hid fun i hi => ⟨_, Lib.hid rfl, fun W' => turn_any i W' (by unfold U64; omega)⟩
  have HFin : Hid (∀ v w', w'.ownsRow W.heap.size 32 1 v m (keysV (turnsL m)) → Below W.heap.size W w' → KeysPost m W (.returned v) w') := Lib.hid fun v w' h1 h2 => ⟨v, rfl, h1, h2⟩
  obtain ⟨b, hb, hcase⟩ : ∃ b : Int, b = (m : Int) ∧ (((¬ (0 : Int) < n ∧ ¬ (500 : Int) < n) ∧ b = 0) ∨ ((500 : Int) < n ∧ b = 500) ∨ (((0 : Int) < n ∧ ¬ (500 : Int) < n) ∧ b = n)) := ⟨m, rfl, by omega⟩
  have HBM := Lib.hid hb
  clear hb hm
  rcases hcase with ⟨⟨q1, q2⟩, rfl⟩ | hcase
  · obtain rfl : m = 0 := by have := HBM.out; omega
    go_enter Tryz.func29, Tryz.ntmps29
    go_wp2_with fail
    go_loopw [3, 8] (fun sv iv wr => ∃ (i : Nat) (A' : Option Addr) (cap : Nat), i ≤ 0 ∧ sv = .slice A' i cap ∧ iv = .int .i64 (i : Int) ∧ Hid (wr.ownsRow W.heap.size 32 1 (.slice A' i cap) i (keysV (turnsL i))) ∧ Hid (Below W.heap.size W wr)) (fun _ iv _ => 0 + 1 - (intOf iv).toNat)
    case atStart => exact ⟨0, none, 0, Nat.zero_le _, rfl, rfl, Lib.hid (World.ownsRow_nil _ _ _ _), Lib.hid (Below.refl _ _)⟩
    case round =>
      obtain ⟨i, A', cap, hile, rfl, rfl, hR, hB⟩ := hrel
      obtain rfl : i = 0 := by omega
      have HF := Lib.hid (HFin.out _ _ hR.out hB.out)
      clear hR hB HFin
      go_wp2
      go_ret
      exact HF.out
  rcases hcase with ⟨q1, rfl⟩ | ⟨⟨q1, q2⟩, rfl⟩
  all_goals
    go_enter Tryz.func29, Tryz.ntmps29
    go_wp2_with fail
    go_loopw [3, 8] (fun sv iv wr => ∃ (i : Nat) (A' : Option Addr) (cap : Nat), i ≤ m ∧ sv = .slice A' i cap ∧ iv = .int .i64 (i : Int) ∧ Hid (wr.ownsRow W.heap.size 32 1 (.slice A' i cap) i (keysV (turnsL i))) ∧ Hid (Below W.heap.size W wr)) (fun _ iv _ => m + 1 - (intOf iv).toNat)
    case atStart => exact ⟨0, none, 0, Nat.zero_le _, rfl, rfl, Lib.hid (World.ownsRow_nil _ _ _ _), Lib.hid (Below.refl _ _)⟩
    case round =>
      obtain ⟨i, A', cap, hile, rfl, rfl, hR, hB⟩ := hrel
      by_cases hil : i < m
      · have hil2 := lt_eq3 (show (i : Int) < (m : Int) by omega) HBM.out
        obtain ⟨t, ht, HTu⟩ := HT.out i hil
        have hwi : IntKind.u64.wrap (i : Int) = (i : Int) := by rw [IntKind.wrap_u64]; omega
        have HTT := Lib.hid HTu
        have hbA := (Below.refl wr.heap.size wr).alloc (Nat.le_refl _) (.cells #[.int .u64 (t : Int)] 32)
        have HRW : Hid ((wr.alloc (.cells #[.int .u64 (t : Int)] 32)).ownsRow W.heap.size 32 1 (.slice A' i cap) i (keysV (turnsL i))) := Lib.hid (own_below hR.out hbA)
        have HNW : Hid (Reads (wr.alloc (.cells #[.int .u64 (t : Int)] 32)) (wr.alloc (.cells #[.int .u64 (t : Int)] 32)).heap.size 1 (some ⟨wr.heap.size, 0, none⟩) 1 [.int .u64 (t : Int)]) := Lib.hid (blk_reads (Blk.new wr 32 [Value.int .u64 (t : Int)].toArray))
        have HSZ : Hid (W.heap.size ≤ (wr.alloc (.cells #[.int .u64 (t : Int)] 32)).heap.size) := Lib.hid (Nat.le_trans hB.out.size hbA.size)
        have HAP : Hid (∀ v' W', W'.ownsRow W.heap.size 32 1 v' (i + 1) (keysV (turnsL i) ++ [.int .u64 (t : Int)]) → (wr.alloc (.cells #[.int .u64 (t : Int)] 32)).grownBy W' (Value.slice A' i cap).ownBlock → ∃ A2 cap2, v' = .slice A2 (i + 1) cap2 ∧ Hid (W'.ownsRow W.heap.size 32 1 (.slice A2 (i + 1) cap2) (i + 1) (keysV (turnsL (i + 1)))) ∧ Hid (Below W.heap.size W W')) := Lib.hid fun v' W' h1 h2 => by
          rw [ht.out, ← turnsL_succ] at h1
          obtain ⟨A2, cap2, rfl, _⟩ := own_slice h1
          exact ⟨A2, cap2, rfl, Lib.hid h1, Lib.hid (below_app (below_two hB.out hbA) HRW.out h2)⟩
        clear hbA hR hB HTu ht
        generalize keysV (turnsL i) = xs at *
        go_wp2_with fail
        refine (HTT.out _).mono ?_
        rintro e w4 ⟨rfl, rfl⟩
        go_wp2_with (first
          | (at_builtin
             go_must (refine wpList_append_any _ rfl (.tmp 11) (.tmp 15) _ rfl W.heap.size 32 i0 _ 1 8 Tryz.underlying22 hi0 hz0 hz1 hz2 rfl (by omega) (.slice A' i cap) i xs rfl HRW.out _ (some ⟨wr.heap.size, 0, none⟩) 1 1 [.int .u64 (t : Int)] rfl HNW.out (by simp [Value.oneCell']) (by simp only [maxLen]; omega) (by omega) HSZ.out ?_)
             intro v1 w5 hown1 hg1 _
             obtain ⟨A2, cap2, hv2, HR2, HB2⟩ := HAP.out _ _ hown1 hg1
             subst hv2
             clear hown1 hg1))
        go_roundw
        case rel => exact ⟨i + 1, A2, cap2, by omega, rfl, by go_num, HR2, HB2⟩
        case measure => simp [intOf]; omega
      · obtain rfl : i = m := by omega
        have hge := ge_eq3 HBM.out
        have HF := Lib.hid (HFin.out _ _ hR.out hB.out)
        clear hR hB HFin
        go_wp2
        go_ret
        exact HF.out
theorem pick_new (k : Nat) : (pickS c22 (newS c22) k 0).1.2.2 = 0 := by
  obtain ⟨x, kept, hp, _⟩ := pickS_step (c := c22) (s := newS c22) (k := k) (n := 0) (Nat.zero_le _) (by omega) (by rw [openOf_new]; exact List.length_pos_iff.1 ok_22.h0) (by rw [openOf_new]; exact ok_22.tf) (by decide)
  have hp2 : pickS c22 (newS c22) k 0 = _ := hp
  rw [hp2]
theorem played_codes : (runS [0, -1, 40] ((newS c22, newS c22), 0)).1 = [0, -1, 0] := by
  have h0 : ∀ d : DS, (oneS 0 d).1 = (pickS c22 d.1.1 0 d.2).1.2.2 ∧ (oneS 0 d).2.1.2 = d.1.2 ∧ (oneS 0 d).2.2 = d.2 := fun d => ⟨rfl, rfl, rfl⟩
  have h40 : ∀ d : DS, (oneS 40 d).1 = (pickS c22 d.1.2 2 d.2).1.2.2 := fun d => rfl
  have e : (runS [0, -1, 40] ((newS c22, newS c22), 0)).1 = [((oneS 0 ((newS c22, newS c22), 0)).1 : Int), -1, ((oneS 40 (oneS 0 ((newS c22, newS c22), 0)).2).1 : Int)] := rfl
  rw [e, h40, (h0 _).1, (h0 _).2.1, (h0 _).2.2]
  show [((pickS c22 (newS c22) 0 0).1.2.2 : Int), -1, ((pickS c22 (newS c22) 2 0).1.2.2 : Int)] = _
  rw [pick_new, pick_new]
  rfl
theorem own_cap1 {w : World} {B n cap size : Nat} {A : Option Addr} {e : TypeId} {xs : List Value} (h : w.ownsRow B e size (.slice A n cap) n xs) : n ≤ cap := by
  obtain ⟨A', c, hv, _, h1, _⟩ := own_slice h
  injection hv with _ _ h3
  omega
/-- Where a duo lies. -/
structure DPl where
  dp : Nat
  lo : Nat
  hi : Nat
  lo2 : Nat
  hi2 : Nat
  L : Nat
  H : Nat
  p : BPl
  q : BPl
def DPl.bs (x : DPl) : List Nat := x.p.bs ++ x.q.bs
structure DuoS (ea : Nat → Addr) (w W : World) (x : DPl) (k now : Nat) (st : BS × BS) : Prop where
  a : DuoAt ea w W x.dp x.lo x.hi x.lo2 x.hi2 x.p x.q k now st
  s : Span x.L x.H x.dp x.lo x.hi x.lo2 x.hi2
  z : x.H ≤ W.heap.size
section
variable {ea : Nat → Addr} {w W W' : World} {x y : DPl} {k now k2 now2 : Nat} {st st2 : BS × BS}
theorem DuoS.below (h : DuoS ea w W x k now st) (hb : Below W.heap.size W W') : DuoS ea w W' x k now st := ⟨h.a.below hb, h.s, Nat.le_trans h.z hb.size⟩
theorem DuoS.bsIn (h : DuoS ea w W x k now st) : ∀ b ∈ x.bs, w.heap.size ≤ b ∧ x.L ≤ b ∧ b < x.H := fun b hb => by
  have h1 := h.a.bsIn h.s b hb
  refine ⟨?_, h1⟩
  rcases List.mem_append.1 hb with hb | hb
  · exact Nat.le_trans h.a.x.le (h.a.x.b.allLo b (x.p.bs_all b hb))
  · exact Nat.le_trans h.a.y.le (h.a.y.b.allLo b (x.q.bs_all b hb))
/-- Another duo turns. -/
theorem DuoS.other (h : DuoS ea w W x k now st) (h2 : DuoS ea w W y k2 now2 st2) (hE : ErrsB ea w) (ht : Turn y.bs W W') (hxy : x.H ≤ y.L ∨ y.H ≤ x.L) : DuoS ea w W' x k now st :=
  ⟨h.a.span h.s hE ht fun b hb => by have := h2.bsIn b hb; omega, h.s, Nat.le_trans h.z ht.size⟩
/-- A row behind a duo stays. -/
theorem DuoS.row {B n size : Nat} {e : TypeId} {v : Value} {xs : List Value} (h : DuoS ea w W x k now st) (ho : W.ownsRow B e size v n xs) (hB : x.H ≤ B) (ht : Turn x.bs W W') : W'.ownsRow B e size v n xs :=
  ht.own ho fun g hg hm => by have := (ho.lt g hg).1; have := h.bsIn g hm; omega
def NewDuoS (ea : Nat → Addr) (w W : World) (e : Ending) (w' : World) : Prop :=
  ∃ x : DPl, e = .returned (.pointer (some ⟨x.dp, 0, none⟩)) ∧ DuoS ea w w' x 0 0 (newS c22, newS c22) ∧ x.L = W.heap.size ∧ Below W.heap.size W w'
theorem playNewS (hE0 : ErrsB ea w) (hw : Below w.heap.size w W) : Calls Tryz.prog 20 #[] W (NewDuoS ea w W) :=
  (playNew_any hE0 hw).mono fun _ _ ⟨dp, lo, hi, lo2, hi2, p, q, a, b, c, d⟩ => ⟨⟨dp, lo, hi, lo2, hi2, _, _, p, q⟩, a, ⟨b, c, Nat.le_refl _⟩, rfl, d⟩
def RunS (ea : Nat → Addr) (w : World) (x : DPl) (l : List Int) (st : BS × BS) (W : World) (e : Ending) (w' : World) : Prop :=
  ∃ (A' : Option Addr) (cap : Nat), e = .returned (.slice A' l.length cap) ∧ w'.ownsRow W.heap.size 3 1 (.slice A' l.length cap) l.length ((runS l (st, 0)).1.map intV) ∧ (∃ now, DuoS ea w w' x l.length now (runS l (st, 0)).2.1) ∧ Turn x.bs W w'
theorem runS_any {A : Option Addr} {ca : Nat} {l : List Int} (hE : ErrsB ea w) (hE9 : ErrsW ea w) (hG : HandleAt w) (hW : CarW w) (hK : ErrsK ea w) (h : DuoS ea w W x 0 0 st)
    (hr : ∀ W', Turn x.bs W W' → Reads W' W'.heap.size 1 A l.length (l.map intV)) (hl : l.length ≤ 1000) (hlc : l.length ≤ ca) (hv : ∀ z ∈ l, z ≤ 9223372036854775807) :
    Calls Tryz.prog 21 #[.pointer (some ⟨x.dp, 0, none⟩), .slice A l.length ca] W (RunS ea w x l st W) :=
  (run_any hE hE9 hG hW hK h.a hr hl hlc hv).mono fun _ w' ⟨v, a, b, c, d⟩ => by
    obtain ⟨A', cap, rfl, _⟩ := own_slice b
    exact ⟨A', cap, a, b, ⟨_, c, h.s, Nat.le_trans h.z d.size⟩, d⟩
end
set_option maxRecDepth 100000 in
set_option maxHeartbeats 2000000 in
theorem played_any (ea : Nat → Addr) (w : World) (hE : ErrsB ea w) (hE9 : ErrsW ea w) (hG : HandleAt w) (hW : CarW w) (hK : ErrsK ea w) : Calls Tryz.prog 19 #[] w (True1 w) := by
  have HN := Lib.hid (playNewS (ea := ea) hE (Below.refl w.heap.size w))
  have HR : Hid (∀ W1 x, DuoS ea w W1 x 0 0 (newS c22, newS c22) → Below w.heap.size w W1 → Calls Tryz.prog 21 #[.pointer (some ⟨x.dp, 0, none⟩), .slice (some ⟨W1.heap.size, 0, none⟩) 3 3] (W1.alloc (.cells #[.int .i64 0, .int .i64 (-1), .int .i64 40] 3)) fun e w' => ∃ (A' : Option Addr) (cap : Nat), e = .returned (.slice A' 3 cap) ∧ Reads w' w'.heap.size 1 A' 3 [.int .i64 0, .int .i64 (-1), .int .i64 0] ∧ Below w.heap.size w w') := Lib.hid fun W1 x h hw => by
    have hb := (Below.refl W1.heap.size W1).alloc (Nat.le_refl _) (.cells #[.int .i64 0, .int .i64 (-1), .int .i64 40] 3)
    have hX := Blk.new W1 3 #[.int .i64 0, .int .i64 (-1), .int .i64 40]
    have h2 := h.below hb
    refine (runS_any (l := [0, -1, 40]) hE hE9 hG hW hK h2 (fun W' ht => ?_) (by decide) (by decide) (by decide)).mono fun e w' ⟨A', cap, a, b, ⟨now, c⟩, d⟩ => ⟨A', cap, a, ?_, (below_two hw hb).trans (d.below (below_two hw hb).size fun g hg => (h2.bsIn g hg).1)⟩
    · exact blk_reads (ht.blk hX fun hm => by have := h2.bsIn _ hm; have := h.z; omega)
    · rw [played_codes] at b
      exact Reads.of_own b
  have HK3 : Hid (∀ W', Calls Tryz.prog 29 #[.int .i64 3] W' fun e w' => ∃ (A' : Option Addr) (cap : Nat), e = .returned (.slice A' 3 cap) ∧ Below W'.heap.size W' w') := Lib.hid fun W' => (keys_any 3 3 (by decide) W').mono fun e w' ⟨v, a, b, c⟩ => by
    obtain ⟨A', cap, rfl, _⟩ := own_slice b
    exact ⟨A', cap, a, c⟩
  have HSI : Hid (∀ W1 A' cap, Reads W1 W1.heap.size 1 A' 3 [.int .i64 0, .int .i64 (-1), .int .i64 0] → Calls Tryz.prog 22 #[.slice A' 3 cap, .slice (some ⟨W1.heap.size, 0, none⟩) 3 3] (W1.alloc (.cells #[.int .i64 0, .int .i64 (-1), .int .i64 0] 3)) fun e w' => e = .returned (.bool true) ∧ ∃ m, w' = (W1.alloc (.cells #[.int .i64 0, .int .i64 (-1), .int .i64 0] 3)).drewN m) := Lib.hid fun W1 A' cap h1 => by
    have hb := (Below.refl W1.heap.size W1).alloc (Nat.le_refl _) (.cells #[.int .i64 0, .int .i64 (-1), .int .i64 0] 3)
    have hX := blk_reads (Blk.new W1 3 #[.int .i64 0, .int .i64 (-1), .int .i64 0])
    exact sameInts A' (some ⟨W1.heap.size, 0, none⟩) cap 3 _ [0, -1, 0] [0, -1, 0] _ ((h1.below hb).more hb.size) hX (by decide) (by decide)
  unfold NewDuoS at HN
  clear hE hE9 hG hW hK
  go_enter Tryz.func19, Tryz.ntmps19
  go_wp2_with fail
  refine HN.out.mono ?_
  rintro e w1 ⟨x, rfl, hx1, _, hb1⟩
  have HR1 := Lib.hid (HR.out w1 x hx1 hb1)
  clear hx1 HR hb1
  go_wp2_with fail
  refine HR1.out.mono ?_
  rintro e w2 ⟨A2, c2, rfl, r2, hb2⟩
  have HS2 := Lib.hid (HSI.out w2 A2 c2 r2)
  have HB2 := Lib.hid (below_two hb2 ((Below.refl w2.heap.size w2).alloc (Nat.le_refl _) (.cells #[.int .i64 0, .int .i64 (-1), .int .i64 0] 3)))
  clear r2 hb2 HR1 HSI
  go_wp2_with fail
  refine HS2.out.mono ?_
  rintro e w3 ⟨rfl, m3, rfl⟩
  go_wp2_with fail
  refine (HK3.out _).mono ?_
  rintro e w4 ⟨A4, c4, rfl, hb4⟩
  go_wp2_with fail
  go_ret
  exact ⟨rfl, below_two (below_drewN HB2.out m3) hb4⟩
end Go.Proofs.YteilefpjfbholaaGreatDoor
