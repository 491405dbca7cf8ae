/-
  The law PlayRuns: its walk.
-/
import Derived.Test.YteilefpjfbholaaGreatDoorRefRun
import Derived.Test.YteilefpjfbholaaGreatDoorPlayed
import Derived.Test.YteilefpjfbholaaGreatDoorSameFl
namespace Go.Proofs.YteilefpjfbholaaGreatDoor
open Go.RowKit

theorem own_zeroR {w : World} {B n cap size : Nat} {A : Option Addr} {e : TypeId} {xs : List Value} (h : w.ownsRow B e size (.slice A n cap) n xs) (h0 : 0 < n) : ∃ g, A = some ⟨g, 0, none⟩ := by
  rcases own_two h with ⟨_, h1, _⟩ | h1
  · omega
  · exact h1
section
variable {ea : Nat → Addr} {w W W' : World} {x : DPl} {B dp k n k2 n2 : Nat} {v : Value} {p q : RBp} {a b : BS × BS} {bs : List Nat}
theorem DuoR.low {now : Nat} {st : BS × BS} (h : DuoR W B dp v p q n now st) (ht : Turn bs W W') (hb : ∀ b ∈ bs, b < B) : DuoR W' B dp v p q n now st :=
  ⟨ht.blk h.blk (fun hm => by have := hb _ hm; have := h.b; omega), ht.own h.row (fun g hg hm => by have := hb _ hm; have := (h.row.lt g hg).1; omega), h.x.low ht hb, h.y.low ht hb, h.ap, h.b⟩
/-- The program's duo, and the reference's behind it. -/
structure Pair (ea : Nat → Addr) (w W : World) (x : DPl) (B dp : Nat) (v : Value) (p q : RBp) (k n k2 n2 : Nat) (a b : BS × BS) : Prop where
  hx : DuoS ea w W x k n a
  hr : DuoR W B dp v p q k2 n2 b
  z : x.H ≤ B
  bz : B ≤ W.heap.size
  b : Below w.heap.size w W
theorem Pair.below (h : Pair ea w W x B dp v p q k n k2 n2 a b) (hb : Below W.heap.size W W') : Pair ea w W' x B dp v p q k n k2 n2 a b :=
  ⟨h.hx.below hb, h.hr.below hb, h.z, Nat.le_trans h.bz hb.size, below_two h.b hb⟩
theorem Pair.low (h : Pair ea w W x B dp v p q k n k2 n2 a b) : w.heap.size ≤ B := by
  have h1 := h.hx.bsIn x.p.bp (by simp [DPl.bs, BPl.bs])
  have := h.z
  omega
theorem Pair.runX (h : Pair ea w W x B dp v p q k n k2 n2 a b) (ht : Turn x.bs W W') {k' n' : Nat} {a' : BS × BS} (hx : DuoS ea w W' x k' n' a') : Pair ea w W' x B dp v p q k' n' k2 n2 a' b :=
  ⟨hx, h.hr.low ht fun g hg => by have := h.hx.bsIn g hg; have := h.z; omega, h.z, Nat.le_trans h.bz ht.size, h.b.trans (ht.below h.b.size fun g hg => (h.hx.bsIn g hg).1)⟩
theorem Pair.runR (h : Pair ea w W x B dp v p q k n k2 n2 a b) (hE : ErrsB ea w) (ht : TurnR B W W') {p' q' : RBp} {k' n' : Nat} {b' : BS × BS} (hr : DuoR W' B dp v p' q' k' n' b') : Pair ea w W' x B dp v p' q' k n k' n' a b' := by
  have hb := ht.below h.bz
  obtain ⟨bs, h1, hs⟩ := ht
  have hlo := h.low
  exact ⟨⟨h.hx.a.span h.hx.s hE h1 fun g hg => ⟨Nat.le_trans hlo (hs g hg).1, .inr (Nat.le_trans h.z (hs g hg).1)⟩, h.hx.s, Nat.le_trans h.hx.z h1.size⟩, hr, h.z, Nat.le_trans h.bz h1.size, h.b.trans (h1.below h.b.size fun g hg => Nat.le_trans hlo (hs g hg).1)⟩
/-- What the law's end reads. -/
structure PrC (x : DPl) (dp g cap : Nat) (p q : RBp) (a : BS × BS) (W : World) : Prop where
  a0 : W.cell? ⟨x.dp, 0, none⟩ = some (.pointer (some ⟨x.p.bp, 0, none⟩))
  a1 : W.cell? ⟨x.dp, 1, none⟩ = some (.pointer (some ⟨x.q.bp, 0, none⟩))
  h0 : W.cell? ⟨x.p.bp, 0, none⟩ = some (.pointer (some ⟨x.p.hp, 0, none⟩))
  h1 : W.cell? ⟨x.q.bp, 0, none⟩ = some (.pointer (some ⟨x.q.hp, 0, none⟩))
  l : W.cell? ⟨dp, 0, none⟩ = some (.slice (some ⟨g, 0, none⟩) 2 cap)
  g0 : W.cell? ⟨g, 0, none⟩ = some (.pointer (some ⟨p.mb, 0, none⟩))
  g1 : W.cell? ⟨g, 1, none⟩ = some (.pointer (some ⟨q.mb, 0, none⟩))
  p0 : W.cell? ⟨p.mb, 0, none⟩ = some (.pointer (some ⟨p.mh, 0, none⟩))
  p1 : W.cell? ⟨p.mb, 1, none⟩ = some (.pointer (some ⟨p.mf, 0, none⟩))
  p4 : W.cell? ⟨p.mb, 4, none⟩ = some (.int .i64 (a.1.epoch : Int))
  q0 : W.cell? ⟨q.mb, 0, none⟩ = some (.pointer (some ⟨q.mh, 0, none⟩))
  q1 : W.cell? ⟨q.mb, 1, none⟩ = some (.pointer (some ⟨q.mf, 0, none⟩))
  q4 : W.cell? ⟨q.mb, 4, none⟩ = some (.int .i64 (a.2.epoch : Int))
  f0 : W.cell? ⟨p.mf, 2, none⟩ = some p.fv
  f1 : W.cell? ⟨q.mf, 2, none⟩ = some q.fv
theorem Pair.cells (h : Pair ea w W x B dp v p q k n k2 n2 a a) : ∃ g cap, ∀ W', Below W.heap.size W W' → PrC x dp g cap p q a W' := by
  obtain ⟨g, cap, rfl, _, _⟩ := h.hr.swapRow
  refine ⟨g, cap, fun W' hb => ?_⟩
  have h' := h.below hb
  obtain ⟨g', cap', e, c0, c1⟩ := h'.hr.swapRow
  cases e
  obtain ⟨u0, u1, _, _, u4⟩ := h'.hr.x.cells
  obtain ⟨v0, v1, _, _, v4⟩ := h'.hr.y.cells
  exact ⟨h'.hx.a.dk.cell 0, h'.hx.a.dk.cell 1, h'.hx.a.x.b.blk.cell 0, h'.hx.a.y.b.blk.cell 0, h'.hr.blk.cell 0, c0, c1, u0, u1, u4, v0, v1, v4, h'.hr.x.f.blk.cell 2, h'.hr.y.f.blk.cell 2⟩
theorem rfs_form {mp time last : Nat} {L : List Fl} {sv : Value} (h : RFs W B mp time last L sv) : ∃ A cap, sv = .slice A L.length cap ∧ (0 < L.length → ∃ g, A = some ⟨g, 0, none⟩) ∧ ∀ W', Below W.heap.size W W' → Reads W' W'.heap.size 3 A L.length (flsC L) := by
  obtain ⟨A, cap, rfl, _⟩ := own_slice h.row
  exact ⟨A, cap, rfl, own_zeroR h.row, fun W' hb => Reads.of_own (own_below h.row hb)⟩
end
theorem runs_skip (ea : Nat → Addr) (A : Option Addr) (ca a : Nat) (w : World) (hE : ErrsB ea w) (hE9 : ErrsW ea w) (hG : HandleAt w) (hW : CarW w) (hK : ErrsK ea w) (_h1 : a ≤ maxLen) (h : 250 < a) :
    Calls Tryz.prog 7 #[.slice A a ca] w (True1 w) := by
  unfold maxLen at _h1
  have HW := Lib.hid (played_any ea w hE hE9 hG hW hK)
  have d1 : decide ((a : Int) > 250) = true := by simp; omega
  clear hE hE9 hG hW hK h
  go_enter Tryz.func7, Tryz.ntmps7
  go_wp2_with fail
  refine HW.out.mono ?_
  rintro e w1 ⟨rfl, hb1⟩
  have HB := Lib.hid hb1
  clear hb1 HW
  go_wp2
  go_ret
  exact ⟨rfl, HB.out⟩
set_option maxRecDepth 100000 in
set_option maxHeartbeats 4000000 in
theorem runs_walk (ea : Nat → Addr) (A : Option Addr) (ca : Nat) (l : List Int) (w : World) (hE : ErrsB ea w) (hE9 : ErrsW ea w) (hG : HandleAt w) (hW : CarW w) (hK : ErrsK ea w)
    (hr : Reads w w.heap.size 1 A l.length (l.map intV)) (hv : ∀ z ∈ l, z ≤ 9223372036854775807) (h1 : l.length ≤ 250) :
    Calls Tryz.prog 7 #[.slice A l.length ca] w (True1 w) := by
  obtain ⟨i0, hi0, hz0, hz1, hz2⟩ := info_parts info_num
  have HWB := Lib.hid (played_any ea w hE hE9 hG hW hK)
  have d1 : decide ((l.length : Int) > 250) = false := by simp; omega
  have HN : Hid (∀ W, Below w.heap.size w W → Calls Tryz.prog 20 #[] W (NewDuoS ea w W)) := Lib.hid fun W hW => playNewS hE hW
  have HM : Hid (∀ W x, Below w.heap.size w W → DuoS ea w W x 0 0 (newS c22, newS c22) → Calls Tryz.prog 23 #[] W fun e w' => ∃ dp v p q, e = .returned (.pointer (some ⟨dp, 0, none⟩)) ∧ Pair ea w w' x W.heap.size dp v p q 0 0 0 0 (newS c22, newS c22) (newS c22, newS c22)) := Lib.hid fun W x hb hx =>
    (refNewDuo W).mono fun e w' ⟨dp, v, p, q, a, b, c⟩ => ⟨dp, v, p, q, a, hx.below c, b, hx.z, c.size, below_two hb c⟩
  have HRx : Hid (∀ W x B0 dp v p q B A1 c1 s2, Pair ea w W x B0 dp v p q 0 0 0 0 (newS c22, newS c22) s2 → W.ownsRow B 3 1 (.slice A1 l.length c1) l.length (l.map intV) → x.H ≤ B → Calls Tryz.prog 21 #[.pointer (some ⟨x.dp, 0, none⟩), .slice A1 l.length c1] W fun e w' => ∃ A' cap n, e = .returned (.slice A' l.length cap) ∧ w'.ownsRow W.heap.size 3 1 (.slice A' l.length cap) l.length ((runS l ((newS c22, newS c22), 0)).1.map intV) ∧ Pair ea w w' x B0 dp v p q l.length n 0 0 (runS l ((newS c22, newS c22), 0)).2.1 s2) := Lib.hid fun W x B0 dp v p q B A1 c1 s2 h ho hB =>
    (runS_any hE hE9 hG hW hK h.hx (fun W' ht => Reads.of_own (h.hx.row ho hB ht)) (by omega) (own_cap1 ho) hv).mono fun e w' ⟨A', cap, a, b, ⟨n, c⟩, d⟩ => ⟨A', cap, n, a, b, h.runX d c⟩
  have HRr : Hid (∀ W x B0 dp v p q n s1 A6 c6 B6 (R : List Int × DS), Hid (R = runS l ((newS c22, newS c22), 0)) → Pair ea w W x B0 dp v p q l.length n 0 0 s1 (newS c22, newS c22) → W.ownsRow B6 3 1 (.slice A6 l.length c6) l.length (R.1.map intV) → Calls Tryz.prog 24 #[.pointer (some ⟨dp, 0, none⟩), .slice A l.length ca] W fun e w' => ∃ A' cap p' q' n', e = .returned (.slice A' l.length cap) ∧ w'.ownsRow B6 3 1 (.slice A6 l.length c6) l.length (R.1.map intV) ∧ w'.ownsRow W.heap.size 3 1 (.slice A' l.length cap) l.length (R.1.map intV) ∧ Pair ea w w' x B0 dp v p' q' l.length n l.length n' s1 R.2.1) := Lib.hid fun W x B0 dp v p q n s1 A6 c6 B6 R hR h ho =>
    by
      have eR := hR.out
      clear hR
      subst eR
      exact (refRun h.hr h.bz DInv.new (by omega) hv (fun W' hb => by
        have hb2 : Below w.heap.size w W' := h.b.trans (hb.mono h.low)
        exact (hr.below hb2).more hb2.size)).mono fun e w' ⟨A', cap, a, b, p', q', c, d⟩ => ⟨A', cap, p', q', _, a, d.own ho, b, h.runR hE d c⟩
  have hlo : Hid (∀ W, Below w.heap.size w W → Reads W W.heap.size 1 A l.length (l.map intV)) := Lib.hid fun W hb => (hr.below hb).more hb.size
  have hone : ∀ u ∈ l.map intV, u.oneCell' = true := fun u hu => by
    obtain ⟨v, _, rfl⟩ := List.mem_map.1 hu
    rfl
  have HOne := Lib.hid hone
  have hrlen : (runS l ((newS c22, newS c22), 0)).1.length = l.length := by have := runS_len l ((newS c22, newS c22), 0) l.length (Nat.le_refl _); rwa [List.take_length] at this
  obtain ⟨R, hR⟩ : ∃ R, R = runS l ((newS c22, newS c22), 0) := ⟨_, rfl⟩
  have HRR := Lib.hid hR
  rw [← hR] at hrlen
  unfold NewDuoS at HN
  clear hE hE9 hG hW hK hr hv hone hR
  go_enter Tryz.func7, Tryz.ntmps7
  go_wp2_with fail
  refine HWB.out.mono ?_
  rintro e w1 ⟨rfl, hb1⟩
  have HN1 := Lib.hid (HN.out w1 hb1)
  have HB1 := Lib.hid hb1
  clear hb1 HWB
  go_wp2_with fail
  refine HN1.out.mono ?_
  rintro e w2 ⟨x, rfl, hx2, hxL, hb2⟩
  have HM2 := Lib.hid (HM.out w2 x (below_two HB1.out hb2) hx2)
  clear hx2 hb2 hxL HN1 HB1 HN HM
  go_wp2_with fail
  refine HM2.out.mono ?_
  rintro e w4 ⟨dp, v, p0, q0, rfl, hP4⟩
  have HT4 := Lib.hid hP4
  have HR4 := Lib.hid (hlo.out w4 hP4.b)
  clear hP4 HM2 hlo
  go_wp2_with (first
    | (at_builtin
       go_must (refine wpList_append_any _ rfl (.tmp 21) (.tmp 22) _ rfl w4.heap.size 3 i0 _ 1 8 Tryz.underlying51 hi0 hz0 hz1 hz2 rfl (by omega) (.slice none 0 0) 0 [] rfl (World.ownsRow_nil _ _ _ _) _ A l.length ca (l.map intV) rfl HR4.out HOne.out (by simp only [maxLen]; omega) (by omega) (Nat.le_refl _) ?_)
       intro v1 w5 hown1 hg1 _
       rw [Nat.zero_add, List.nil_append] at hown1
       obtain ⟨A1, c1, hv1, _⟩ := own_slice hown1
       subst hv1
       have hb5 : Below w4.heap.size w4 w5 := ⟨hg1.os, hg1.tape, hg1.output, hg1.size, fun i hi => hg1.block i hi (by intro h; cases h)⟩
       have HT5 := Lib.hid (HT4.out.below hb5)
       have HR5 := Lib.hid (HRx.out w5 x _ dp v p0 q0 w4.heap.size A1 c1 _ HT5.out hown1 HT4.out.hx.z)
       rw [← HRR.out] at HR5
       clear hown1 hg1 hb5))
  clear HT4 HR4 HRx
  go_wp2_with fail
  refine HR5.out.mono ?_
  rintro e w6 ⟨A6, c6, n6, rfl, ho6, hT6⟩
  have HR6 := Lib.hid (HRr.out w6 x _ dp v p0 q0 _ _ A6 c6 _ R HRR hT6 ho6)
  clear ho6 hT6 HR5 HRr HT5
  go_wp2_with fail
  refine HR6.out.mono ?_
  rintro e w9 ⟨A9, c9, p, q, n9, rfl, ho6, ho9, hT9⟩
  have HSI : Hid (Calls Tryz.prog 22 #[.slice A6 l.length c6, .slice A9 l.length c9] w9 fun e w' => e = .returned (.bool true) ∧ ∃ m, w' = w9.drewN m) := Lib.hid (by
    have h := sameInts A6 A9 c6 c9 w9.heap.size R.1 R.1 w9 (by rw [hrlen]; exact Reads.of_own ho6) (by rw [hrlen]; exact Reads.of_own ho9) (by rw [hrlen]; unfold maxLen; omega) (by rw [hrlen]; unfold maxLen; omega)
    rw [hrlen] at h
    refine h.mono fun e w' ⟨a, b⟩ => ⟨?_, b⟩
    rw [a, decide_eq_true rfl])
  obtain ⟨g, cap, hcs⟩ := hT9.cells
  obtain ⟨V1, c1, hfv1, hz1', hrd1⟩ := rfs_form hT9.hr.x.f
  obtain ⟨V2, c2, hfv2, hz2', hrd2⟩ := rfs_form hT9.hr.y.f
  obtain ⟨rs1, hh1, hm1⟩ := hT9.hr.x.h
  obtain ⟨rs2, hh2, hm2⟩ := hT9.hr.y.h
  have HS11 : Hid (∀ w', Below w9.heap.size w9 w' → w'.cell? ⟨x.dp, 0, none⟩ = some (.pointer (some ⟨x.p.bp, 0, none⟩)) ∧ w'.cell? ⟨x.dp, 1, none⟩ = some (.pointer (some ⟨x.q.bp, 0, none⟩)) ∧ w'.cell? ⟨dp, 0, none⟩ = some (.slice (some ⟨g, 0, none⟩) 2 cap) ∧ w'.cell? ⟨g, 0, none⟩ = some (.pointer (some ⟨p.mb, 0, none⟩)) ∧ w'.cell? ⟨g, 1, none⟩ = some (.pointer (some ⟨q.mb, 0, none⟩)) ∧ w'.cell? ⟨p.mb, 4, none⟩ = some (.int .i64 (R.2.1.1.epoch : Int)) ∧ w'.cell? ⟨q.mb, 4, none⟩ = some (.int .i64 (R.2.1.2.epoch : Int)) ∧ w'.cell? ⟨p.mb, 1, none⟩ = some (.pointer (some ⟨p.mf, 0, none⟩)) ∧ w'.cell? ⟨q.mb, 1, none⟩ = some (.pointer (some ⟨q.mf, 0, none⟩)) ∧ w'.cell? ⟨p.mf, 2, none⟩ = some (.slice V1 R.2.1.1.fs.2.length c1) ∧ w'.cell? ⟨q.mf, 2, none⟩ = some (.slice V2 R.2.1.2.fs.2.length c2)) := Lib.hid fun w' hb => by
    have h := hcs w' hb
    have f0 := h.f0
    have f1 := h.f1
    rw [hfv1] at f0
    rw [hfv2] at f1
    exact ⟨h.a0, h.a1, h.l, h.g0, h.g1, h.p4, h.q4, h.p1, h.q1, f0, f1⟩
  have HS13 : Hid (∀ w', Below w9.heap.size w9 w' → w'.cell? ⟨x.dp, 0, none⟩ = some (.pointer (some ⟨x.p.bp, 0, none⟩)) ∧ w'.cell? ⟨x.dp, 1, none⟩ = some (.pointer (some ⟨x.q.bp, 0, none⟩)) ∧ w'.cell? ⟨x.p.bp, 0, none⟩ = some (.pointer (some ⟨x.p.hp, 0, none⟩)) ∧ w'.cell? ⟨x.q.bp, 0, none⟩ = some (.pointer (some ⟨x.q.hp, 0, none⟩)) ∧ w'.cell? ⟨dp, 0, none⟩ = some (.slice (some ⟨g, 0, none⟩) 2 cap) ∧ w'.cell? ⟨g, 0, none⟩ = some (.pointer (some ⟨p.mb, 0, none⟩)) ∧ w'.cell? ⟨g, 1, none⟩ = some (.pointer (some ⟨q.mb, 0, none⟩)) ∧ w'.cell? ⟨p.mb, 0, none⟩ = some (.pointer (some ⟨p.mh, 0, none⟩)) ∧ w'.cell? ⟨q.mb, 0, none⟩ = some (.pointer (some ⟨q.mh, 0, none⟩))) := Lib.hid fun w' hb => by
    have h := hcs w' hb
    exact ⟨h.a0, h.a1, h.h0, h.h1, h.l, h.g0, h.g1, h.p0, h.q0⟩
  have HE1 := Lib.hid (fun W' (hb : Below w9.heap.size w9 W') => epochB_any W' (hT9.hx.a.below hb).x.b)
  have HE2 := Lib.hid (fun W' (hb : Below w9.heap.size w9 W') => epochB_any W' (hT9.hx.a.below hb).y.b)
  have HF1 := Lib.hid (fun W' (hb : Below w9.heap.size w9 W') => flowsB_any W' (hT9.hx.a.below hb).x.b)
  have HF2 := Lib.hid (fun W' (hb : Below w9.heap.size w9 W') => flowsB_any W' (hT9.hx.a.below hb).y.b)
  have HL1 : Hid (R.2.1.1.fs.2.length ≤ 1000) := Lib.hid (by have := hT9.hx.a.x.b.f.len; omega)
  have HL2 : Hid (R.2.1.2.fs.2.length ≤ 1000) := Lib.hid (by have := hT9.hx.a.y.b.f.len; omega)
  have hl1 : R.2.1.1.st.length ≤ 12 := hT9.hr.x.len
  have hl2 : R.2.1.2.st.length ≤ 12 := hT9.hr.y.len
  have hu1 : (ups R.2.1.1.st).length ≤ 12 := by unfold ups; rw [List.length_map]; exact Nat.le_trans (List.length_filter_le _ _) hl1
  have hu2 : (ups R.2.1.2.st).length ≤ 12 := by unfold ups; rw [List.length_map]; exact Nat.le_trans (List.length_filter_le _ _) hl2
  have HU1 : Hid (∀ W', Below w9.heap.size w9 W' → Calls Tryz.prog 26 #[.pointer (some ⟨x.p.hp, 0, none⟩)] W' (TextsPost (ups R.2.1.1.st) W')) := Lib.hid fun W' hb => up_any W' (hT9.hx.a.below hb).x.b.h (by omega)
  have HU2 : Hid (∀ W', Below w9.heap.size w9 W' → Calls Tryz.prog 26 #[.pointer (some ⟨x.q.hp, 0, none⟩)] W' (TextsPost (ups R.2.1.2.st) W')) := Lib.hid fun W' hb => up_any W' (hT9.hx.a.below hb).y.b.h (by omega)
  have HV1 : Hid (∀ W', Below w9.heap.size w9 W' → Calls Tryz.prog 27 #[.pointer (some ⟨p.mh, 0, none⟩)] W' (TextsPost (ups R.2.1.1.st) W')) := Lib.hid fun W' hb => by
    have := refUps W' (hh1.below hb) (by have := hm1.le; have := hm1.len; omega)
    rw [← hm1.ups] at this
    exact this
  have HV2 : Hid (∀ W', Below w9.heap.size w9 W' → Calls Tryz.prog 27 #[.pointer (some ⟨q.mh, 0, none⟩)] W' (TextsPost (ups R.2.1.2.st) W')) := Lib.hid fun W' hb => by
    have := refUps W' (hh2.below hb) (by have := hm2.le; have := hm2.len; omega)
    rw [← hm2.ups] at this
    exact this
  have HBW := Lib.hid (fun W' (hb : Below w9.heap.size w9 W') => below_two hT9.b hb)
  unfold FlsPost at HF1 HF2
  unfold TextsPost at HU1 HU2 HV1 HV2
  have HRD1 := Lib.hid hrd1
  have HRD2 := Lib.hid hrd2
  have HZ1 := Lib.hid hz1'
  have HZ2 := Lib.hid hz2'
  have HUL1 := Lib.hid hu1
  have HUL2 := Lib.hid hu2
  clear hT9 ho6 ho9 hcs hfv1 hfv2 hrd1 hrd2 hz1' hz2' hh1 hm1 hh2 hm2 hl1 hl2 hu1 hu2 HR6 HRR HOne
  generalize R.2.1.1.fs.2 = L1 at *
  generalize R.2.1.2.fs.2 = L2 at *
  generalize R.2.1.1.epoch = E1 at *
  generalize R.2.1.2.epoch = E2 at *
  generalize ups R.2.1.1.st = U1 at *
  generalize ups R.2.1.2.st = U2 at *
  have HSF1 : Hid (∀ W' A1 k1 B, Below w9.heap.size w9 W' → W'.ownsRow B 43 3 (.slice A1 L1.length k1) L1.length (flsC L1) → Calls Tryz.prog 16 #[.slice A1 L1.length k1, .slice V1 L1.length c1] W' fun e w' => e = .returned (.bool true) ∧ ∃ m, w' = W'.drewN m) := Lib.hid fun W' A1 k1 B hb o1 =>
    sameFlows_yes A1 V1 k1 c1 _ _ L1 W' (Reads.of_own o1) (HRD1.out W' hb) (own_zeroR o1) HZ1.out HL1.out
  have HSF2 : Hid (∀ W' A1 k1 B, Below w9.heap.size w9 W' → W'.ownsRow B 43 3 (.slice A1 L2.length k1) L2.length (flsC L2) → Calls Tryz.prog 16 #[.slice A1 L2.length k1, .slice V2 L2.length c2] W' fun e w' => e = .returned (.bool true) ∧ ∃ m, w' = W'.drewN m) := Lib.hid fun W' A1 k1 B hb o1 =>
    sameFlows_yes A1 V2 k1 c2 _ _ L2 W' (Reads.of_own o1) (HRD2.out W' hb) (own_zeroR o1) HZ2.out HL2.out
  have HST : Hid (∀ (U : List ByteArray) W' A1 A2 k1 k2 B1 B2, U.length ≤ 12 → W'.ownsRow B1 9 1 (.slice A1 U.length k1) U.length (strV U) → W'.ownsRow B2 9 1 (.slice A2 U.length k2) U.length (strV U) → Calls Tryz.prog 25 #[.slice A1 U.length k1, .slice A2 U.length k2] W' fun e w' => e = .returned (.bool true) ∧ ∃ m, w' = W'.drewN m) := Lib.hid fun U W' A1 A2 k1 k2 B1 B2 hu o1 o2 =>
    sameTexts_yes A1 A2 k1 k2 W'.heap.size U W' (Reads.of_own o1) (Reads.of_own o2) (by unfold maxLen; omega)
  clear HRD1 HRD2 HZ1 HZ2 HL1 HL2
  go_wp2_with fail
  refine HSI.out.mono ?_
  rintro e wS ⟨rfl, mS, rfl⟩
  have hRef := bl_drew (below_drewN (Below.refl w9.heap.size w9) mS)
  clear HSI
  go_wp2_with fail
  simp only [List.append_eq, List.cons_append, List.nil_append]
  go_region_held3 (fun w' => w'.cell? ⟨x.dp, 0, none⟩ = some (.pointer (some ⟨x.p.bp, 0, none⟩)) ∧ w'.cell? ⟨x.dp, 1, none⟩ = some (.pointer (some ⟨x.q.bp, 0, none⟩)) ∧ w'.cell? ⟨dp, 0, none⟩ = some (.slice (some ⟨g, 0, none⟩) 2 cap) ∧ w'.cell? ⟨g, 0, none⟩ = some (.pointer (some ⟨p.mb, 0, none⟩)) ∧ w'.cell? ⟨g, 1, none⟩ = some (.pointer (some ⟨q.mb, 0, none⟩)) ∧ w'.cell? ⟨p.mb, 4, none⟩ = some (.int .i64 (E1 : Int)) ∧ w'.cell? ⟨q.mb, 4, none⟩ = some (.int .i64 (E2 : Int)) ∧ w'.cell? ⟨p.mb, 1, none⟩ = some (.pointer (some ⟨p.mf, 0, none⟩)) ∧ w'.cell? ⟨q.mb, 1, none⟩ = some (.pointer (some ⟨q.mf, 0, none⟩)) ∧ w'.cell? ⟨p.mf, 2, none⟩ = some (.slice V1 L1.length c1) ∧ w'.cell? ⟨q.mf, 2, none⟩ = some (.slice V2 L2.length c2))
    (first | exact HS11.out _ hbD | exact HS11.out _ hbC | exact HS11.out _ hbB | exact HS11.out _ hbA | exact HS11.out _ hRef | go_keep)
    (first
      | (go_at_call 17
         first
           | (refine (HE2.out _ hRef).mono ?_
              rintro e wq ⟨rfl, rfl⟩)
           | (refine (HE1.out _ hRef).mono ?_
              rintro e wq ⟨rfl, rfl⟩))
      | (go_at_call 15
         first
           | (refine (HF2.out _ hbB).mono ?_
              rintro e wC ⟨vC, rfl, oC, hbC'⟩
              obtain ⟨AC, cC, rfl, _⟩ := own_slice oC
              have hbC := below_two hbB hbC')
           | (refine (HF1.out _ hRef).mono ?_
              rintro e wA ⟨vA, rfl, oA, hbA'⟩
              obtain ⟨AA, cA, rfl, _⟩ := own_slice oA
              have hbA := below_two hRef hbA'))
      | (go_at_call 16
         first
           | (refine (HSF2.out _ _ _ _ hbC oC).mono ?_
              rintro e wD ⟨rfl, mD, rfl⟩
              have hbD := below_drewN hbC mD)
           | (refine (HSF1.out _ _ _ _ hbA oA).mono ?_
              rintro e wB ⟨rfl, mB, rfl⟩
              have hbB := below_drewN hbA mB)))
  all_goals
    have hbD1 := bl_drew hbD
    clear HS11 HE1 HE2 HF1 HF2 HSF1 HSF2 oA oC
    go_wp2_with fail
    go_region_held3 (fun w' => w'.cell? ⟨x.dp, 0, none⟩ = some (.pointer (some ⟨x.p.bp, 0, none⟩)) ∧ w'.cell? ⟨x.dp, 1, none⟩ = some (.pointer (some ⟨x.q.bp, 0, none⟩)) ∧ w'.cell? ⟨x.p.bp, 0, none⟩ = some (.pointer (some ⟨x.p.hp, 0, none⟩)) ∧ w'.cell? ⟨x.q.bp, 0, none⟩ = some (.pointer (some ⟨x.q.hp, 0, none⟩)) ∧ w'.cell? ⟨dp, 0, none⟩ = some (.slice (some ⟨g, 0, none⟩) 2 cap) ∧ w'.cell? ⟨g, 0, none⟩ = some (.pointer (some ⟨p.mb, 0, none⟩)) ∧ w'.cell? ⟨g, 1, none⟩ = some (.pointer (some ⟨q.mb, 0, none⟩)) ∧ w'.cell? ⟨p.mb, 0, none⟩ = some (.pointer (some ⟨p.mh, 0, none⟩)) ∧ w'.cell? ⟨q.mb, 0, none⟩ = some (.pointer (some ⟨q.mh, 0, none⟩)))
      (first | exact HS13.out _ hbJ | exact HS13.out _ hbI | exact HS13.out _ hbH | exact HS13.out _ hbG | exact HS13.out _ hbF | exact HS13.out _ hbE | exact HS13.out _ hbD1 | go_keep)
      (first
        | (go_at_call 26
           first
             | (refine (HU2.out _ hbG).mono ?_
                rintro e wH ⟨AH, cH, rfl, oH, hbH'⟩
                have hbH := below_two hbG hbH')
             | (refine (HU1.out _ hbD1).mono ?_
                rintro e wE ⟨AE, cE, rfl, oE, hbE'⟩
                have hbE := below_two hbD1 hbE'))
        | (go_at_call 27
           first
             | (refine (HV2.out _ hbH).mono ?_
                rintro e wI ⟨AI, cI, rfl, oI, hbI'⟩
                have oH2 := own_below oH hbI'
                have hbI := below_two hbH hbI')
             | (refine (HV1.out _ hbE).mono ?_
                rintro e wF ⟨AF, cF, rfl, oF, hbF'⟩
                have oE2 := own_below oE hbF'
                have hbF := below_two hbE hbF'))
        | (go_at_call 25
           first
             | (refine (HST.out U2 _ _ _ _ _ _ _ HUL2.out oH2 oI).mono ?_
                rintro e wJ ⟨rfl, mJ, rfl⟩
                have hbJ := below_drewN hbI mJ)
             | (refine (HST.out U1 _ _ _ _ _ _ _ HUL1.out oE2 oF).mono ?_
                rintro e wG ⟨rfl, mG, rfl⟩
                have hbG := below_drewN hbF mG)))
    all_goals
      have HBG := Lib.hid (HBW.out _ hbJ)
      go_wp2
      go_ret
      exact ⟨rfl, HBG.out⟩
theorem runs_any (ea : Nat → Addr) (A : Option Addr) (ca : Nat) (l : List Int) (w : World) (hE : ErrsB ea w) (hE9 : ErrsW ea w) (hG : HandleAt w) (hW : CarW w) (hK : ErrsK ea w)
    (hr : Reads w w.heap.size 1 A l.length (l.map intV)) (hlc : l.length ≤ ca) (hcm : ca ≤ maxLen) (wf : ∀ n ∈ l, (Lit.int .i64 n).wf = true) :
    Calls Tryz.prog 7 #[.slice A l.length ca] w (True1 w) := by
  by_cases h : 250 < l.length
  · exact runs_skip ea A ca l.length w hE hE9 hG hW hK (by omega) h
  · exact runs_walk ea A ca l w hE hE9 hG hW hK hr (fun z hz => (bounds_i64 (wf z hz)).2) (by omega)
end Go.Proofs.YteilefpjfbholaaGreatDoor
