/-
  Package play's New.
-/
import Derived.Test.YteilefpjfbholaaGreatDoorPlayOne
namespace Go.Proofs.YteilefpjfbholaaGreatDoor
open Go.RowKit

/-- Where a duo lies: from L on, ahead of H. -/
structure Span (L H dp lo hi lo2 hi2 : Nat) : Prop where
  d : L ≤ dp ∧ dp < H
  a : L ≤ lo ∧ hi ≤ H
  b : L ≤ lo2 ∧ hi2 ≤ H
section
variable {ea : Nat → Addr} {w W W' : World} {L H dp lo hi lo2 hi2 k now : Nat} {p q : BPl} {st : BS × BS} {bs : List Nat}
/-- What lies out of a duo's span turns. -/
theorem DuoAt.span (h : DuoAt ea w W dp lo hi lo2 hi2 p q k now st) (hS : Span L H dp lo hi lo2 hi2) (hE : ErrsB ea w) (ht : Turn bs W W') (hb : ∀ b ∈ bs, w.heap.size ≤ b ∧ (b < L ∨ H ≤ b)) : DuoAt ea w W' dp lo hi lo2 hi2 p q k now st :=
  h.far hE ht fun b hm => by
    obtain ⟨h1, h2⟩ := hb b hm
    have hd := hS.d
    have ha := hS.a
    have hb := hS.b
    refine ⟨h1, fun hp => ?_, fun hp => ?_, ?_⟩
    · have := h.x.b.allLo b hp
      have := h.x.hi b hp
      omega
    · have := h.y.b.allLo b hp
      have := h.y.hi b hp
      omega
    · omega
theorem DuoAt.bsIn (h : DuoAt ea w W dp lo hi lo2 hi2 p q k now st) (hS : Span L H dp lo hi lo2 hi2) : ∀ b ∈ p.bs ++ q.bs, L ≤ b ∧ b < H := by
  intro b hb
  have ha := hS.a
  have hb' := hS.b
  rcases List.mem_append.1 hb with hb | hb
  · have := h.x.b.allLo b (p.bs_all b hb)
    have := h.x.hi b (p.bs_all b hb)
    omega
  · have := h.y.b.allLo b (q.bs_all b hb)
    have := h.y.hi b (q.bs_all b hb)
    omega
def NewDuo (ea : Nat → Addr) (w W : World) (e : Ending) (w' : World) : Prop :=
  ∃ dp lo hi lo2 hi2 p q, e = .returned (.pointer (some ⟨dp, 0, none⟩)) ∧ DuoAt ea w w' dp lo hi lo2 hi2 p q 0 0 (newS c22, newS c22) ∧ Span W.heap.size w'.heap.size dp lo hi lo2 hi2 ∧ Below W.heap.size W w'
def HostsTx (W : World) (e : Ending) (w' : World) : Prop := e = .returned (.slice (some ⟨W.heap.size, 0, none⟩) 4 4) ∧ TxIn w' (some ⟨W.heap.size, 0, none⟩) 4 c22.hosts ∧ Below W.heap.size W w'
theorem hostsTx (W : World) : Calls Tryz.prog 55 #[] W (HostsTx W) :=
  (playHosts_any W).mono fun e w' ⟨a, b⟩ => ⟨a, by rw [b]; exact txIn_lit (l := c22.hosts) (by decide) (by decide +kernel), by rw [b]; exact (Below.refl _ _).alloc (Nat.le_refl _) _⟩
set_option maxRecDepth 100000 in
set_option maxHeartbeats 2000000 in
theorem playNew_any (hE0 : ErrsB ea w) (hw : Below w.heap.size w W) : Calls Tryz.prog 20 #[] W (NewDuo ea w W) := by
  have hbN := (Below.refl W.heap.size W).alloc (Nat.le_refl _) (.cells #[.pointer none, .pointer none] 57)
  have hXN := Blk.new W 57 #[.pointer none, .pointer none]
  obtain ⟨W0, hW0⟩ : ∃ W0, W0 = W.alloc (.cells #[.pointer none, .pointer none] 57) := ⟨_, rfl⟩
  rw [← hW0] at hbN hXN
  have HH := Lib.hid hostsTx
  have HE := Lib.hid hE0
  have HN : Hid (∀ W' A, Below w.heap.size w W' → TxIn W' A 4 c22.hosts → Calls Tryz.prog 10 #[.slice A 4 4, .int .i64 31, .int .i64 20, .int .i64 2, .int .i64 2] W' (NewAs ea w c22 W')) := Lib.hid fun W' A h1 h2 => bn_new (c := c22) (hE0.below h1) h1 h2 ok_22
  have HX0 := Lib.hid hXN
  have HB0 := Lib.hid hbN
  have HW := Lib.hid hw
  unfold NewAs at HN
  unfold HostsTx at HH
  clear hE0 hw hbN hXN
  go_enter Tryz.func20, Tryz.ntmps20
  go_wp2_with fail
  rw [← hW0]
  clear hW0
  refine (HH.out _).mono ?_
  rintro e w2 ⟨rfl, hT2, hb2⟩
  have HN2 := Lib.hid (HN.out w2 _ (below_two (below_two HW.out HB0.out) hb2) hT2)
  have HX2 := Lib.hid (HX0.out.below hb2 HX0.out.lt)
  have HB2 := Lib.hid (below_two HB0.out hb2)
  have HS2 := Lib.hid hb2.size
  clear hT2 hb2
  go_wp2_with fail
  refine HN2.out.mono ?_
  rintro e w3 ⟨p, rfl, hB3, hb3⟩
  have hX3 := HX2.out.below hb3 HX2.out.lt
  have hlt2 := HX2.out.lt
  have c0 : w3.cell? ⟨W.heap.size, 0, none⟩ = some (.pointer none) := hX3.cell 0
  have f0 := hX3.frozen 0
  have ht3 : Turn [W.heap.size] w3 (w3.setCell ⟨W.heap.size, 0, none⟩ (.pointer (some ⟨p.bp, 0, none⟩))) := (Turn.refl _ w3).setCell (p := ⟨W.heap.size, 0, none⟩) (.inl (by simp)) _
  have hf3 : ∀ b ∈ [W.heap.size], w.heap.size ≤ b ∧ b ∉ p.all := fun b hb => by
    rw [List.mem_singleton] at hb
    subst hb
    exact ⟨HW.out.size, fun hm => by have := hB3.b.allLo _ hm; omega⟩
  have HB4 := Lib.hid (hB3.far HE.out ht3 hf3)
  have HX4 := Lib.hid (hX3.set_ 0 (.pointer (some ⟨p.bp, 0, none⟩)))
  have HBW4 : Hid (Below W.heap.size W (w3.setCell ⟨W.heap.size, 0, none⟩ (.pointer (some ⟨p.bp, 0, none⟩)))) := Lib.hid ((below_two HB2.out hb3).trans (ht3.below (below_two HB2.out hb3).size fun b hb => by rw [List.mem_singleton] at hb; omega))
  have HI4 : Hid ((W.heap.size < w2.heap.size ∧ w2.heap.size ≤ w3.heap.size) ∧ w3.heap.size ≤ (w3.setCell ⟨W.heap.size, 0, none⟩ (.pointer (some ⟨p.bp, 0, none⟩))).heap.size) := Lib.hid ⟨⟨hlt2, hb3.size⟩, ht3.size⟩
  clear hB3 hb3 hX3 ht3 hf3 HN2 HX2 HB2 HX0 HB0 hlt2
  go_wp2_with fail
  generalize w3.setCell ⟨W.heap.size, 0, none⟩ (.pointer (some ⟨p.bp, 0, none⟩)) = w4 at *
  clear c0 f0
  refine (HH.out _).mono ?_
  rintro e w5 ⟨rfl, hT5, hb5⟩
  have HN5 := Lib.hid (HN.out w5 _ (below_two HB4.out.w hb5) hT5)
  have HX5 := Lib.hid (HX4.out.below hb5 HX4.out.lt)
  have HP5 := Lib.hid (HB4.out.below hb5)
  have HBW5 := Lib.hid (below_two HBW4.out hb5)
  have HI5 : Hid ((W.heap.size < w2.heap.size ∧ w2.heap.size ≤ w3.heap.size) ∧ w3.heap.size ≤ w5.heap.size) := Lib.hid ⟨HI4.out.1, Nat.le_trans HI4.out.2 hb5.size⟩
  clear hT5 hb5 HX4 HB4 HBW4 HI4
  go_wp2_with fail
  refine HN5.out.mono ?_
  rintro e w6 ⟨q, rfl, hB6, hb6⟩
  have hX6 := HX5.out.below hb6 HX5.out.lt
  have c1 : w6.cell? ⟨W.heap.size, 1, none⟩ = some (.pointer none) := by rw [hX6.cell 1]; rfl
  have f1 := hX6.frozen 1
  have hi5 := HI5.out
  have ht6 : Turn [W.heap.size] w6 (w6.setCell ⟨W.heap.size, 1, none⟩ (.pointer (some ⟨q.bp, 0, none⟩))) := (Turn.refl _ w6).setCell (p := ⟨W.heap.size, 1, none⟩) (.inl (by simp)) _
  have hP6 := HP5.out.below hb6
  have hap : Apart q p := hP6.apart hB6 (by omega)
  have HFin : Hid (NewDuo ea w W (.returned (.pointer (some ⟨W.heap.size, 0, none⟩))) (w6.setCell ⟨W.heap.size, 1, none⟩ (.pointer (some ⟨q.bp, 0, none⟩)))) := Lib.hid (by
    have hB7 := hB6.far HE.out ht6 fun b hb => by
      rw [List.mem_singleton] at hb
      subst hb
      exact ⟨HW.out.size, fun hm => by have := hB6.b.allLo _ hm; omega⟩
    have hP7 := hP6.far HE.out ht6 fun b hb => by
      rw [List.mem_singleton] at hb
      subst hb
      exact ⟨HW.out.size, fun hm => by have := hP6.b.allLo _ hm; omega⟩
    have hb7 := below_two HBW5.out hb6
    have hs6 := hb6.size
    have hs7 := ht6.size
    exact ⟨_, _, _, _, _, p, q, rfl, ⟨hP7, hB7, hap, hX6.set_ 1 _, BInv.new, BInv.new⟩, ⟨⟨Nat.le_refl _, by omega⟩, ⟨by omega, by omega⟩, ⟨by omega, by omega⟩⟩, hb7.trans (ht6.below hb7.size fun b hb => by rw [List.mem_singleton] at hb; omega)⟩)
  clear hB6 hb6 hX6 ht6 hP6 hap HN5 HX5 HP5 HBW5 HI5 hi5
  go_wp2_with fail
  go_ret
  exact HFin.out
end
end Go.Proofs.YteilefpjfbholaaGreatDoor
