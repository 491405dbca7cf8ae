/-
  The walk of health.New.
-/
import Derived.Test.YtnmkdmehljkedaaGreatDoorLook
namespace Go.Proofs.YtnmkdmehljkedaaGreatDoor
open Go.RowKit

theorem info_state : (Tryz.prog.info? 61).map (fun i => (i.zero, i.size, i.bytes)) = some (some (.pointer none), 1, 8) := by kernel_rfl
def fresh (l : List ByteArray) : List St := l.map fun s => ⟨s, true, 0⟩

/-- The world ahead of the append: the new state's block, the one-element row. -/
def pushW (w : World) (s : St) : World := (w.alloc (.cells (stCells s) 63)).alloc (.cells #[ptr w.heap.size] 61)
theorem pushW_new (w : World) (s : St) : Blk (pushW w s) w.heap.size 63 (stCells s) := (Blk.new w _ _).alloc _
theorem pushW_below (w : World) (s : St) : Below w.heap.size w (pushW w s) := ((Below.refl _ _).alloc (Nat.le_refl _) _).alloc (by simp) _
theorem HealthR.push {w w1 : World} {B hp fall rise : Nat} {st : List St} {sv v : Value} {ps : List Nat} {s : St} (h : HealthR w B hp fall rise st sv ps) (hB : B ≤ w.heap.size)
    (hg : (pushW w s).grownBy w1 sv.ownBlock) (ho : w1.ownsRow B 61 1 v (st.length + 1) (ps.map ptr ++ [ptr w.heap.size])) :
    HealthR (w1.setCell ⟨hp, 2, none⟩ v) B hp fall rise (st ++ [s]) v (ps ++ [w.heap.size]) := by
  have h1 := h.below (pushW_below w s)
  have hpn : some hp ≠ sv.ownBlock := fun e => own_blk_ne h1.own h1.blk (by decide) e.symm
  have hb1 : Blk w1 hp 60 _ := h1.blk.grown hg hpn
  have hst : ∀ (p : Nat) (x : St), Blk (pushW w s) p 63 (stCells x) → Blk (w1.setCell ⟨hp, 2, none⟩ v) p 63 (stCells x) := fun p x hx =>
    (hx.grown hg (fun e => own_blk_ne h1.own hx (by decide) e.symm)).far (p := ⟨hp, 2, none⟩) (Blk.ne_ (hx.grown hg (fun e => own_blk_ne h1.own hx (by decide) e.symm)) hb1 (by decide)) v
  refine ⟨hb1.set_ 2 v, ?_, by simp [h.len], fun i p x hi hx => ?_, ?_, h.base.1, fun p hp' => ?_⟩
  · rw [List.length_append, List.map_append]
    exact ho.kept (only_setCell (p := ⟨hp, 2, none⟩) (only_refl w1 (some hp)) (.inl rfl) v) (.inr (own_blk_ne ho hb1 (by decide)))
  · by_cases hlt : i < ps.length
    · rw [List.getElem?_append_left hlt] at hi
      rw [List.getElem?_append_left (by rw [← h.len]; exact hlt)] at hx
      exact hst p x (h1.at_ i p x hi hx)
    · have hi2 : i = ps.length := by
        have : i < (ps ++ [w.heap.size]).length := by
          rcases Nat.lt_or_ge i (ps ++ [w.heap.size]).length with h' | h'
          · exact h'
          · rw [List.getElem?_eq_none h'] at hi; cases hi
        simp at this; omega
      subst hi2
      rw [List.getElem?_append_right (Nat.le_refl _)] at hi
      rw [h.len, List.getElem?_append_right (Nat.le_refl _)] at hx
      simp at hi hx
      subst hi; subst hx
      exact hst _ _ (pushW_new w s)
  · rw [List.nodup_append]
    refine ⟨h.nodup, by simp, fun a ha b hb => ?_⟩
    have := h.lt a ha
    simp at hb
    omega
  · rcases List.mem_append.1 hp' with h' | h'
    · exact h.base.2 p h'
    · simp at h'; omega
theorem push_cell (w : World) (s : St) : ∀ (j : Nat) (u : Value), [Value.pointer (some ⟨w.heap.size, 0, none⟩)][j]? = some u → (pushW w s).cell? ((⟨w.heap.size + 1, 0, none⟩ : Addr).add j) = some u := by
  have h := cell_one_new (w.alloc (.cells (stCells s) 63)) (ptr w.heap.size) 61
  have e : (w.alloc (.cells (stCells s) 63)).heap.size = w.heap.size + 1 := by simp
  rw [e] at h
  exact h
theorem push_blk {w w1 : World} {B hp fall rise : Nat} {st : List St} {sv : Value} {ps : List Nat} {s : St} (h : HealthR w B hp fall rise st sv ps)
    (hg : (pushW w s).grownBy w1 sv.ownBlock) : Blk w1 hp 60 #[.int .i64 (fall : Int), .int .i64 (rise : Int), sv] :=
  (h.below (pushW_below w s)).blk.grown hg (fun e => own_blk_ne (h.below (pushW_below w s)).own (h.below (pushW_below w s)).blk (by decide) e.symm)
theorem push_final {w wr w3 : World} {s : St} {hp n : Nat} {sv v : Value} {xs : List Value} (hb : Below w.heap.size w wr) (hown : (pushW wr s).ownsRow w.heap.size 61 1 sv n xs) (hg : (pushW wr s).grownBy w3 sv.ownBlock) (hhp : w.heap.size ≤ hp) :
    Below w.heap.size w (w3.setCell ⟨hp, 2, none⟩ v) :=
  ((hb.trans ((pushW_below wr s).mono hb.size)).grown hg (Nat.le_trans hb.size (pushW_below wr s).size) fun k hk => (hown.lt k hk).1).setCell (p := ⟨hp, 2, none⟩) hhp v
theorem fresh_take {l : List ByteArray} {k : Nat} (hk : k < l.length) : fresh (l.take (k + 1)) = fresh (l.take k) ++ [⟨l[k], true, 0⟩] := by
  unfold fresh; rw [List.take_succ_eq_append_getElem hk, List.map_append]; rfl
theorem fresh_length (l : List ByteArray) (k : Nat) (hk : k ≤ l.length) : (fresh (l.take k)).length = k := by simp [fresh]; omega

set_option maxRecDepth 100000 in
set_option maxHeartbeats 1000000 in
theorem new_ok (ea : Nat → Addr) (A : Option Addr) (c B : Nat) (l : List ByteArray) (fall rise : Nat) (w : World) (hE : Errs3 ea w) (hr : Reads w B 1 A l.length (strV l)) (hB : B ≤ w.heap.size) (hlc : l.length ≤ c) (hl : l.length ≤ maxLen) (hs : ∀ s ∈ l, s.size ≤ maxLen)
    (hf : hostsFault l = none) (hl12 : l.length ≤ 12) (h1 : 1 ≤ fall) (h2 : fall ≤ 10) (h3 : 1 ≤ rise) (h4 : rise ≤ 10) :
    Calls Tryz.prog 11 #[.slice A l.length c, .int .i64 (fall : Int), .int .i64 (rise : Int)] w fun e w' =>
      ∃ hp sv ps, e = .returned (.tuple #[ptr hp, .nilIface]) ∧ HealthR w' w.heap.size hp fall rise (fresh l) sv ps ∧ Below w.heap.size w w' := by
  have HC : Hid (Calls Tryz.prog 22 #[.slice A l.length c] w fun e w' => e = .returned .nilIface ∧ Below w.heap.size w w') := Lib.hid ((check_any ea A c B l w hE hr hB hlc hl hs).mono fun e w' h => by
    unfold CheckPost at h; rw [hf] at h; exact h)
  have b1 : decide ((fall : Int) < 1) = false := by simp; omega
  have b2 : decide ((fall : Int) > 10) = false := by simp; omega
  have b3 : decide ((rise : Int) < 1) = false := by simp; omega
  have b4 : decide ((rise : Int) > 10) = false := by simp; omega
  clear hE hf h1 h2 h3 h4
  unfold maxLen at hl
  obtain ⟨i0, hi, hz0, hz1, hz2⟩ := info_parts info_state
  go_enter Tryz.func11, Tryz.ntmps11
  go_wp2_with fail
  refine HC.out.mono ?_
  rintro e w1 ⟨rfl, hb1⟩
  go_wp2_with fail
  go_loopw [11, 38] (fun _ iv wr => ∃ (k : Nat) (sv : Value) (ps : List Nat), k ≤ l.length ∧ iv = .int .i64 (k : Int) ∧ HealthR wr w.heap.size w1.heap.size fall rise (fresh (l.take k)) sv ps ∧ Below w.heap.size w wr) (fun _ iv _ => l.length - (intOf iv).toNat)
  case atStart => exact ⟨0, .slice none 0 0, [], Nat.zero_le _, rfl, ⟨Blk.new _ _ _, ⟨rfl, .inl ⟨rfl, rfl⟩⟩, rfl, fun i p s h => by simp at h, List.nodup_nil, hb1.size, fun p hp => by cases hp⟩, hb1.alloc hb1.size _⟩
  case round =>
    obtain ⟨k, sv, ps, hk, rfl, hH, hb⟩ := hrel
    by_cases hlt : k < l.length
    · have hrr : Reads wr B 1 A l.length (strV l) := hr.keep fun p hp => hb.cell (by omega)
      obtain ⟨ad, rfl, hc⟩ := str_at hrr hlt
      have hlt2 : (k : Int) < l.length := by omega
      have hhl := hH.blk.lt
      have c2 : wr.cell? ⟨w1.heap.size, 2, none⟩ = some sv := hH.blk.cell 2
      have hfl := fresh_length l k hk
      have hown := own_below hH.own (pushW_below wr ⟨l[k], true, 0⟩)
      rw [hfl] at hown
      obtain ⟨Av, cv, hsv, _⟩ := own_slice hown
      subst hsv
      have HH := Lib.hid hH
      have HK := Lib.hid hfl
      clear hH hfl
      go_wp2_with (at_builtin
                   refine wpList_append_own _ rfl _ _ 58 rfl w.heap.size 61 i0 (.pointer none) 1 8 Tryz.underlying58 hi hz0 hz1 hz2 rfl (by decide) _ _ _ rfl hown ⟨wr.heap.size + 1, 0, none⟩ 1 1 [.pointer (some ⟨wr.heap.size, 0, none⟩)] rfl rfl (push_cell wr ⟨l[k], true, 0⟩) (by simp [Value.oneCell']) (by simp only [maxLen]; omega) (by omega) (by have := hb.size; simp; omega) ?_
                   intro v' w3 hown3 hgrow _
                   have hb3 := push_blk (s := ⟨l[k], true, 0⟩) HH.out hgrow
                   have cc := hb3.cell 2
                   have cf := hb3.frozen 2
                   obtain ⟨A3, cap3, hv3, _⟩ := own_slice hown3
                   rw [hv3]
                   rw [hv3] at hown3
                   clear hb3 hv3)
      go_roundw
      case rel =>
        have hpu := HH.out.push (s := ⟨l[k], true, 0⟩) (v := .slice A3 (k + 1) cap3) hb.size hgrow (by rw [HK.out]; exact hown3)
        exact ⟨k + 1, _, _, by omega, by go_num, by rw [fresh_take hlt]; exact hpu, push_final (s := ⟨l[k], true, 0⟩) hb hown hgrow hb1.size⟩
      case measure => simp [intOf]; omega
    · have hge : (l.length : Int) ≤ k := by omega
      have HH := Lib.hid hH
      clear hH
      go_wp2
      go_ret2
      have hfin := HH.out
      rw [List.take_of_length_le (by omega)] at hfin
      exact ⟨w1.heap.size, sv, ps, rfl, hfin, hb⟩
end Go.Proofs.YtnmkdmehljkedaaGreatDoor
