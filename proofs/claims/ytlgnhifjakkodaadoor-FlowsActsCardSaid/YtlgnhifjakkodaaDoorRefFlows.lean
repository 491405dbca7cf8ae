/-
  The reference's flows in memory; the walks of TickError, find, drop.
-/
import Derived.Test.YtlgnhifjakkodaaDoorFlowDrop
namespace Go.Proofs.YtlgnhifjakkodaaDoor
open Go.RowKit

/-- The reference's flows: their block mp, the slice sv. -/
structure RFs (w : World) (B mp time last : Nat) (L : List Fl) (sv : Value) : Prop where
  blk : Blk w mp 45 #[.int .i64 (time : Int), .int .i64 (last : Int), sv]
  row : w.ownsRow B 37 3 sv L.length (flsC L)
  len : L.length ≤ 200
  base : B ≤ mp
def NotRow (w : World) (g : Nat) : Prop := ∀ cs fz, w.heap[g]? ≠ some (.cells cs 37 fz)
section
variable {w w' : World} {B mp time last : Nat} {L : List Fl} {sv : Value}
theorem RFs.turn {bs : List Nat} (h : RFs w B mp time last L sv) (ht : Turn bs w w') (h1 : mp ∉ bs) (h2 : ∀ g ∈ bs, NotRow w g) : RFs w' B mp time last L sv :=
  ⟨ht.blk h.blk h1, ht.own h.row (fun g hg hm => by
    rcases h.row.2 with ⟨rfl, _⟩ | ⟨g', cap, cur, rfl, _, hh, _⟩
    · simp [Value.ownBlock] at hg
    · have : g' = g := by simpa [Value.ownBlock] using hg
      subst this
      exact h2 g' hm _ _ hh), h.len, h.base⟩
theorem RFs.below (h : RFs w B mp time last L sv) (hb : Below w.heap.size w w') : RFs w' B mp time last L sv := h.turn (Turn.of_below (bs := []) hb) (by simp) (by simp)
theorem RFs.form (h : RFs w B mp time last L sv) : ∃ A cap, sv = .slice A L.length cap ∧ Reads w w.heap.size 3 A L.length (flsC L) ∧ L.length ≤ cap := by
  obtain ⟨A, cap, hv, hr, hc, _⟩ := own_slice h.row
  exact ⟨A, cap, hv, hr, hc⟩
end
theorem ref_tick {B mp time last : Nat} {L : List Fl} {sv : Value} (now : Int) (w : World) (h : RFs w B mp time last L sv) : Calls Tryd.prog 34 #[.pointer (some ⟨mp, 0, none⟩), .int .i64 now] w fun e w' => e = .returned (.int .i64 (tickE last now : Int)) ∧ w = w' := by
  have c1 : w.cell? ⟨mp, 1, none⟩ = some (.int .i64 (last : Int)) := h.blk.cell 1
  have hw : (tickE last now = 2 ∧ decide (now < 0) = true) ∨ (tickE last now = 2 ∧ decide (now < 0) = false ∧ decide (now > 1099511627776) = true) ∨ (tickE last now = 8 ∧ decide (now < 0) = false ∧ decide (now > 1099511627776) = false ∧ decide (now < (last : Int)) = true) ∨ (tickE last now = 0 ∧ decide (now < 0) = false ∧ decide (now > 1099511627776) = false ∧ decide (now < (last : Int)) = false) := by
    unfold tickE
    simp only [decide_eq_true_eq, decide_eq_false_iff_not]
    by_cases h1 : now < 0 ∨ 1099511627776 < now
    · rw [if_pos h1]; omega
    · rw [if_neg h1]
      by_cases h2 : now < last
      · rw [if_pos h2]; omega
      · rw [if_neg h2]; omega
  generalize tickE last now = te at *
  clear h
  rcases hw with ⟨rfl, t1⟩ | ⟨rfl, t1, t2⟩ | ⟨rfl, t1, t2, t3⟩ | ⟨rfl, t1, t2, t3⟩
  all_goals
    go_enter Tryd.func34, Tryd.ntmps34
    go_wp2
    go_ret
    exact ⟨rfl, rfl⟩
/-- Where a key is. -/
def posF (L : List Fl) (k : Nat) : Int := match L.findIdx? fun x => decide (x.key = k) with | some i => (i : Int) | none => -1
theorem posF_hit {L : List Fl} {k i : Nat} (hi : i < L.length) (h : L[i].key = k) (hall : ∀ j (hj : j < L.length), j < i → L[j].key ≠ k) : posF L k = (i : Int) := by
  unfold posF
  have : (L.findIdx? fun x => decide (x.key = k)) = some i := by
    rw [List.findIdx?_eq_some_iff_getElem]
    exact ⟨hi, by simpa using h, fun j hj => by simpa using hall j (by omega) hj⟩
  rw [this]
theorem posF_miss {L : List Fl} {k : Nat} (hall : ∀ x ∈ L, x.key ≠ k) : posF L k = -1 := by
  unfold posF
  have : (L.findIdx? fun x => decide (x.key = k)) = none := by
    rw [List.findIdx?_eq_none_iff]
    intro x hx
    simpa using hall x hx
  rw [this]
theorem flCells_at {w : World} {A : Option Addr} {L : List Fl} {B k : Nat} (h : Reads w B 3 A L.length (flsC L)) (hk : k < L.length) : ∃ ad, A = some ad ∧ ad.block < B ∧ w.cell? (ad.add (k * 3)) = some (.int .u64 (L[k].key : Int)) := by
  obtain ⟨ad, h1, h2, h3, _⟩ := flReads_at h hk
  exact ⟨ad, h1, h2, h3⟩
set_option maxHeartbeats 1000000 in
theorem ref_find {B mp time last : Nat} {L : List Fl} {sv : Value} (k : Nat) (w : World) (h : RFs w B mp time last L sv) : Calls Tryd.prog 36 #[.pointer (some ⟨mp, 0, none⟩), .int .u64 (k : Int)] w fun e w' => e = .returned (.int .i64 (posF L k)) ∧ w = w' := by
  obtain ⟨A, cap, rfl, _, hcap⟩ := h.form
  have c2 : w.cell? ⟨mp, 2, none⟩ = some (.slice A L.length cap) := h.blk.cell 2
  have hl := h.len
  have HRow := Lib.hid h.row
  clear h
  go_enter Tryd.func36, Tryd.ntmps36
  go_wp2_with fail
  go_loop [5] (fun iv => ∃ i : Nat, i ≤ L.length ∧ iv = .int .i64 (i : Int) ∧ Hid (∀ j (hj : j < L.length), j < i → L[j].key ≠ k)) (fun iv => L.length - (intOf iv).toNat)
  case atStart => exact ⟨0, Nat.zero_le _, rfl, Lib.hid fun j _ h => absurd h (by omega)⟩
  case round =>
    obtain ⟨i, hi, rfl, hall⟩ := hrel
    by_cases hlt : i < L.length
    · have hlt2 : (i : Int) < L.length := by omega
      obtain ⟨g, cap', hv, _, _⟩ := HRow.out.form (by omega)
      injection hv with hA
      subst hA
      obtain ⟨a0, _, _⟩ := cells3_of HRow.out hlt
      by_cases he : L[i].key = k
      · have HP := Lib.hid (posF_hit hlt he hall.out)
        rw [he] at a0
        have q1 : ((k : Int) == (k : Int)) = true := by simp
        clear he hall
        go_wp2
        go_ret
        exact ⟨by rw [HP.out]; rfl, rfl⟩
      · have q1 : ((L[i].key : Int) == (k : Int)) = false := by simp; omega
        have HA : Hid (∀ j (hj : j < L.length), j < i + 1 → L[j].key ≠ k) := Lib.hid fun j hj h => by
          rcases Nat.lt_succ_iff_lt_or_eq.1 h with h1 | rfl
          · exact hall.out j hj h1
          · exact he
        clear he hall
        generalize L[i].key = y at *
        go_wp2
        go_round
        case rel => exact ⟨i + 1, by omega, by go_num, HA⟩
        case measure => simp [intOf]; omega
    · obtain rfl : i = L.length := by omega
      have hge : ¬ (L.length : Int) < L.length := by omega
      have HP := Lib.hid (posF_miss (k := k) fun x hx => by
        obtain ⟨j, hj, rfl⟩ := List.getElem_of_mem hx
        exact hall.out j hj hj)
      clear hall
      go_wp2
      go_ret
      exact ⟨by rw [HP.out]; rfl, rfl⟩
theorem turn_app {w w1 w2 : World} {e : TypeId} {size n : Nat} {v : Value} {xs : List Value} (ht : Turn [] w w1) (ho : w1.ownsRow w.heap.size e size v n xs) (hg : w1.grownBy w2 v.ownBlock) : Turn [] w w2 := by
  cases hv : v.ownBlock with
  | none =>
    rw [hv] at hg
    exact ht.then (Turn.of_grown hg fun g e => by cases e)
  | some g =>
    rw [hv] at hg
    exact ht.trans (Turn.of_grown (bs := [g]) hg fun j e => by cases e; simp) fun c hc => by
      rw [List.mem_singleton] at hc
      subst hc
      exact .inr (ho.lt c hv).1
theorem turn_app1 {w w1 w2 : World} {o : Obj} {e : TypeId} {size n : Nat} {v : Value} {xs : List Value} (ht : Turn [] w w1) (ho : w1.ownsRow w.heap.size e size v n xs) (hg : (w1.alloc o).grownBy w2 v.ownBlock) : Turn [] w w2 := turn_app (ht.alloc o) (ho.alloc o) hg
theorem RFs.set {w w2 : World} {B mp time last : Nat} {L L' : List Fl} {sv v2 : Value} (h : RFs w B mp time last L sv) (ht : Turn [] w w2) (ho : w2.ownsRow w.heap.size 37 3 v2 L'.length (flsC L')) (hl : L'.length ≤ 200) (hB : B ≤ w.heap.size) :
    (RFs (w2.setCell ⟨mp, 2, none⟩ v2) B mp time last L' v2 ∧ Turn [mp] w (w2.setCell ⟨mp, 2, none⟩ v2)) ∧ Blk w2 mp 45 #[.int .i64 (time : Int), .int .i64 (last : Int), sv] := by
  have hb := ht.blk h.blk (by simp)
  have hmp := h.blk.lt
  have hne : ∀ g, v2.ownBlock = some g → g ∉ [mp] := fun g hg hm => by
    rw [List.mem_singleton] at hm
    have := (ho.lt g hg).1
    omega
  have hT : Turn [mp] w2 (w2.setCell ⟨mp, 2, none⟩ v2) := (Turn.refl [mp] w2).setCell (p := ⟨mp, 2, none⟩) (.inl (by simp)) v2
  exact ⟨⟨⟨hb.set_ 2 v2, own_base (hT.own ho hne) hB, hl, h.base⟩, (ht.more (by simp)).then hT⟩, hb⟩
def RefDrop (B mp time last : Nat) (L' : List Fl) (w : World) (e : Ending) (w' : World) : Prop := e = .returned (.tuple #[]) ∧ ∃ sv', RFs w' B mp time last L' sv' ∧ Turn [mp] w w'
theorem erase_flsC {L : List Fl} {k : Nat} : flsC (L.eraseIdx k) = (flsC L).take (k * 3) ++ (flsC L).drop ((k + 1) * 3) := by
  rw [List.eraseIdx_eq_take_drop_succ, flsC_append, flsC_take, flsC_drop]
set_option maxRecDepth 100000 in
set_option maxHeartbeats 2000000 in
theorem ref_drop {B mp time last k : Nat} {L : List Fl} {sv : Value} (w : World) (h : RFs w B mp time last L sv) (hB : B ≤ w.heap.size) (hk : k < L.length) :
    Calls Tryd.prog 37 #[.pointer (some ⟨mp, 0, none⟩), .int .i64 (k : Int)] w (RefDrop B mp time last (L.eraseIdx k) w) := by
  obtain ⟨i0, hi0, hz0, hz1, hz2⟩ := info_parts info_flow
  have hln := h.len
  obtain ⟨g, cap, hsv, _, hgl⟩ := h.row.form (by omega)
  subst hsv
  obtain ⟨_, _, hcap, _⟩ := own_open h.row
  have hc2 : w.cell? ⟨mp, 2, none⟩ = some (.slice (some ⟨g, 0, none⟩) L.length cap) := h.blk.cell 2
  have hr1 : Reads w w.heap.size 3 (some ⟨g, 0, none⟩) k ((flsC L).take (k * 3)) := by
    have hr := Reads.of_own h.row
    refine ⟨by rw [List.length_take, flsC_length]; omega, fun _ => ?_⟩
    obtain ⟨ad, ha, hb, hc⟩ := hr.2 (by omega)
    refine ⟨ad, ha, hb, fun j u hu => hc j u ?_⟩
    rw [List.getElem?_take] at hu
    split at hu
    · exact hu
    · cases hu
  have HN1 := Lib.hid (fun u (hu : u ∈ (flsC L).take (k * 3)) => flsC_one L u (List.mem_of_mem_take hu))
  have HN2 := Lib.hid (fun u (hu : u ∈ (flsC L).drop ((k + 1) * 3)) => flsC_one L u (List.mem_of_mem_drop hu))
  have HR1 := Lib.hid hr1
  have HH := Lib.hid h
  have HFIN : Hid (∀ (w1 w2 : World) (v1 v2 : Value), w1.ownsRow w.heap.size 37 3 v1 k ((flsC L).take (k * 3)) → w.grownBy w1 none → w1.grownBy w2 v1.ownBlock → w2.ownsRow w.heap.size 37 3 v2 (k + (L.length - (k + 1))) ((flsC L).take (k * 3) ++ (flsC L).drop ((k + 1) * 3)) →
      RefDrop B mp time last (L.eraseIdx k) w (.returned (.tuple #[])) (w2.setCell ⟨mp, 2, none⟩ v2) ∧ Blk w2 mp 45 #[.int .i64 (time : Int), .int .i64 (last : Int), .slice (some ⟨g, 0, none⟩) L.length cap]) := Lib.hid fun w1 w2 v1 v2 h1 hg1 hg2 h2 => by
    have t1 : Turn [] w w1 := Turn.of_grown hg1 fun g e => by cases e
    have t2 := turn_app t1 h1 hg2
    rw [← erase_flsC, show k + (L.length - (k + 1)) = (L.eraseIdx k).length by rw [List.length_eraseIdx_of_lt hk]; omega] at h2
    obtain ⟨⟨a, b⟩, c⟩ := HH.out.set t2 h2 (by rw [List.length_eraseIdx_of_lt hk]; omega) hB
    exact ⟨⟨rfl, _, a, b⟩, c⟩
  have hkl : (k : Int) < L.length := by omega
  have hkc : (k : Int) ≤ cap := by omega
  have hk1 : (k : Int) + 1 ≤ L.length := by omega
  have hk2 : ((k : Int) + 1).toNat = k + 1 := by omega
  have hnc : (k : Int) + 1 ≤ cap := by omega
  clear h hr1
  by_cases hcc : cap = k + 1
  · subst hcc
    have e0 : Hid (L.length - (k + 1) = 0) := Lib.hid (by omega)
    have e1 : Hid ((flsC L).drop ((k + 1) * 3) = []) := Lib.hid (List.drop_eq_nil_of_le (by rw [flsC_length]; omega))
    have HS : Hid (∀ w1 : World, w.grownBy w1 none → Reads w1 w1.heap.size 3 (some ⟨g, 0, none⟩) 0 []) := Lib.hid fun w1 _ => ⟨rfl, fun h => absurd h (by omega)⟩
    go_enter Tryd.func37, Tryd.ntmps37
    go_wp2_with (first
      | (at_builtin
         refine wpList_append_any _ rfl (.tmp 5) (.tmp 11) _ rfl w.heap.size 37 i0 _ 3 32 Tryd.underlying34 hi0 hz0 hz1 hz2 rfl (by omega) (.slice none 0 0) 0 [] rfl (World.ownsRow_nil _ _ _ _) w.heap.size (some ⟨g, 0, none⟩) k (k + 1) _ rfl HR1.out HN1.out (by simp only [maxLen]; omega) (by omega) (Nat.le_refl _) ?_
         intro v1 w1 hown1 hg1 _
         simp only [Nat.zero_add, List.nil_append] at hown1
         have HO1 := Lib.hid hown1
         have HG1 := Lib.hid hg1
         have hc3 := (((Turn.of_grown hg1 (fun _ e => by cases e) : Turn [] w w1)).blk HH.out.blk (by simp)).cell 2
         have hz1' := hg1.size
         clear hown1 hg1)
      | (at_builtin
         go_must (refine wpList_append_any _ rfl (.tmp 14) (.tmp 21) _ rfl w.heap.size 37 i0 _ 3 32 Tryd.underlying34 hi0 hz0 hz1 hz2 rfl (by omega) _ k _ rfl HO1.out _ (some ⟨g, 0, none⟩) 0 0 _ rfl (HS.out _ HG1.out) (by simp) (by simp only [maxLen]; omega) (by omega) HG1.out.size ?_)
         intro v2 w2 hown2 hg2 _
         obtain ⟨hp, hb⟩ := HFIN.out _ _ _ _ HO1.out HG1.out hg2 (by rw [e0.out, e1.out]; exact hown2)
         have HP := Lib.hid hp
         have c9 := hb.cell 2
         have f9 := hb.frozen 2
         clear hp hb
         obtain ⟨A3, cap3, hv3, _⟩ := own_slice hown2
         subst hv3))
    go_end0
    exact HP.out
  · have HS : Hid (∀ w1 : World, w.grownBy w1 none → Reads w1 w1.heap.size 3 (some ⟨g, (k + 1) * 3, none⟩) (L.length - (k + 1)) ((flsC L).drop ((k + 1) * 3))) := Lib.hid fun w1 hg1 => by
      have := ((Reads.of_own HH.out.row).grown hg1 (Nat.le_refl _) (fun _ e => by cases e)).cut (k := k + 1) (by omega) hcap
      rw [if_neg hcc] at this
      have e : (some (⟨g, 0, none⟩ : Addr)).map (·.add ((k + 1) * 3)) = some ⟨g, (k + 1) * 3, none⟩ := by simp [Addr.add]
      rw [e] at this
      exact this.more hg1.size
    have hrl : L.length - (k + 1) ≤ 1000 := by omega
    go_enter Tryd.func37, Tryd.ntmps37
    go_wp2_with (first
      | (at_builtin
         refine wpList_append_any _ rfl (.tmp 5) (.tmp 11) _ rfl w.heap.size 37 i0 _ 3 32 Tryd.underlying34 hi0 hz0 hz1 hz2 rfl (by omega) (.slice none 0 0) 0 [] rfl (World.ownsRow_nil _ _ _ _) w.heap.size (some ⟨g, 0, none⟩) k (cap) _ rfl HR1.out HN1.out (by simp only [maxLen]; omega) (by omega) (Nat.le_refl _) ?_
         intro v1 w1 hown1 hg1 _
         simp only [Nat.zero_add, List.nil_append] at hown1
         have HO1 := Lib.hid hown1
         have HG1 := Lib.hid hg1
         have hc3 := (((Turn.of_grown hg1 (fun _ e => by cases e) : Turn [] w w1)).blk HH.out.blk (by simp)).cell 2
         have hz1' := hg1.size
         clear hown1 hg1)
      | (at_builtin
         go_must (refine wpList_append_any _ rfl (.tmp 14) (.tmp 21) _ rfl w.heap.size 37 i0 _ 3 32 Tryd.underlying34 hi0 hz0 hz1 hz2 rfl (by omega) _ k _ rfl HO1.out _ (some ⟨g, (k + 1) * 3, none⟩) (L.length - (k + 1)) ((cap) - (k + 1)) _ rfl (HS.out _ HG1.out) HN2.out (by simp only [maxLen]; omega) (by omega) HG1.out.size ?_)
         intro v2 w2 hown2 hg2 _
         obtain ⟨hp, hb⟩ := HFIN.out _ _ _ _ HO1.out HG1.out hg2 hown2
         have HP := Lib.hid hp
         have c9 := hb.cell 2
         have f9 := hb.frozen 2
         clear hp hb
         obtain ⟨A3, cap3, hv3, _⟩ := own_slice hown2
         subst hv3))
    go_end0
    exact HP.out
end Go.Proofs.YtlgnhifjakkodaaDoor
