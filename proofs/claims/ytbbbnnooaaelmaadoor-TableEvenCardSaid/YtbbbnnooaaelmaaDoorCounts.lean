/-
  table.Counts, whatever it is given.
-/
import Derived.Test.YtbbbnnooaaelmaaDoorTabled
namespace Go.Proofs.YtbbbnnooaaelmaaDoor
open Go.RowKit

theorem countsFault_at {l : List Int} {m k : Nat} (hm : m ≤ 12) (hk : k < l.length) (hall : ∀ i (h : i < l.length), i < k → 0 ≤ l[i] ∧ l[i] < m) (hb : l[k] < 0 ∨ (m : Int) ≤ l[k]) : countsFault l (m : Int) = some ⟨2, some k⟩ := by
  unfold countsFault
  rw [if_neg (by omega)]
  have : (l.findIdx? fun x => decide (x < 0 ∨ (m : Int) ≤ x)) = some k := by
    rw [List.findIdx?_eq_some_iff_getElem]
    exact ⟨hk, by simpa using hb, fun j hj => by have := hall j (by omega) hj; simp; omega⟩
  rw [this]
theorem countsFault_end {l : List Int} {m : Nat} (hm : m ≤ 12) (hall : ∀ i (h : i < l.length), 0 ≤ l[i] ∧ l[i] < m) : countsFault l (m : Int) = none := by
  unfold countsFault
  rw [if_neg (by omega)]
  have : (l.findIdx? fun x => decide (x < 0 ∨ (m : Int) ≤ x)) = none := by
    rw [List.findIdx?_eq_none_iff]
    intro x hx
    obtain ⟨i, hi, rfl⟩ := List.getElem_of_mem hx
    have := hall i hi
    simp; omega
  rw [this]
theorem countsFault_none {l : List Int} {many : Int} (h : countsFault l many = none) : ∃ m : Nat, many = (m : Int) ∧ m ≤ 12 ∧ ∀ i (h : i < l.length), 0 ≤ l[i] ∧ l[i] < m := by
  unfold countsFault at h
  split at h
  · cases h
  · split at h
    · cases h
    · rename_i h1 _ h2
      refine ⟨many.toNat, by omega, by omega, fun i hi => ?_⟩
      rw [List.findIdx?_eq_none_iff] at h2
      have := h2 _ (List.getElem_mem hi)
      simp at this
      omega
def CountsPost (ea : Nat → Addr) (l : List Int) (many : Int) (w : World) (e : Ending) (w' : World) : Prop := match countsFault l many with
  | some f => SortedBad ea f w e w'
  | none => CountsGood l many.toNat w e w'
theorem counts_ways {x : Int} {m : Nat} (h : x < 0 ∨ (m : Int) ≤ x) : (decide (x < 0) = true) ∨ (decide (x < 0) = false ∧ decide (x ≥ (m : Int)) = true) := by
  simp only [decide_eq_true_eq, decide_eq_false_iff_not]; omega
theorem many_ways {n : Int} (h : n < 0 ∨ 12 < n) : (decide (n < 0) = true) ∨ (decide (n < 0) = false ∧ decide (n > 12) = true) := by
  simp only [decide_eq_true_eq, decide_eq_false_iff_not]; omega
set_option maxRecDepth 100000 in
set_option maxHeartbeats 2000000 in
theorem counts_any (ea : Nat → Addr) (A : Option Addr) (c : Nat) (l : List Int) (many : Int) (w : World) (hE : ErrsT ea w) (hr : Reads w w.heap.size 1 A l.length (l.map intV)) (hl : l.length ≤ 1000) :
    Calls Tryd.prog 16 #[.slice A l.length c, .int .i64 many] w (CountsPost ea l many w) := by
  by_cases hm : many < 0 ∨ 12 < many
  · have HP : Hid (∀ e w', SortedBad ea ⟨2, none⟩ w e w' → CountsPost ea l many w e w') := Lib.hid fun e w' h => by
      unfold CountsPost countsFault; rw [if_pos hm]; exact h
    have hw := many_ways hm
    have c2 := hE.e3.c2
    dsimp only [gv] at c2
    clear hE hr hm
    rcases hw with t1 | ⟨t1, t2⟩
    all_goals
      go_enter Tryd.func16, Tryd.ntmps16
      go_wp2
      go_quiet (fail)
      go_wp2
      go_ret2
      exact HP.out _ _ ⟨_, _, rfl, ⟨rfl, rfl⟩, below_drewN (Below.refl _ _) _⟩
  · obtain ⟨m, rfl⟩ := Int.eq_ofNat_of_zero_le (by omega : 0 ≤ many)
    have hm12 : m ≤ 12 := by omega
    have t1 : decide ((m : Int) < 0) = false := by simp
    have t2 : decide ((m : Int) > 12) = false := by simp; omega
    have hmk := make_counts m (by omega)
    have HB : Hid (∀ k (hk : k < l.length), (∀ i (h : i < l.length), i < k → 0 ≤ l[i] ∧ l[i] < m) → (l[k] < 0 ∨ (m : Int) ≤ l[k]) → ∀ e w', SortedBad ea ⟨2, some k⟩ w e w' → CountsPost ea l (m : Int) w e w') := Lib.hid fun k hk h1 h2 e w' h => by
      unfold CountsPost; rw [countsFault_at hm12 hk h1 h2]; exact h
    have HG : Hid ((∀ i (h : i < l.length), 0 ≤ l[i] ∧ l[i] < m) → ∀ g e w', e = .returned (.tuple #[.slice (some ⟨g, 0, none⟩) m m, .nilIface]) → Blk w' g 3 (numsV (countsL m (l.map Int.toNat))).toArray → w.heap.size ≤ g → Below w.heap.size w w' → CountsPost ea l (m : Int) w e w') := Lib.hid fun h1 g e w' h2 h3 h4 h5 => by
      unfold CountsPost; rw [countsFault_end hm12 h1]; exact ⟨g, h2, h3, h4, h5⟩
    have HE := Lib.hid hE
    have HR := Lib.hid hr
    have hb0 : Below w.heap.size w (w.alloc (.cells (numsV (countsL m [])).toArray 3)) := (Below.refl _ _).alloc (Nat.le_refl _) _
    have hB0 := Blk.new w 3 (numsV (countsL m [])).toArray
    clear hE hr hm
    go_enter Tryd.func16, Tryd.ntmps16
    go_wp2_with fail
    go_loopg [20] l.length (fun g iv wr => ∃ k : Nat, g + k = l.length ∧ iv = .int .i64 (k : Int) ∧ Hid (∀ i (h : i < l.length), i < k → 0 ≤ l[i] ∧ l[i] < m) ∧ Hid (Blk wr w.heap.size 3 (numsV (countsL m ((l.take k).map Int.toNat))).toArray) ∧ Below w.heap.size w wr)
    case atStart => exact ⟨0, by omega, rfl, Lib.hid fun i _ h => absurd h (by omega), Lib.hid hB0, hb0⟩
    case round =>
      obtain ⟨k, hgk, rfl, hall, hB, hb⟩ := hrel
      clear hmk
      by_cases hlt : k < l.length
      · have hlt2 : (k : Int) < l.length := by omega
        obtain ⟨ad, rfl, hX⟩ := intsI_at HR.out hlt
        have c0 := hX wr hb
        clear hX
        by_cases hbad : l[k] < 0 ∨ (m : Int) ≤ l[k]
        · have HPB := Lib.hid (HB.out k hlt hall.out hbad)
          have hw := counts_ways hbad
          have c2 := (HE.out.below hb).e3.c2
          dsimp only [gv] at c2
          generalize l[k] = x at *
          clear hbad hall
          rcases hw with u1 | ⟨u1, u2⟩
          all_goals
            go_wp2_with fail
            go_region
            go_wp2
            go_ret2
            exact HPB.out _ _ ⟨_, _, rfl, ⟨rfl, _, rfl, Blk.new _ _ _⟩, below_drewN (hb.alloc hb.size _) 1⟩
        · obtain ⟨j, hj⟩ := Int.eq_ofNat_of_zero_le (by omega : 0 ≤ l[k])
          have hjm : j < m := by omega
          have hA2 : Hid (∀ i (h : i < l.length), i < k + 1 → 0 ≤ l[i] ∧ l[i] < m) := Lib.hid fun i h h2 => by
            rcases Nat.lt_succ_iff_lt_or_eq.1 h2 with h3 | rfl
            · exact hall.out i h h3
            · omega
          have htk : (l.take (k + 1)).map Int.toNat = (l.take k).map Int.toNat ++ [j] := by
            rw [List.take_succ_eq_append_getElem hlt, List.map_append, hj]; rfl
          rw [hj] at c0
          have g0 := (hB.out.cell j).trans (countsL_get ((l.take k).map Int.toNat) hjm)
          have g1 := hB.out.frozen j
          have hcl : ((l.take k).map Int.toNat).count j ≤ 1000 := Nat.le_trans List.count_le_length (by simp; omega)
          have hB2 := hB.out.set_ j (.int .i64 ((((l.take k).map Int.toNat).count j : Nat) + 1 : Int))
          rw [countsL_set _ hjm, ← htk] at hB2
          have HB2 := Lib.hid hB2
          have hb2 := hb.setCell (p := ⟨w.heap.size, j, none⟩) (Nat.le_refl _) (.int .i64 ((((l.take k).map Int.toNat).count j : Nat) + 1 : Int))
          have hjm2 : (j : Int) < m := by omega
          have u1 : decide ((j : Int) < 0) = false := by simp
          have u2 : decide ((j : Int) ≥ (m : Int)) = false := by simp; omega
          clear hB2 hall hbad hj htk hB
          generalize ((l.take k).map Int.toNat).count j = ct at *
          go_wp2_with fail
          go_roundg (l.length - (k + 1))
          case rel => exact ⟨k + 1, by omega, by go_num, hA2, HB2, hb2⟩
          case measure => omega
      · obtain rfl : k = l.length := by omega
        have hge : ¬ (l.length : Int) < l.length := by omega
        have HF := Lib.hid (HG.out (fun i h => hall.out i h h) w.heap.size _ wr rfl (by have := hB.out; rwa [List.take_length] at this) (Nat.le_refl _) hb)
        clear hall hB
        go_wp2
        go_ret2
        exact HF.out
end Go.Proofs.YtbbbnnooaaelmaaDoor
