/-
  The reference's RingFault.
-/
import Derived.Test.YtbbbnnooaaelmaaDoorRefSome
import Derived.Test.YtbbbnnooaaelmaaDoorRinged
namespace Go.Proofs.YtbbbnnooaaelmaaDoor
open Go.RowKit

theorem copies_ways {cp : Int} (h : ¬ (1 ≤ cp ∧ cp ≤ 16)) : (decide (cp < 1) = true) ∨ (decide (cp < 1) = false ∧ decide (cp > 16) = true) := by
  simp only [decide_eq_true_eq, decide_eq_false_iff_not]
  omega
theorem ringFault_some (l : List ByteArray) (cp : Int) : ringFault l cp = match someFault l with | some f => some f | none => if 1 ≤ cp ∧ cp ≤ 16 then none else some ⟨2, none⟩ := by
  unfold ringFault someFault
  by_cases h : l.length = 0
  · rw [if_pos h, if_pos h]
  · rw [if_neg h, if_neg h]
    cases hostsFault l <;> rfl
set_option maxRecDepth 100000 in
set_option maxHeartbeats 4000000 in
theorem ringFault_ref (A : Option Addr) (c B : Nat) (l : List ByteArray) (cp : Int) (w : World) (hr : Reads w B 1 A l.length (strV l)) (hB : B ≤ w.heap.size) (hl : l.length ≤ maxLen) (hs : ∀ s ∈ l, s.size ≤ maxLen) :
    Calls Tryd.prog 35 #[.slice A l.length c, .int .i64 cp] w (FaultPost (ringFault l cp) w) := by
  have hb0 : Below w.heap.size w (w.alloc (.cells #[.int .i64 0, .int .i64 0] 47)) := (Below.refl _ _).alloc (Nat.le_refl _) _
  have HH := Lib.hid (someFault_ref A c B l (w.alloc (.cells #[.int .i64 0, .int .i64 0] 47)) (hr.alloc hB _) (by simp; omega) hl hs)
  have HB0 := Lib.hid hb0
  have HN0 := Lib.hid (Blk.new w 47 #[.int .i64 0, .int .i64 0])
  have HFE := Lib.hid (ringFault_some l cp)
  clear hr hB hb0
  cases ho : someFault l with
  | some f =>
    rw [ho] at HH HFE
    have hc := someFault_code ho
    have HF : Hid (ringFault l cp = some f) := Lib.hid HFE.out
    have hz : ((fCode (some f) : Int) == 0) = false := beq_eq_false_iff_ne.2 (by show (f.code : Int) ≠ 0; omega)
    unfold FaultPost at HH
    clear ho hc HFE
    obtain ⟨fc, hfc⟩ : ∃ fc : Int, (fCode (some f) : Int) = fc := ⟨_, rfl⟩
    obtain ⟨fa, hfa⟩ : ∃ fa : Int, fAt (some f) = fa := ⟨_, rfl⟩
    have HV : Hid (retFault (some f) = .agg #[.int .i64 fc, .int .i64 fa]) := Lib.hid (by unfold retFault; rw [hfc, hfa])
    rw [hfc] at HH hz
    rw [hfa] at HH
    clear hfc hfa
    go_enter Tryd.func35, Tryd.ntmps35
    go_wp2_with fail
    refine HH.out.mono ?_
    rintro e w1 ⟨rfl, hb1⟩
    have hB1 := HN0.out.below hb1 HN0.out.lt
    have c0 := hB1.cell 0
    have c1 := hB1.cell 1
    have f0 := hB1.frozen 0
    have f1 := hB1.frozen 1
    have hz1 : w.heap.size < w1.heap.size := hB1.lt
    have HB := Lib.hid (HB0.out.trans (hb1.mono HB0.out.size))
    clear hB1 hb1
    simp at c0 c1
    go_wp2
    refine bodyPost_ret (v := .agg #[.int .i64 fc, .int .i64 fa]) (by simp [results, Tryd.results35, go_sem, c0, c1, hz1]) rfl (faultPost_of HF.out (by rw [HV.out]) ?_)
    exact Below.alloc ((HB.out.setCell (p := ⟨w.heap.size, 0, none⟩) (Nat.le_refl _) _).setCell (p := ⟨w.heap.size, 1, none⟩) (Nat.le_refl _) _) (by have := HB.out.size; simpa [World.setCell] using this) _
  | none =>
    rw [ho] at HH HFE
    unfold FaultPost at HH
    by_cases he : 1 ≤ cp ∧ cp ≤ 16
    · have HF : Hid (ringFault l cp = none) := Lib.hid (by rw [HFE.out]; simp only [if_pos he])
      have a1 : decide (cp < 1) = false := by simp; omega
      have a2 : decide (cp > 16) = false := by simp; omega
      clear ho he HFE
      go_enter Tryd.func35, Tryd.ntmps35
      go_wp2_with fail
      refine HH.out.mono ?_
      rintro e w1 ⟨rfl, hb1⟩
      have hB1 := HN0.out.below hb1 HN0.out.lt
      have c0 := hB1.cell 0
      have c1 := hB1.cell 1
      have f0 := hB1.frozen 0
      have f1 := hB1.frozen 1
      have hz1 : w.heap.size < w1.heap.size := hB1.lt
      have HB := Lib.hid (HB0.out.trans (hb1.mono HB0.out.size))
      clear hB1 hb1
      simp at c0 c1
      go_wp2
      refine bodyPost_ret (v := retFault none) (by simp [results, Tryd.results35, go_sem, retFault, fCode, fAt, c0, c1, hz1]) rfl (faultPost_of HF.out rfl ?_)
      exact Below.alloc ((HB.out.setCell (p := ⟨w.heap.size, 0, none⟩) (Nat.le_refl _) _).setCell (p := ⟨w.heap.size, 1, none⟩) (Nat.le_refl _) _) (by have := HB.out.size; simpa [World.setCell] using this) _
    · have HF : Hid (ringFault l cp = some ⟨2, none⟩) := Lib.hid (by rw [HFE.out]; simp only [if_neg he])
      have hw := copies_ways he
      clear ho he HFE
      rcases hw with a1 | ⟨a1, a2⟩
      all_goals
        go_enter Tryd.func35, Tryd.ntmps35
        go_wp2_with fail
        refine HH.out.mono ?_
        rintro e w1 ⟨rfl, hb1⟩
        have hB1 := HN0.out.below hb1 HN0.out.lt
        have HB1 := Lib.hid (HB0.out.trans (hb1.mono HB0.out.size))
        have HX := Lib.hid (hB1.alloc (.cells #[.int .i64 0, .int .i64 (-1)] 47))
        clear hB1 hb1
        go_wp2_with fail
        refine (bare_any _ _).mono ?_
        rintro e w2 ⟨rfl, hb2⟩
        have hB2 := HX.out.below hb2 HX.out.lt
        have c0 := hB2.cell 0
        have c1 := hB2.cell 1
        have f0 := hB2.frozen 0
        have f1 := hB2.frozen 1
        have hz1 : w.heap.size < w2.heap.size := hB2.lt
        have hba := HB1.out.alloc HB1.out.size (.cells #[.int .i64 0, .int .i64 (-1)] 47)
        have HB := Lib.hid (hba.trans (hb2.mono hba.size))
        clear hB2 hb2 hba
        simp at c0 c1
        go_wp2
        refine bodyPost_ret (v := retFault (some ⟨2, none⟩)) (by simp [results, Tryd.results35, go_sem, retFault, fCode, fAt, c0, c1]) rfl (faultPost_of HF.out rfl ?_)
        exact (HB.out.setCell (p := ⟨w.heap.size, 0, none⟩) (Nat.le_refl _) _).setCell (p := ⟨w.heap.size, 1, none⟩) (Nat.le_refl _) _
theorem ringFault_code {l : List ByteArray} {cp : Int} {f : Flt} (h : ringFault l cp = some f) : 1 ≤ f.code ∧ f.code ≤ 9 := by
  rw [ringFault_some] at h
  split at h
  · rename_i g hg
    obtain rfl := Option.some.inj h
    exact someFault_code hg
  · split at h
    · cases h
    · obtain rfl := Option.some.inj h; exact ⟨by decide, by decide⟩
end Go.Proofs.YtbbbnnooaaelmaaDoor
