/-
  The reference's health in memory, and the walks that read it: HealthFault, Find, IsUp, Ups, NewHealth.
-/
import Derived.Test.YtajdokogahlgaaaDoorRefFault
import Derived.Test.YtajdokogahlgaaaDoorKeep
import Derived.Test.YtajdokogahlgaaaDoorUp
namespace Go.Proofs.YtajdokogahlgaaaDoor
open Go.RowKit

/-! HealthFault -/
def edgesOk (fall rise : Int) : Prop := 1 ≤ fall ∧ fall ≤ 10 ∧ 1 ≤ rise ∧ rise ≤ 10
instance (fall rise : Int) : Decidable (edgesOk fall rise) := by unfold edgesOk; infer_instance
def healthFault (l : List ByteArray) (fall rise : Int) : Option Flt := match hostsFault l with
  | some f => some f
  | none => if edgesOk fall rise then none else some ⟨2, none⟩
theorem faultGo_code {l : List ByteArray} : ∀ (n i : Nat) (f : Flt), faultGo l n i = some f → f.code = 4 ∨ f.code = 6
  | 0, _, f, h => by cases h
  | n + 1, i, f, h => by
      rw [faultGo] at h
      split at h
      · cases h
      · split at h
        · cases h; exact .inl rfl
        · split at h
          · cases h; exact .inr rfl
          · exact faultGo_code n _ f h
theorem hostsFault_code {l : List ByteArray} {f : Flt} (h : hostsFault l = some f) : f.code = 2 ∨ f.code = 4 ∨ f.code = 6 := by
  unfold hostsFault at h
  split at h
  · cases h; exact .inl rfl
  · exact .inr (faultGo_code _ _ f h)
theorem healthFault_code {l : List ByteArray} {fall rise : Int} {f : Flt} (h : healthFault l fall rise = some f) : f.code = 2 ∨ f.code = 4 ∨ f.code = 6 := by
  unfold healthFault at h
  split at h
  · rename_i g hg; cases h; exact hostsFault_code hg
  · split at h
    · cases h
    · cases h; exact .inl rfl

theorem edges_ways {fall rise : Int} (h : ¬ edgesOk fall rise) :
    (decide (fall < 1) = true) ∨ (decide (fall < 1) = false ∧ decide (fall > 10) = true) ∨ (decide (fall < 1) = false ∧ decide (fall > 10) = false ∧ decide (rise < 1) = true) ∨ (decide (fall < 1) = false ∧ decide (fall > 10) = false ∧ decide (rise < 1) = false ∧ decide (rise > 10) = true) := by
  unfold edgesOk at h
  simp only [decide_eq_true_eq, decide_eq_false_iff_not]
  omega

set_option maxRecDepth 100000 in
set_option maxHeartbeats 4000000 in
theorem healthFault_ref (A : Option Addr) (c B : Nat) (l : List ByteArray) (fall rise : Int) (w : World) (hr : Reads w B 1 A l.length (strV l)) (hB : B ≤ w.heap.size) (hl : l.length ≤ maxLen) (hs : ∀ s ∈ l, s.size ≤ maxLen) :
    Calls Tryd.prog 21 #[.slice A l.length c, .int .i64 fall, .int .i64 rise] w (FaultPost (healthFault l fall rise) w) := by
  have hb0 : Below w.heap.size w (w.alloc (.cells #[.int .i64 0, .int .i64 0] 47)) := (Below.refl _ _).alloc (Nat.le_refl _) _
  have HH := Lib.hid (hostsFault_ref A c B l (w.alloc (.cells #[.int .i64 0, .int .i64 0] 47)) (hr.alloc hB _) (by simp; omega) hl hs)
  have HB0 := Lib.hid hb0
  have HN0 := Lib.hid (Blk.new w 47 #[.int .i64 0, .int .i64 0])
  clear hr hB hb0
  cases ho : hostsFault l with
  | some f =>
    rw [ho] at HH
    have hc := hostsFault_code ho
    have HF : Hid (healthFault l fall rise = some f) := Lib.hid (by unfold healthFault; rw [ho])
    have hz : ((fCode (some f) : Int) == 0) = false := beq_eq_false_iff_ne.2 (by show (f.code : Int) ≠ 0; omega)
    unfold FaultPost at HH
    clear ho hc
    obtain ⟨fc, hfc⟩ : ∃ fc : Int, (fCode (some f) : Int) = fc := ⟨_, rfl⟩
    obtain ⟨fa, hfa⟩ : ∃ fa : Int, fAt (some f) = fa := ⟨_, rfl⟩
    have HV : Hid (retFault (some f) = .agg #[.int .i64 fc, .int .i64 fa]) := Lib.hid (by unfold retFault; rw [hfc, hfa])
    rw [hfc] at HH hz
    rw [hfa] at HH
    clear hfc hfa
    go_enter Tryd.func21, Tryd.ntmps21
    go_wp2_with fail
    refine HH.out.mono ?_
    rintro e w1 ⟨rfl, hb1⟩
    have hB1 := HN0.out.below hb1 HN0.out.lt
    have c0 := hB1.cell 0
    have c1 := hB1.cell 1
    have f0 := hB1.frozen 0
    have f1 := hB1.frozen 1
    have hz1 : w.heap.size < w1.heap.size := hB1.lt
    have HB := Lib.hid (HB0.out.trans (hb1.mono HB0.out.size))
    clear hB1 hb1
    simp at c0 c1
    go_wp2
    refine bodyPost_ret (v := .agg #[.int .i64 fc, .int .i64 fa]) (by simp [results, Tryd.results21, go_sem, c0, c1, hz1]) rfl (faultPost_of HF.out (by rw [HV.out]) ?_)
    exact Below.alloc ((HB.out.setCell (p := ⟨w.heap.size, 0, none⟩) (Nat.le_refl _) _).setCell (p := ⟨w.heap.size, 1, none⟩) (Nat.le_refl _) _) (by have := HB.out.size; simpa [World.setCell] using this) _
  | none =>
    rw [ho] at HH
    unfold FaultPost at HH
    by_cases he : edgesOk fall rise
    · have HF : Hid (healthFault l fall rise = none) := Lib.hid (by unfold healthFault; rw [ho]; simp only [if_pos he])
      have a1 : decide (fall < 1) = false := by unfold edgesOk at he; simp; omega
      have a2 : decide (fall > 10) = false := by unfold edgesOk at he; simp; omega
      have a3 : decide (rise < 1) = false := by unfold edgesOk at he; simp; omega
      have a4 : decide (rise > 10) = false := by unfold edgesOk at he; simp; omega
      clear ho he
      go_enter Tryd.func21, Tryd.ntmps21
      go_wp2_with fail
      refine HH.out.mono ?_
      rintro e w1 ⟨rfl, hb1⟩
      have hB1 := HN0.out.below hb1 HN0.out.lt
      have c0 := hB1.cell 0
      have c1 := hB1.cell 1
      have f0 := hB1.frozen 0
      have f1 := hB1.frozen 1
      have hz1 : w.heap.size < w1.heap.size := hB1.lt
      have HB := Lib.hid (HB0.out.trans (hb1.mono HB0.out.size))
      clear hB1 hb1
      simp at c0 c1
      go_wp2
      refine bodyPost_ret (v := retFault none) (by simp [results, Tryd.results21, go_sem, retFault, fCode, fAt, c0, c1, hz1]) rfl (faultPost_of HF.out rfl ?_)
      exact Below.alloc ((HB.out.setCell (p := ⟨w.heap.size, 0, none⟩) (Nat.le_refl _) _).setCell (p := ⟨w.heap.size, 1, none⟩) (Nat.le_refl _) _) (by have := HB.out.size; simpa [World.setCell] using this) _
    · have HF : Hid (healthFault l fall rise = some ⟨2, none⟩) := Lib.hid (by unfold healthFault; rw [ho]; simp only [if_neg he])
      have hw := edges_ways he
      clear ho he
      rcases hw with a1 | ⟨a1, a2⟩ | ⟨a1, a2, a3⟩ | ⟨a1, a2, a3, a4⟩
      all_goals
        go_enter Tryd.func21, Tryd.ntmps21
        go_wp2_with fail
        refine HH.out.mono ?_
        rintro e w1 ⟨rfl, hb1⟩
        have hB1 := HN0.out.below hb1 HN0.out.lt
        have HB1 := Lib.hid (HB0.out.trans (hb1.mono HB0.out.size))
        have HX := Lib.hid (hB1.alloc (.cells #[.int .i64 0, .int .i64 (-1)] 47))
        clear hB1 hb1
        go_wp2_with fail
        refine (bare_any _ _).mono ?_
        rintro e w2 ⟨rfl, hb2⟩
        have hB2 := HX.out.below hb2 HX.out.lt
        have c0 := hB2.cell 0
        have c1 := hB2.cell 1
        have f0 := hB2.frozen 0
        have f1 := hB2.frozen 1
        have hz1 : w.heap.size < w2.heap.size := hB2.lt
        have hba := HB1.out.alloc HB1.out.size (.cells #[.int .i64 0, .int .i64 (-1)] 47)
        have HB := Lib.hid (hba.trans (hb2.mono hba.size))
        clear hB2 hb2 hba
        simp at c0 c1
        go_wp2
        refine bodyPost_ret (v := retFault (some ⟨2, none⟩)) (by simp [results, Tryd.results21, go_sem, retFault, fCode, fAt, c0, c1]) rfl (faultPost_of HF.out rfl ?_)
        exact (HB.out.setCell (p := ⟨w.heap.size, 0, none⟩) (Nat.le_refl _) _).setCell (p := ⟨w.heap.size, 1, none⟩) (Nat.le_refl _) _
end Go.Proofs.YtajdokogahlgaaaDoor
