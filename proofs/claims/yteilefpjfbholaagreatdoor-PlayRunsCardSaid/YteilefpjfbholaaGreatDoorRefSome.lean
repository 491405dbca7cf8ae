/-
  The reference's SomeFault.
-/
import Derived.Test.YteilefpjfbholaaGreatDoorRefFault
namespace Go.Proofs.YteilefpjfbholaaGreatDoor
open Go.RowKit

def someFault (l : List ByteArray) : Option Flt := if l.length = 0 then some ⟨5, none⟩ else hostsFault l
set_option maxRecDepth 100000 in
set_option maxHeartbeats 1000000 in
theorem someFault_ref (A : Option Addr) (c B : Nat) (l : List ByteArray) (w : World) (hr : Reads w B 1 A l.length (strV l)) (hB : B ≤ w.heap.size) (hl : l.length ≤ maxLen) (hs : ∀ s ∈ l, s.size ≤ maxLen) :
    Calls Tryz.prog 61 #[.slice A l.length c] w (FaultPost (someFault l) w) := by
  have hb0 : Below w.heap.size w (w.alloc (.cells #[.int .i64 0, .int .i64 0] 87)) := (Below.refl _ _).alloc (Nat.le_refl _) _
  have HH := Lib.hid (hostsFault_ref A c B l (w.alloc (.cells #[.int .i64 0, .int .i64 0] 87)) (hr.alloc hB _) (by simp; omega) hl hs)
  have HB0 := Lib.hid hb0
  have HN0 := Lib.hid (Blk.new w 87 #[.int .i64 0, .int .i64 0])
  unfold maxLen at hl
  unfold FaultPost at HH
  by_cases h0 : l.length = 0
  · have HF : Hid (someFault l = some ⟨5, none⟩) := Lib.hid (by unfold someFault; rw [if_pos h0])
    have z0 : ((l.length : Int) == 0) = true := beq_iff_eq.2 (by omega)
    have z1 : l = [] := List.eq_nil_of_length_eq_zero h0
    have HBr := Lib.hid (bare_any 5 (w.alloc (.cells #[.int .i64 0, .int .i64 0] 87)))
    subst z1
    clear hr hB hb0 h0 HH hs
    go_enter Tryz.func61, Tryz.ntmps61
    go_wp2_with fail
    refine HBr.out.mono ?_
    rintro e w1 ⟨rfl, hb1⟩
    have hB1 := HN0.out.below hb1 HN0.out.lt
    have c0 := hB1.cell 0
    have c1 := hB1.cell 1
    have f0 := hB1.frozen 0
    have f1 := hB1.frozen 1
    have hz1 : w.heap.size < w1.heap.size := hB1.lt
    have HB := Lib.hid (HB0.out.trans (hb1.mono HB0.out.size))
    clear hB1 hb1
    simp at c0 c1
    go_wp2
    refine bodyPost_ret (v := .agg #[.int .i64 5, .int .i64 (-1)]) (by simp [results, Tryz.results61, go_sem, c0, c1]) rfl (faultPost_of HF.out rfl ?_)
    exact (HB.out.setCell (p := ⟨w.heap.size, 0, none⟩) (Nat.le_refl _) _).setCell (p := ⟨w.heap.size, 1, none⟩) (Nat.le_refl _) _
  · have HF : Hid (someFault l = hostsFault l) := Lib.hid (by unfold someFault; rw [if_neg h0])
    have z0 : ((l.length : Int) == 0) = false := beq_eq_false_iff_ne.2 (by omega)
    have z1 : ¬ l = [] := fun e => by simp [e] at h0
    obtain ⟨fc, hfc⟩ : ∃ fc : Int, (fCode (hostsFault l) : Int) = fc := ⟨_, rfl⟩
    obtain ⟨fa, hfa⟩ : ∃ fa : Int, fAt (hostsFault l) = fa := ⟨_, rfl⟩
    have HV : Hid (retFault (hostsFault l) = .agg #[.int .i64 fc, .int .i64 fa]) := Lib.hid (by unfold retFault; rw [hfc, hfa])
    rw [hfc, hfa] at HH
    clear hr hB hb0 h0 hs hfc hfa
    go_enter Tryz.func61, Tryz.ntmps61
    go_wp2_with fail
    refine HH.out.mono ?_
    rintro e w1 ⟨rfl, hb1⟩
    have hB1 := HN0.out.below hb1 HN0.out.lt
    have c0 := hB1.cell 0
    have c1 := hB1.cell 1
    have f0 := hB1.frozen 0
    have f1 := hB1.frozen 1
    have hz1 : w.heap.size < w1.heap.size := hB1.lt
    have HB := Lib.hid (HB0.out.trans (hb1.mono HB0.out.size))
    clear hB1 hb1
    simp at c0 c1
    go_wp2
    refine bodyPost_ret (v := .agg #[.int .i64 fc, .int .i64 fa]) (by simp [results, Tryz.results61, go_sem, c0, c1]) rfl (faultPost_of HF.out (by rw [HV.out]) ?_)
    exact (HB.out.setCell (p := ⟨w.heap.size, 0, none⟩) (Nat.le_refl _) _).setCell (p := ⟨w.heap.size, 1, none⟩) (Nat.le_refl _) _
theorem flt_go_code {l : List ByteArray} {f : Flt} : ∀ n k, faultGo l n k = some f → f.code = 4 ∨ f.code = 6
  | 0, _, h => by cases h
  | n + 1, k, h => by
      unfold faultGo at h
      split at h
      · cases h
      · split at h
        · obtain rfl := Option.some.inj h; exact .inl rfl
        · split at h
          · obtain rfl := Option.some.inj h; exact .inr rfl
          · exact flt_go_code n (k + 1) h
theorem hosts_code19 {l : List ByteArray} {f : Flt} (h : hostsFault l = some f) : 1 ≤ f.code ∧ f.code ≤ 9 := by
  unfold hostsFault at h
  split at h
  · obtain rfl := Option.some.inj h; exact ⟨by decide, by decide⟩
  · rcases flt_go_code _ _ h with h | h <;> omega
theorem someFault_code {l : List ByteArray} {f : Flt} (h : someFault l = some f) : 1 ≤ f.code ∧ f.code ≤ 9 := by
  unfold someFault at h
  split at h
  · obtain rfl := Option.some.inj h; exact ⟨by decide, by decide⟩
  · exact hosts_code19 h
end Go.Proofs.YteilefpjfbholaaGreatDoor
