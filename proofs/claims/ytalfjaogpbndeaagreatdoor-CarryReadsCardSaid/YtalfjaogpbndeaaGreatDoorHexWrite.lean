/-
  The walk of the library's writer of numbers in sixteens.
-/
import Derived.Test.YtalfjaogpbndeaaGreatDoorBase
import Derived.Test.YtalfjaogpbndeaaGreatDoorHexLaws
import Derived.Lib.Strings
import Derived.Lib.ConvBytes
import Derived.Lib.ItoaWalk
import Derived.Lib.SliceRun
import Derived.Lib.ItoaMem
import Derived.Laws.Closers25
import Derived.Laws.Closers25b
import Derived.WalkKit
import Derived.BigCall
import Derived.BigGuard
namespace Go.Proofs.YtalfjaogpbndeaaGreatDoor
open Go.RowKit

theorem pow_16 (w : World) :
    Calls Tryz.prog 100 #[.int .i64 16] w fun e w' => e = .returned (.bool true) ∧ w' = w := by
  have h : bits .and .i64 16 15 = 0 := by decide
  go_enter Tryz.func100, Tryz.ntmps100
  go_wp2
  go_ret
  exact ⟨rfl, rfl⟩
theorem tz64_16 (w : World) (ht : w.cell? ⟨17, 15, none⟩ = some (.int .u8 4)) :
    Calls Tryz.prog 111 #[.int .u64 16] w fun e w' => e = .returned (.int .i64 4) ∧ w' = w := by
  have h1 : IntKind.u64.wrap (-16) = 18446744073709551600 := by rw [IntKind.wrap_u64]; decide
  have h2 : bits .and .u64 16 18446744073709551600 = 16 := by decide
  have h3 : IntKind.u64.wrap 4573923408821661840 = 4573923408821661840 := by rw [IntKind.wrap_u64]; decide
  go_enter Tryz.func111, Tryz.ntmps111
  go_wp2
  go_ret
  exact ⟨rfl, rfl⟩
theorem tz_16 (w : World) (ht : w.cell? ⟨17, 15, none⟩ = some (.int .u8 4)) :
    Calls Tryz.prog 101 #[.int .u64 16] w fun e w' => e = .returned (.int .i64 4) ∧ w' = w := by
  go_enter Tryz.func101, Tryz.ntmps101
  go_wp2_with (refine (tz64_16 _ ht).mono ?_; rintro e w' ⟨rfl, rfl⟩)
  go_ret
  exact ⟨rfl, rfl⟩
def digs : ByteArray := ⟨#[48, 49, 50, 51, 52, 53, 54, 55, 56, 57, 97, 98, 99, 100, 101, 102, 103, 104, 105, 106, 107, 108, 109, 110, 111, 112, 113, 114, 115, 116, 117, 118, 119, 120, 121, 122]⟩
theorem digs_at : ∀ m : Fin 16, digs.data.toList[m.val]? = some (Hex.hd m.val) := by decide
theorem idx_digs (k : IntKind) (z : Int) (m : Nat) (hz : z = (m : Int)) (hm : m < 16) (w : World) :
    (Instr.index 9 (.string digs) (.int k z)).run Tryz.prog w = .ok (.int .u8 ((Hex.hd m).toNat : Int)) w := by
  subst hz
  have hs : digs.size = 36 := by decide
  rw [run_index_string w 9 digs k _ Tryz.underlying9, dif_pos ⟨by omega, by rw [hs]; omega⟩]
  have e : ((m : Int)).toNat = m := by omega
  have h := digs_at ⟨m, hm⟩
  simp only [e]
  rw [show digs[m]'(by rw [hs]; omega) = Hex.hd m from by
    have h' : digs.data.toList[m]? = some (Hex.hd m) := h
    rw [List.getElem?_eq_some_iff] at h'
    obtain ⟨_, h'⟩ := h'
    exact h']
/-- The writer's loop: places i .. 64 of the new block hold the letters that are written; v is left. -/
structure Hx (n : Nat) (w wr : World) (i v : Nat) (f : Nat → UInt8) : Prop where
  lo : 50 ≤ i
  hi : i ≤ 65
  left : v < 16 ^ (i - 49)
  text : Hex.wr n = Hex.wr v ++ (List.range (65 - i)).map (fun k => f (i + k))
  below : Below w.heap.size w wr
  size : w.heap.size < wr.heap.size
  cells : ∀ j, j < 65 → wr.cell? ⟨w.heap.size, j, none⟩ = some (.int .u8 ((f j).toNat : Int))
  free : ∀ j, j < 65 → wr.frozen? ⟨w.heap.size, j, none⟩ = false
/-- One letter more is laid. -/
theorem Hx.put {n i v : Nat} {w wr : World} {f : Nat → UInt8} (h : Hx n w wr (i + 1) v f) (x : UInt8) :
    (∀ j, j < 65 → (wr.setCell ⟨w.heap.size, i, none⟩ (.int .u8 (x.toNat : Int))).cell? ⟨w.heap.size, j, none⟩ = some (.int .u8 (((fun k => if k = i then x else f k) j).toNat : Int))) := by
  intro j hj
  have hi := h.hi
  by_cases hji : j = i
  · subst hji
    rw [World.cell?_setCell_same _ _ _ (h.cells j hj)]
    simp
  · rw [World.cell?_setCell_other _ _ _ _ (by intro e; cases e; exact hji rfl), h.cells j hj]
    simp [hji]
theorem range_put {i : Nat} {f : Nat → UInt8} (x : UInt8) (hi : i + 1 ≤ 65) :
    (List.range (65 - i)).map (fun k => (fun k => if k = i then x else f k) (i + k)) = x :: (List.range (65 - (i + 1))).map (fun k => f (i + 1 + k)) := by
  rw [show 65 - i = (65 - (i + 1)) + 1 by omega, List.range_succ_eq_map, List.map_cons, List.map_map]
  congr 1
  · simp
  · apply List.map_congr_left
    intro k _
    have : ¬ (i + (k + 1) = i) := by omega
    simp [Function.comp, show i + (k + 1) = i + 1 + k by omega]
    intro h
    omega
theorem Hx.step {n i v : Nat} {w wr : World} {f : Nat → UInt8} (h : Hx n w wr (i + 1) v f) (hv : ¬ v < 16) :
    Hx n w (wr.setCell ⟨w.heap.size, i, none⟩ (.int .u8 ((Hex.hd (v % 16)).toNat : Int))) i (v / 16) (fun k => if k = i then Hex.hd (v % 16) else f k) where
  lo := by
    have h1 := h.lo
    have h2 := h.left
    rcases Nat.lt_or_ge i 50 with hl | hl
    · exfalso
      have : i = 49 := by omega
      subst this
      simp at h2
      omega
    · exact hl
  hi := by have := h.hi; omega
  left := by
    have h1 := h.lo
    have h2 := h.left
    have h3 : 50 ≤ i := by
      rcases Nat.lt_or_ge i 50 with hl | hl
      · exfalso
        have : i = 49 := by omega
        subst this
        simp at h2
        omega
      · exact hl
    rw [show i + 1 - 49 = (i - 49) + 1 by omega, Nat.pow_succ] at h2
    omega
  text := by
    rw [h.text, Hex.wr_hi hv, range_put _ h.hi, List.append_assoc]
    rfl
  below := h.below.setCell (Nat.le_refl _) _
  size := by simpa [World.setCell] using h.size
  cells := h.put _
  free := fun j hj => by rw [World.frozen?_setCell]; exact h.free j hj
theorem Hx.drew {n i v : Nat} {w wr : World} {f : Nat → UInt8} (h : Hx n w wr i v f) : Hx n w wr.drew i v f :=
  ⟨h.lo, h.hi, h.left, h.text, h.below.drew, h.size, h.cells, h.free⟩
theorem bw_and15 (v : Nat) (hv : v < 18446744073709551616) : bits .and .u64 (v : Int) 15 = ((v % 16 : Nat) : Int) := by
  have h := bits_mask .u64 64 (by decide) (fun n h0 h1 => by rw [IntKind.wrap_u64]; omega) 4 (by decide) (v : Int) (by omega) (by omega)
  exact h.trans (by omega)
set_option maxHeartbeats 2000000 in
set_option maxRecDepth 100000 in
theorem bits_16 (n : Nat) (hn : n < 18446744073709551616) (w : World) (ht : w.cell? ⟨17, 15, none⟩ = some (.int .u8 4)) :
    Calls Tryz.prog 80 #[.slice none 0 0, .int .u64 (n : Int), .int .i64 16, .bool false, .bool false] w fun e w' => e = .returned (.tuple #[.slice none 0 0, .string ⟨(Hex.wr n).toArray⟩]) ∧ Below w.heap.size w w' := by
  have ht2 : ∀ b, (w.alloc b).cell? ⟨17, 15, none⟩ = some (.int .u8 4) := by
    intro b
    exact Lib.cell?_alloc_some b ht
  have h0 : Hid (Hx n w (w.alloc (Obj.cells Tryz.zeroCells160 160)) 65 n (fun _ => 0)) := Lib.hid {
    lo := by omega
    hi := by omega
    left := hn
    text := by simp
    below := (Below.refl _ _).alloc (Nat.le_refl _) _
    size := by simp
    cells := fun j hj => by
      rw [World.cell?_alloc_new]
      have e : Tryz.zeroCells160 = Array.replicate 65 (.int .u8 0) := rfl
      rw [e, Array.getElem?_replicate, if_pos hj]
      rfl
    free := fun j _ => World.frozen?_alloc_new _ _ _ _ }
  have hal : Tryz.prog.arrayLen 160 = 65 := by simp [Program.arrayLen, Tryz.underlying160]
  go_enter Tryz.func80, Tryz.ntmps80
  go_name_bytes PM hPM
  go_name_bytes SM hSM
  have eSM : SM = digs := by rw [← hSM]; rfl
  subst eSM
  clear hSM
  go_wp2_with (first | (refine (pow_16 _).mono ?_; rintro e w' ⟨rfl, rfl⟩) | (refine (tz_16 _ (ht2 _)).mono ?_; rintro e w' ⟨rfl, rfl⟩))
  clear ht ht2
  go_loopw [1, 13] (fun uv iv wr => ∃ (i v : Nat) (f : Nat → UInt8), uv = .int .u64 v ∧ iv = .int .i64 i ∧ Hid (Hx n w wr i v f)) (fun _ iv _ => (intOf iv).toNat)
  case atStart => exact ⟨65, n, fun _ => 0, rfl, rfl, h0⟩
  case round =>
    obtain ⟨i, v, f, rfl, rfl, hx⟩ := hrel
    rename World => wr
    obtain ⟨q, rfl⟩ : ∃ q, i = q + 1 := ⟨i - 1, by have := hx.out.lo; omega⟩
    have hq : q < 65 := by have := hx.out.hi; omega
    have hv64 : v < 18446744073709551616 := by
      have h1 := hx.out.left
      have h2 := hx.out.hi
      exact Nat.lt_of_lt_of_le h1 (Nat.le_trans (Nat.pow_le_pow_right (by omega) (show q + 1 - 49 ≤ 16 by omega)) (by decide))
    have hcl := hx.out.cells q hq
    have hfr := hx.out.free q hq
    by_cases hl : v < 16
    · have hlt : ¬ (16 : Int) ≤ v := by omega
      have hid := idx_digs .u64 (v : Int) v rfl hl
      have hsl : ∀ W, (Instr.sliceAt 160 (.pointer (some ⟨w.heap.size, 0, none⟩)) (some (.int .i64 (q : Int))) none none).run Tryz.prog W = .ok (.slice (some ⟨w.heap.size, q, none⟩) (65 - q) (65 - q)) W := fun W => by
        rw [run_sliceAt_array_l W 160 ⟨w.heap.size, 0, none⟩ (by simp [Program.arrayLen, Program.elem, Tryz.underlying160]) .i64 (q : Int) (by omega) (by rw [hal]; omega), hal]
        go_simp
        intro h
        omega
      have hcv : (convert 49 9 (.slice (some ⟨w.heap.size, q, none⟩) (65 - q) (65 - q))).run Tryz.prog (wr.setCell ⟨w.heap.size, q, none⟩ (.int .u8 ((Hex.hd v).toNat : Int))) = .ok (.string ⟨(Hex.wr n).toArray⟩) (wr.setCell ⟨w.heap.size, q, none⟩ (.int .u8 ((Hex.hd v).toNat : Int))) := by
        have ht := hx.out.text
        rw [Hex.wr_lo hl, List.singleton_append, ← range_put (Hex.hd v) hx.out.hi] at ht
        have hlen : (Hex.wr n).length = 65 - q := by rw [ht]; simp
        have h := run_convert_bytes_back (P := Tryz.prog) (wr.setCell ⟨w.heap.size, q, none⟩ (.int .u8 ((Hex.hd v).toNat : Int))) 49 9 5 ⟨w.heap.size, q, none⟩ (65 - q) (Hex.wr n) Tryz.underlying49 Tryz.underlying5 Tryz.underlying9 (fun j hj => by
          rw [Lib.add_plain, hx.out.put (Hex.hd v) (q + j) (by omega)]
          simp only [ht]
          rw [List.getElem_map, List.getElem_range])
        rw [hlen] at h
        exact h
      have HB := Lib.hid (hx.out.below.setCell (p := ⟨w.heap.size, q, none⟩) (Nat.le_refl _) (.int .u8 ((Hex.hd v).toNat : Int)))
      go_wp2
      exact bodyPost_ret (by simp [results, Tryz.results80, go_sem]) rfl ⟨rfl, HB.out⟩
    · have hge : (16 : Int) ≤ v := by omega
      have hid := idx_digs .u64 (bits .and .u64 (v : Int) 15) (v % 16) (bw_and15 v hv64) (by omega)
      have HS := Lib.hid (hx.out.step hl)
      go_wp2
      refine ⟨⟨q, v / 16, _, by norm_cast, rfl, HS⟩, by simp only [intOf]; omega⟩
theorem format_in (n : Nat) (hn : n < 18446744073709551616) (w : World) (ht : w.cell? ⟨17, 15, none⟩ = some (.int .u8 4)) :
    Calls Tryz.prog 56 #[.int .u64 (n : Int), .int .i64 16] w fun e w' => e = .returned (.string ⟨(Hex.wr n).toArray⟩) ∧ Below w.heap.size w w' := by
  go_enter Tryz.func56, Tryz.ntmps56
  go_wp2_with (refine (bits_16 n hn _ ht).mono ?_)
  rintro e w' ⟨rfl, hb⟩
  go_wp2
  go_ret
  exact ⟨rfl, hb⟩
/-- The library's writer of numbers in sixteens. -/
theorem format_any (n : Nat) (hn : n < 18446744073709551616) (w : World) (ht : w.cell? ⟨17, 15, none⟩ = some (.int .u8 4)) :
    Calls Tryz.prog 42 #[.int .u64 (n : Int), .int .i64 16] w fun e w' => e = .returned (.string ⟨(Hex.wr n).toArray⟩) ∧ Below w.heap.size w w' := by
  go_enter Tryz.func42, Tryz.ntmps42
  go_wp2_with (refine (format_in n hn _ ht).mono ?_)
  rintro e w' ⟨rfl, hb⟩
  go_wp2
  go_ret
  exact ⟨rfl, hb⟩
end Go.Proofs.YtalfjaogpbndeaaGreatDoor
