/-
  Numbers in sixteens in plain words: how a text is read, how a number is written.   What is written in sixteens is read.
  The walk of the library's reader of numbers in sixteens.
  The walk of the library's writer of numbers in sixteens.
  The walks of carry's hex and key.
  The walk of carry's number.   What is written in tens is read.
  Cutting at one byte, in plain words; strings.Split in these words.   The law of cutting: what is joined is cut again.
  A cyclic sum in plain words: its steps can be turned back, so one byte that is turned is seen.   The walk of carry's sum.
-/
import Init
import Derived.Test.YthkfhfldoniolaaGreatDoorBase
import Derived.Lib.Strings
import Derived.Lib.ConvBytes
import Derived.Lib.AtoiAllMem
import Derived.Laws.Closers25
import Derived.Laws.Closers25b
import Derived.WalkKit
import Derived.BigCall
import Derived.BigGuard
import Derived.Lib.ItoaWalk
import Derived.Lib.SliceRun
import Derived.Lib.ItoaMem
import Derived.Test.YthkfhfldoniolaaGreatDoorShelfC
import Derived.Lib.AppendIntMem
import Derived.Lib.AtoiErrMem
import Derived.Lib.AtoiAllCases
import Derived.WalkSmall
import Derived.Lib.SplitLaws
import Derived.Lib.IndexBytes
namespace Go.Proofs.YthkfhfldoniolaaGreatDoor.Hex

def low (c : UInt8) : Nat := (c ||| 32).toNat
/-- The digit that the library reads in a byte (either case). -/
def dig (c : UInt8) : Option Nat :=
  if 48 ≤ c.toNat ∧ c.toNat ≤ 57 then some (c.toNat - 48)
  else if 97 ≤ low c ∧ low c < 103 then some (low c - 87) else none
/-- How a number ends: read, no such text, too great. -/
inductive End where
  | ok (n : Nat)
  | bad
  | big
deriving DecidableEq
def rd : Nat → List UInt8 → End
  | acc, [] => .ok acc
  | acc, c :: r => match dig c with
    | none => .bad
    | some d => if 1152921504606846976 ≤ acc then .big else rd (acc * 16 + d) r
def read (l : List UInt8) : End := if l = [] then .bad else rd 0 l
/-- The letter of a digit. -/
def hd (n : Nat) : UInt8 := if n < 10 then UInt8.ofNat (48 + n) else UInt8.ofNat (87 + n)
/-- A number's letters, no needless zeros. -/
def wr (n : Nat) : List UInt8 := if _h : n < 16 then [hd n] else wr (n / 16) ++ [hd (n % 16)]
termination_by n
theorem wr_lo {n : Nat} (h : n < 16) : wr n = [hd n] := by rw [wr, dif_pos h]
theorem wr_hi {n : Nat} (h : ¬ n < 16) : wr n = wr (n / 16) ++ [hd (n % 16)] := by rw [wr, dif_neg h]
theorem wr_len : ∀ (d n : Nat), n < 16 ^ (d + 1) → (wr n).length ≤ d + 1
  | 0, n, h => by rw [wr_lo (by omega)]; simp
  | d + 1, n, h => by
    by_cases hn : n < 16
    · rw [wr_lo hn]; simp
    · rw [wr_hi hn, List.length_append, List.length_singleton]
      have := wr_len d (n / 16) (by rw [Nat.pow_succ] at h; omega)
      omega
/-- A number in so many letters. -/
def text (n d : Nat) : List UInt8 := List.replicate (d - (wr n).length) 48 ++ wr n
/-- What a word of d letters says: a number, just so written. -/
def keyOf (l : List UInt8) (d : Nat) : Option Nat :=
  match read l with
  | .ok n => if l.length = d ∧ text n d = l then some n else none
  | _ => none
end Go.Proofs.YthkfhfldoniolaaGreatDoor.Hex

namespace Go.Proofs.YthkfhfldoniolaaGreatDoor.Hex

theorem dig_hd : ∀ m : Fin 16, dig (hd m.val) = some m.val := by decide
theorem rd_append : ∀ (l r : List UInt8) (acc a : Nat), rd acc l = .ok a → rd acc (l ++ r) = rd a r
  | [], r, acc, a, h => by
    simp only [rd, End.ok.injEq] at h
    subst h
    rfl
  | c :: l, r, acc, a, h => by
    rw [List.cons_append]
    simp only [rd] at h ⊢
    cases hd : dig c with
    | none => rw [hd] at h; cases h
    | some d =>
      rw [hd] at h
      simp only at h ⊢
      split at h
      · cases h
      · rename_i hc
        rw [if_neg hc]
        exact rd_append l r _ a h
theorem rd_wr (n : Nat) (hn : n < 18446744073709551616) : rd 0 (wr n) = .ok n := by
  by_cases h : n < 16
  · rw [wr_lo h]
    have := dig_hd ⟨n, h⟩
    simp only [rd] at this ⊢
    rw [this]
    simp
  · rw [wr_hi h, rd_append _ _ 0 (n / 16) (rd_wr (n / 16) (by omega))]
    have := dig_hd ⟨n % 16, by omega⟩
    simp only [rd] at this ⊢
    rw [this]
    simp only
    rw [if_neg (by omega)]
    congr 1
    omega
termination_by n
theorem rd_zeros : ∀ k : Nat, rd 0 (List.replicate k 48) = .ok 0
  | 0 => rfl
  | k + 1 => by
    rw [List.replicate_succ, rd]
    exact rd_zeros k
theorem wr_ne (n : Nat) : wr n ≠ [] := by
  by_cases h : n < 16
  · rw [wr_lo h]; simp
  · rw [wr_hi h]; simp
theorem read_text (n d : Nat) (hn : n < 18446744073709551616) : read (text n d) = .ok n := by
  unfold read text
  rw [if_neg (by simp [wr_ne]), rd_append _ _ 0 0 (rd_zeros _), rd_wr n hn]
theorem text_len (n d : Nat) (h : (wr n).length ≤ d) : (text n d).length = d := by
  simp [text]; omega
theorem keyOf_text (n d : Nat) (hn : n < 18446744073709551616) (h : (wr n).length ≤ d) : keyOf (text n d) d = some n := by
  rw [keyOf, read_text n d hn]
  simp [text_len n d h]
end Go.Proofs.YthkfhfldoniolaaGreatDoor.Hex

namespace Go.Proofs.YthkfhfldoniolaaGreatDoor
open Go.RowKit

end Go.Proofs.YthkfhfldoniolaaGreatDoor

namespace Go.Proofs.YthkfhfldoniolaaGreatDoor
open Go.RowKit

theorem pow_16 (w : World) :
    Calls Tryz.prog 245 #[.int .i64 16] w fun e w' => e = .returned (.bool true) ∧ w' = w := by
  have h : bits .and .i64 16 15 = 0 := by decide
  go_enter Tryz.func245, Tryz.ntmps245
  go_wp2
  go_ret
  exact ⟨rfl, rfl⟩
theorem tz64_16 (w : World) (ht : w.cell? ⟨17, 15, none⟩ = some (.int .u8 4)) :
    Calls Tryz.prog 268 #[.int .u64 16] w fun e w' => e = .returned (.int .i64 4) ∧ w' = w := by
  have h1 : IntKind.u64.wrap (-16) = 18446744073709551600 := by rw [IntKind.wrap_u64]; decide
  have h2 : bits .and .u64 16 18446744073709551600 = 16 := by decide
  have h3 : IntKind.u64.wrap 4573923408821661840 = 4573923408821661840 := by rw [IntKind.wrap_u64]; decide
  go_enter Tryz.func268, Tryz.ntmps268
  go_wp2
  go_ret
  exact ⟨rfl, rfl⟩
theorem tz_16 (w : World) (ht : w.cell? ⟨17, 15, none⟩ = some (.int .u8 4)) :
    Calls Tryz.prog 246 #[.int .u64 16] w fun e w' => e = .returned (.int .i64 4) ∧ w' = w := by
  go_enter Tryz.func246, Tryz.ntmps246
  go_wp2_with (refine (tz64_16 _ ht).mono ?_; rintro e w' ⟨rfl, rfl⟩)
  go_ret
  exact ⟨rfl, rfl⟩
def digs : ByteArray := ⟨#[48, 49, 50, 51, 52, 53, 54, 55, 56, 57, 97, 98, 99, 100, 101, 102, 103, 104, 105, 106, 107, 108, 109, 110, 111, 112, 113, 114, 115, 116, 117, 118, 119, 120, 121, 122]⟩
theorem digs_at : ∀ m : Fin 16, digs.data.toList[m.val]? = some (Hex.hd m.val) := by decide
theorem idx_digs (k : IntKind) (z : Int) (m : Nat) (hz : z = (m : Int)) (hm : m < 16) (w : World) :
    (Instr.index 9 (.string digs) (.int k z)).run Tryz.prog w = .ok (.int .u8 ((Hex.hd m).toNat : Int)) w := by
  subst hz
  have hs : digs.size = 36 := by decide
  rw [run_index_string w 9 digs k _ Tryz.underlying9, dif_pos ⟨by omega, by rw [hs]; omega⟩]
  have e : ((m : Int)).toNat = m := by omega
  have h := digs_at ⟨m, hm⟩
  simp only [e]
  rw [show digs[m]'(by rw [hs]; omega) = Hex.hd m from by
    have h' : digs.data.toList[m]? = some (Hex.hd m) := h
    rw [List.getElem?_eq_some_iff] at h'
    obtain ⟨_, h'⟩ := h'
    exact h']
/-- The writer's loop: places i .. 64 of the new block hold the letters that are written; v is left. -/
structure Hx (n : Nat) (w wr : World) (i v : Nat) (f : Nat → UInt8) : Prop where
  lo : 50 ≤ i
  hi : i ≤ 65
  left : v < 16 ^ (i - 49)
  text : Hex.wr n = Hex.wr v ++ (List.range (65 - i)).map (fun k => f (i + k))
  below : Below w.heap.size w wr
  size : w.heap.size < wr.heap.size
  cells : ∀ j, j < 65 → wr.cell? ⟨w.heap.size, j, none⟩ = some (.int .u8 ((f j).toNat : Int))
  free : ∀ j, j < 65 → wr.frozen? ⟨w.heap.size, j, none⟩ = false
/-- One letter more is laid. -/
theorem Hx.put {n i v : Nat} {w wr : World} {f : Nat → UInt8} (h : Hx n w wr (i + 1) v f) (x : UInt8) :
    (∀ j, j < 65 → (wr.setCell ⟨w.heap.size, i, none⟩ (.int .u8 (x.toNat : Int))).cell? ⟨w.heap.size, j, none⟩ = some (.int .u8 (((fun k => if k = i then x else f k) j).toNat : Int))) := by
  intro j hj
  have hi := h.hi
  by_cases hji : j = i
  · subst hji
    rw [World.cell?_setCell_same _ _ _ (h.cells j hj)]
    simp
  · rw [World.cell?_setCell_other _ _ _ _ (by intro e; cases e; exact hji rfl), h.cells j hj]
    simp [hji]
theorem range_put {i : Nat} {f : Nat → UInt8} (x : UInt8) (hi : i + 1 ≤ 65) :
    (List.range (65 - i)).map (fun k => (fun k => if k = i then x else f k) (i + k)) = x :: (List.range (65 - (i + 1))).map (fun k => f (i + 1 + k)) := by
  rw [show 65 - i = (65 - (i + 1)) + 1 by omega, List.range_succ_eq_map, List.map_cons, List.map_map]
  congr 1
  · simp
  · apply List.map_congr_left
    intro k _
    have : ¬ (i + (k + 1) = i) := by omega
    simp [Function.comp, show i + (k + 1) = i + 1 + k by omega]
    intro h
    omega
theorem Hx.step {n i v : Nat} {w wr : World} {f : Nat → UInt8} (h : Hx n w wr (i + 1) v f) (hv : ¬ v < 16) :
    Hx n w (wr.setCell ⟨w.heap.size, i, none⟩ (.int .u8 ((Hex.hd (v % 16)).toNat : Int))) i (v / 16) (fun k => if k = i then Hex.hd (v % 16) else f k) where
  lo := by
    have h1 := h.lo
    have h2 := h.left
    rcases Nat.lt_or_ge i 50 with hl | hl
    · exfalso
      have : i = 49 := by omega
      subst this
      simp at h2
      omega
    · exact hl
  hi := by have := h.hi; omega
  left := by
    have h1 := h.lo
    have h2 := h.left
    have h3 : 50 ≤ i := by
      rcases Nat.lt_or_ge i 50 with hl | hl
      · exfalso
        have : i = 49 := by omega
        subst this
        simp at h2
        omega
      · exact hl
    rw [show i + 1 - 49 = (i - 49) + 1 by omega, Nat.pow_succ] at h2
    omega
  text := by
    rw [h.text, Hex.wr_hi hv, range_put _ h.hi, List.append_assoc]
    rfl
  below := h.below.setCell (Nat.le_refl _) _
  size := by simpa [World.setCell] using h.size
  cells := h.put _
  free := fun j hj => by rw [World.frozen?_setCell]; exact h.free j hj
theorem Hx.drew {n i v : Nat} {w wr : World} {f : Nat → UInt8} (h : Hx n w wr i v f) : Hx n w wr.drew i v f :=
  ⟨h.lo, h.hi, h.left, h.text, h.below.drew, h.size, h.cells, h.free⟩
theorem bw_and15 (v : Nat) (hv : v < 18446744073709551616) : bits .and .u64 (v : Int) 15 = ((v % 16 : Nat) : Int) := by
  have h := bits_mask .u64 64 (by decide) (fun n h0 h1 => by rw [IntKind.wrap_u64]; omega) 4 (by decide) (v : Int) (by omega) (by omega)
  exact h.trans (by omega)
set_option maxHeartbeats 2000000 in
set_option maxRecDepth 100000 in
theorem bits_16 (n : Nat) (hn : n < 18446744073709551616) (w : World) (ht : w.cell? ⟨17, 15, none⟩ = some (.int .u8 4)) :
    Calls Tryz.prog 198 #[.slice none 0 0, .int .u64 (n : Int), .int .i64 16, .bool false, .bool false] w fun e w' => e = .returned (.tuple #[.slice none 0 0, .string ⟨(Hex.wr n).toArray⟩]) ∧ Below w.heap.size w w' := by
  have ht2 : ∀ b, (w.alloc b).cell? ⟨17, 15, none⟩ = some (.int .u8 4) := by
    intro b
    exact Lib.cell?_alloc_some b ht
  have h0 : Hid (Hx n w (w.alloc (Obj.cells Tryz.zeroCells322 322)) 65 n (fun _ => 0)) := Lib.hid {
    lo := by omega
    hi := by omega
    left := hn
    text := by simp
    below := (Below.refl _ _).alloc (Nat.le_refl _) _
    size := by simp
    cells := fun j hj => by
      rw [World.cell?_alloc_new]
      have e : Tryz.zeroCells322 = Array.replicate 65 (.int .u8 0) := rfl
      rw [e, Array.getElem?_replicate, if_pos hj]
      rfl
    free := fun j _ => World.frozen?_alloc_new _ _ _ _ }
  have hal : Tryz.prog.arrayLen 322 = 65 := by simp [Program.arrayLen, Tryz.underlying322]
  go_enter Tryz.func198, Tryz.ntmps198
  go_name_bytes PM hPM
  go_name_bytes SM hSM
  have eSM : SM = digs := by rw [← hSM]; rfl
  subst eSM
  clear hSM
  go_wp2_with (first | (refine (pow_16 _).mono ?_; rintro e w' ⟨rfl, rfl⟩) | (refine (tz_16 _ (ht2 _)).mono ?_; rintro e w' ⟨rfl, rfl⟩))
  clear ht ht2
  go_loopw [1, 13] (fun uv iv wr => ∃ (i v : Nat) (f : Nat → UInt8), uv = .int .u64 v ∧ iv = .int .i64 i ∧ Hid (Hx n w wr i v f)) (fun _ iv _ => (intOf iv).toNat)
  case atStart => exact ⟨65, n, fun _ => 0, rfl, rfl, h0⟩
  case round =>
    obtain ⟨i, v, f, rfl, rfl, hx⟩ := hrel
    rename World => wr
    obtain ⟨q, rfl⟩ : ∃ q, i = q + 1 := ⟨i - 1, by have := hx.out.lo; omega⟩
    have hq : q < 65 := by have := hx.out.hi; omega
    have hv64 : v < 18446744073709551616 := by
      have h1 := hx.out.left
      have h2 := hx.out.hi
      exact Nat.lt_of_lt_of_le h1 (Nat.le_trans (Nat.pow_le_pow_right (by omega) (show q + 1 - 49 ≤ 16 by omega)) (by decide))
    have hcl := hx.out.cells q hq
    have hfr := hx.out.free q hq
    by_cases hl : v < 16
    · have hlt : ¬ (16 : Int) ≤ v := by omega
      have hid := idx_digs .u64 (v : Int) v rfl hl
      have hsl : ∀ W, (Instr.sliceAt 322 (.pointer (some ⟨w.heap.size, 0, none⟩)) (some (.int .i64 (q : Int))) none none).run Tryz.prog W = .ok (.slice (some ⟨w.heap.size, q, none⟩) (65 - q) (65 - q)) W := fun W => by
        rw [run_sliceAt_array_l W 322 ⟨w.heap.size, 0, none⟩ (by simp [Program.arrayLen, Program.elem, Tryz.underlying322]) .i64 (q : Int) (by omega) (by rw [hal]; omega), hal]
        go_simp
        intro h
        omega
      have hcv : (convert 185 9 (.slice (some ⟨w.heap.size, q, none⟩) (65 - q) (65 - q))).run Tryz.prog (wr.setCell ⟨w.heap.size, q, none⟩ (.int .u8 ((Hex.hd v).toNat : Int))) = .ok (.string ⟨(Hex.wr n).toArray⟩) (wr.setCell ⟨w.heap.size, q, none⟩ (.int .u8 ((Hex.hd v).toNat : Int))) := by
        have ht := hx.out.text
        rw [Hex.wr_lo hl, List.singleton_append, ← range_put (Hex.hd v) hx.out.hi] at ht
        have hlen : (Hex.wr n).length = 65 - q := by rw [ht]; simp
        have h := run_convert_bytes_back (P := Tryz.prog) (wr.setCell ⟨w.heap.size, q, none⟩ (.int .u8 ((Hex.hd v).toNat : Int))) 185 9 5 ⟨w.heap.size, q, none⟩ (65 - q) (Hex.wr n) Tryz.underlying185 Tryz.underlying5 Tryz.underlying9 (fun j hj => by
          rw [Lib.add_plain, hx.out.put (Hex.hd v) (q + j) (by omega)]
          simp only [ht]
          rw [List.getElem_map, List.getElem_range])
        rw [hlen] at h
        exact h
      have HB := Lib.hid (hx.out.below.setCell (p := ⟨w.heap.size, q, none⟩) (Nat.le_refl _) (.int .u8 ((Hex.hd v).toNat : Int)))
      go_wp2
      exact bodyPost_ret (by simp [results, Tryz.results198, go_sem]) rfl ⟨rfl, HB.out⟩
    · have hge : (16 : Int) ≤ v := by omega
      have hid := idx_digs .u64 (bits .and .u64 (v : Int) 15) (v % 16) (bw_and15 v hv64) (by omega)
      have HS := Lib.hid (hx.out.step hl)
      go_wp2
      refine ⟨⟨q, v / 16, _, by norm_cast, rfl, HS⟩, by simp only [intOf]; omega⟩
theorem format_in (n : Nat) (hn : n < 18446744073709551616) (w : World) (ht : w.cell? ⟨17, 15, none⟩ = some (.int .u8 4)) :
    Calls Tryz.prog 156 #[.int .u64 (n : Int), .int .i64 16] w fun e w' => e = .returned (.string ⟨(Hex.wr n).toArray⟩) ∧ Below w.heap.size w w' := by
  go_enter Tryz.func156, Tryz.ntmps156
  go_wp2_with (refine (bits_16 n hn _ ht).mono ?_)
  rintro e w' ⟨rfl, hb⟩
  go_wp2
  go_ret
  exact ⟨rfl, hb⟩
/-- The library's writer of numbers in sixteens. -/
theorem format_any (n : Nat) (hn : n < 18446744073709551616) (w : World) (ht : w.cell? ⟨17, 15, none⟩ = some (.int .u8 4)) :
    Calls Tryz.prog 106 #[.int .u64 (n : Int), .int .i64 16] w fun e w' => e = .returned (.string ⟨(Hex.wr n).toArray⟩) ∧ Below w.heap.size w w' := by
  go_enter Tryz.func106, Tryz.ntmps106
  go_wp2_with (refine (format_in n hn _ ht).mono ?_)
  rintro e w' ⟨rfl, hb⟩
  go_wp2
  go_ret
  exact ⟨rfl, hb⟩
end Go.Proofs.YthkfhfldoniolaaGreatDoor

namespace Go.Proofs.YthkfhfldoniolaaGreatDoor
open Go.RowKit

/-- The library's tables and variables that carry reads. -/
structure HexW (w : World) : Prop where
  tab : w.cell? ⟨17, 15, none⟩ = some (.int .u8 4)
  syn : ∃ te pe, w.cell? ⟨14, 0, none⟩ = some (.iface te pe)
  ran : ∃ te pe, w.cell? ⟨15, 0, none⟩ = some (.iface te pe)
theorem HexW.below {B : Nat} {w w' : World} (h : HexW w) (hb : Below B w w') (hB : 23 ≤ B) : HexW w' := by
  obtain ⟨t1, p1, h1⟩ := h.syn
  obtain ⟨t2, p2, h2⟩ := h.ran
  exact ⟨(hb.cell (show 17 < B by omega)).trans h.tab, ⟨t1, p1, (hb.cell (show 14 < B by omega)).trans h1⟩, ⟨t2, p2, (hb.cell (show 15 < B by omega)).trans h2⟩⟩
theorem repeat0 : ∀ c, Lib.repeatL [48] c = List.replicate c 48
  | 0 => rfl
  | c + 1 => by rw [Lib.repeatL, repeat0 c]; rfl
theorem ba_text (n d : Nat) : (⟨(Lib.repeatL (⟨#[48]⟩ : ByteArray).data.toList (d - (Hex.wr n).length)).toArray⟩ : ByteArray) ++ ⟨(Hex.wr n).toArray⟩ = ⟨(Hex.text n d).toArray⟩ := by
  rw [Hex.text, show (⟨#[48]⟩ : ByteArray).data.toList = [48] from rfl, repeat0]
  apply ByteArray.ext
  rw [ByteArray.data_append]
  simp
/-- carry's hex: a number in so many letters. -/
theorem hex_any (n d : Nat) (hn : n < 18446744073709551616) (hd : (Hex.wr n).length ≤ d) (hd16 : d ≤ 16) (w : World) (hw : HexW w) :
    Calls Tryz.prog 201 #[.int .u64 (n : Int), .int .i64 (d : Int)] w fun e w' => e = .returned (.string ⟨(Hex.text n d).toArray⟩) ∧ Below w.heap.size w w' := by
  have hsz : ByteArray.size ⟨(Hex.wr n).toArray⟩ = (Hex.wr n).length := by simp [ByteArray.size]
  have hT := ba_text n d
  obtain ⟨m, hm⟩ : ∃ m, m = (Hex.wr n).length := ⟨_, rfl⟩
  rw [← hm] at hsz hd hT
  clear hm
  have hs2 : ByteArray.size ⟨(Lib.repeatL [48] (d - m)).toArray⟩ = d - m := by simp [ByteArray.size, Lib.repeatL_length]
  have hs3 : ¬ (281474976710656 < d - m + m) := by omega
  go_enter Tryz.func201, Tryz.ntmps201
  go_wp2_with (refine (format_any n hn _ hw.tab).mono ?_)
  rintro e w1 rfl hb1
  have HB1 := Lib.hid hb1
  clear hb1
  have hmd : (d : Int) - (m : Int) = ((d - m : Nat) : Int) := by omega
  have HR := Tryz.strings_Repeat ⟨#[48]⟩ (d - m) w1 (by omega) (by show 1 * (d - m) ≤ _; omega)
  rw [← hmd] at HR
  clear hmd
  go_wp2_with (refine HR.mono ?_; rintro e w2 ⟨rfl, hb2⟩)
  go_ret
  exact ⟨rfl, HB1.out.trans (hb2.mono HB1.out.size)⟩
end Go.Proofs.YthkfhfldoniolaaGreatDoor

namespace Go.Proofs.YthkfhfldoniolaaGreatDoor
open Go.RowKit

/-- The library's table and variables that a number wants. -/
structure NumW (w : World) : Prop where
  pow : Lib.TabIs Tryz.prog w "internal/strconv.uint64pow10" .u64 Lib.pow10Tab
  syn : ∃ te pe, w.var? Tryz.prog "strconv.ErrSyntax" = some #[.iface te pe]
  ran : ∃ te pe, w.var? Tryz.prog "strconv.ErrRange" = some #[.iface te pe]
theorem NumW.below {B : Nat} {w w' : World} (h : NumW w) (hb : Below B w w') (hB : 23 ≤ B) : NumW w' := by
  obtain ⟨t1, p1, h1⟩ := h.syn
  obtain ⟨t2, p2, h2⟩ := h.ran
  have g1 : Tryz.prog.globalNamed "strconv.ErrSyntax" = some 14 := by kernel_rfl
  have g2 : Tryz.prog.globalNamed "strconv.ErrRange" = some 15 := by kernel_rfl
  have g3 : Tryz.prog.globalNamed "internal/strconv.uint64pow10" = some 11 := by kernel_rfl
  exact ⟨var?_below hb g3 (by omega) h.pow, ⟨t1, p1, var?_below hb g1 (by omega) h1⟩, ⟨t2, p2, var?_below hb g2 (by omega) h2⟩⟩
/-- What a word says: a number, just so written. -/
def numOf (l : List UInt8) : Option Nat :=
  match Lib.atoiAll l with
  | .ok v => if l.length ≤ 14 ∧ 0 ≤ v ∧ Lib.itoa v = l then some v.toNat else none
  | _ => none
theorem atoi_any (s : ByteArray) (hmax : s.size ≤ 281474976710656) (w : World) (hw : NumW w) :
    Calls Tryz.prog 128 #[.string s] w fun e w' => ∃ (v : Int) (x : Value), e = .returned (.tuple #[.int .i64 v, x]) ∧ Below w.heap.size w w' ∧ ((∃ n, Lib.atoiAll s.data.toList = .ok n ∧ v = n ∧ x = .nilIface) ∨ ((∀ n, Lib.atoiAll s.data.toList ≠ .ok n) ∧ ∃ T p, x = .iface T p)) := by
  cases hr : Lib.atoiAll s.data.toList with
  | ok n =>
    refine (Tryz.strconv_Atoi_ok s (by omega) n hr w).mono ?_
    rintro e w' ⟨rfl, hb⟩
    refine ⟨n, _, rfl, ?_, .inl ⟨n, rfl, rfl, rfl⟩⟩
    rcases hb with rfl | ⟨t, rfl⟩
    · exact Below.refl _ _
    · exact Lib.bytesWorld_below _ _ _
  | range =>
    obtain ⟨te, pe, hv⟩ := hw.ran
    refine (Tryz.strconv_Atoi_range_var s hmax hr te pe w hv).mono ?_
    rintro e w' ⟨N, rfl, h1, h2, h3⟩
    exact ⟨_, _, rfl, h3, .inr ⟨(fun n h => by cases h), _, _, rfl⟩⟩
  | _ =>
    obtain ⟨te, pe, hv⟩ := hw.syn
    refine (Tryz.strconv_Atoi_syntax_var s hmax hr te pe w hv).mono ?_
    rintro e w' ⟨N, rfl, h1, h2, h3⟩
    exact ⟨0, _, rfl, h3, .inr ⟨(fun n h => by cases h), _, _, rfl⟩⟩
theorem itoa_any (n : Int) (h0 : -9223372036854775808 ≤ n) (h1 : n ≤ 9223372036854775807) (w : World) (hw : NumW w) :
    Calls Tryz.prog 85 #[.int .i64 n] w fun e w' => e = .returned (.string ⟨(Lib.itoa n).toArray⟩) ∧ Below w.heap.size w w' := by
  refine (Tryz.strconv_Itoa n h0 h1 w hw.pow).mono ?_
  rintro e w' ⟨rfl, k, os, rfl⟩
  exact ⟨rfl, Lib.below_grow _ _ (Nat.le_refl _) _ _⟩
end Go.Proofs.YthkfhfldoniolaaGreatDoor

namespace Go.Proofs.YthkfhfldoniolaaGreatDoor
open Go.Lib

theorem pu_append : ∀ (l r : List UInt8) (acc a : Nat), parseUint10 acc l = .ok a → parseUint10 acc (l ++ r) = parseUint10 a r
  | [], r, acc, a, h => by
    simp only [parseUint10] at h
    injection h with h
    subst h
    rfl
  | c :: l, r, acc, a, h => by
    rw [List.cons_append]
    simp only [parseUint10] at h ⊢
    split at h
    · rename_i h1
      rw [if_pos h1]
      split at h
      · cases h
      · rename_i h2
        rw [if_neg h2]
        split at h
        · cases h
        · rename_i h3
          rw [if_neg h3]
          exact pu_append l r _ a h
    · cases h
theorem tenth (m : Nat) (h : m < 10) : (UInt8.ofNat (48 + m)).toNat = 48 + m := by
  rw [UInt8.toNat_ofNat']
  omega
theorem pu_digits (n : Nat) (hn : n < 9223372036854775808) : parseUint10 0 (decDigits n) = .ok n := by
  by_cases h : n < 10
  · rw [decDigits, dif_pos h]
    simp only [parseUint10]
    rw [tenth n h]
    rw [if_pos (by omega), if_neg (by omega), if_neg (by omega)]
    congr 1
    omega
  · rw [decDigits, dif_neg h, pu_append _ _ 0 (n / 10) (pu_digits (n / 10) (by omega))]
    simp only [parseUint10]
    rw [tenth _ (by omega)]
    rw [if_pos (by omega), if_neg (by omega), if_neg (by omega)]
    congr 1
    omega
termination_by n
theorem digits_head (n : Nat) : ∃ c r, decDigits n = c :: r ∧ c.toNat ≠ 43 ∧ c.toNat ≠ 45 := by
  by_cases h : n < 10
  · exact ⟨_, [], by rw [decDigits, dif_pos h], by rw [tenth n h]; omega, by rw [tenth n h]; omega⟩
  · obtain ⟨c, r, e, h1, h2⟩ := digits_head (n / 10)
    exact ⟨c, r ++ [UInt8.ofNat (48 + n % 10)], by rw [decDigits, dif_neg h, e]; rfl, h1, h2⟩
termination_by n
theorem atoi_digits (n : Nat) (hn : n < 9223372036854775808) : atoiAll (decDigits n) = .ok (n : Int) := by
  have hp := pu_digits n hn
  obtain ⟨c, r, e, h1, h2⟩ := digits_head n
  rw [e] at hp ⊢
  rw [atoiAll_plain c r h1 h2, parseMag, if_neg (by simp), hp, signless, if_neg (by omega)]
theorem numOf_digits (n : Nat) (hn : n < 9223372036854775808) (hl : (decDigits n).length ≤ 14) : numOf (decDigits n) = some n := by
  unfold numOf
  rw [atoi_digits n hn]
  simp only
  rw [if_pos ⟨hl, by omega, itoa_nonneg n⟩]
  simp
theorem numOf_some {l : List UInt8} {n : Nat} (h : numOf l = some n) : l = decDigits n ∧ l.length ≤ 14 := by
  unfold numOf at h
  split at h
  · split at h
    · rename_i v _ hc
      have hv := Option.some.inj h
      have e : v = (n : Int) := by omega
      rw [e, itoa_nonneg] at hc
      exact ⟨hc.2.2.symm, hc.1⟩
    · cases h
  · cases h
end Go.Proofs.YthkfhfldoniolaaGreatDoor

namespace Go.Proofs.YthkfhfldoniolaaGreatDoor
open Go.RowKit

/-- A text cut at each byte c. -/
def cuts (c : UInt8) : List UInt8 → List (List UInt8)
  | [] => [[]]
  | x :: r => if x = c then [] :: cuts c r else ((x :: (cuts c r).headD []) :: (cuts c r).tail)
theorem cuts_ne (c : UInt8) (l : List UInt8) : cuts c l ≠ [] := by
  cases l with
  | nil => simp [cuts]
  | cons x r => unfold cuts; split <;> simp
theorem cuts_len (c : UInt8) : ∀ l, (cuts c l).length = l.count c + 1
  | [] => rfl
  | x :: r => by
    have ih := cuts_len c r
    unfold cuts
    split
    · rename_i h
      subst h
      simp [ih]
    · rename_i h
      rw [List.count_cons_of_ne (by simpa using h)]
      simp [ih]
theorem split_cuts (c : UInt8) : ∀ l, Lib.splitK [c] 0 (l.count c) l = cuts c l
  | [] => rfl
  | x :: r => by
    have ih := split_cuts c r
    by_cases h : x = c
    · subst h
      rw [List.count_cons_self, Lib.splitK]
      have hi : Lib.index (x :: r) [x] = 0 := by rw [Lib.index_one, Lib.indexByte]; simp
      rw [if_neg (by rw [hi]; decide), hi]
      simp [cuts, ih]
    · rw [List.count_cons_of_ne (by simpa using h)]
      have hx : Lib.indexByte (x :: r) c = if Lib.indexByte r c == -1 then -1 else Lib.indexByte r c + 1 := by
        rw [Lib.indexByte, if_neg (by simpa using h)]
      have hge := Lib.indexByte_ge r c
      unfold cuts
      rw [if_neg h, ← ih]
      cases hk : r.count c with
      | zero => rfl
      | succ k =>
        have hm : ¬ Lib.indexByte r c = -1 := by
          intro e
          have := List.count_pos_iff.1 (by omega : 0 < r.count c)
          obtain ⟨i, hi⟩ := List.getElem?_of_mem this
          exact Lib.indexByte_none e i hi
        rw [Lib.splitK, Lib.splitK, Lib.index_one, Lib.index_one, hx]
        have hb : (Lib.indexByte r c == -1) = false := by simpa using hm
        rw [hb]
        simp only [Bool.false_eq_true, if_false]
        rw [if_neg (by simp only [beq_iff_eq]; omega)]
        have e : (Lib.indexByte r c + 1).toNat = (Lib.indexByte r c).toNat + 1 := by omega
        rw [e]
        simp
theorem split_any (s : ByteArray) (c : UInt8) (m : Int) (w : World) (hs : s.size < 4294967281) (hm : w.cell? ⟨10, 0, none⟩ = some (.int .i64 m)) :
    Calls Tryz.prog 54 #[.string s, .string ⟨#[c]⟩] w fun e w' => e = .returned (.slice (some ⟨w.heap.size, 0, none⟩) (cuts c s.data.toList).length (cuts c s.data.toList).length) ∧
      w' = w.alloc (.cells ((cuts c s.data.toList).map fun l => Value.string ⟨l.toArray⟩).toArray 9) := by
  refine (Tryz.strings_Split s ⟨#[c]⟩ m w hs hm (by show 1 ≤ 1; omega)).mono ?_
  rintro e w' ⟨rfl, rfl⟩
  have hc : Lib.countB s ⟨#[c]⟩ = s.data.toList.count c := Lib.count_one c s.data.toList
  have hd := Lib.splitB_data ⟨#[c]⟩ 0 (Lib.countB s ⟨#[c]⟩) s
  have hl : cuts c s.data.toList = (Lib.splitB ⟨#[c]⟩ 0 (Lib.countB s ⟨#[c]⟩) s).map (·.data.toList) := by
    rw [hd, hc]
    exact (split_cuts c _).symm
  refine ⟨by rw [cuts_len, hc], ?_⟩
  rw [hl, List.map_map]
  congr 4
end Go.Proofs.YthkfhfldoniolaaGreatDoor

namespace Go.Proofs.YthkfhfldoniolaaGreatDoor

theorem cuts_none (c : UInt8) : ∀ l : List UInt8, c ∉ l → cuts c l = [l]
  | [], _ => rfl
  | x :: r, h => by
    have hx : ¬ x = c := fun e => h (by rw [e]; exact List.mem_cons_self)
    rw [cuts, if_neg hx, cuts_none c r (fun m => h (List.mem_cons_of_mem _ m))]
    rfl
theorem cuts_cons (c : UInt8) : ∀ (l r : List UInt8), c ∉ l → cuts c (l ++ c :: r) = l :: cuts c r
  | [], r, _ => by rw [List.nil_append, cuts, if_pos rfl]
  | x :: l, r, h => by
    have hx : ¬ x = c := fun e => h (by rw [e]; exact List.mem_cons_self)
    rw [List.cons_append, cuts, if_neg hx, cuts_cons c l r (fun m => h (List.mem_cons_of_mem _ m))]
    rfl
/-- Whole lines, each ended by c. -/
theorem cuts_lines (c : UInt8) : ∀ ls : List (List UInt8), (∀ l ∈ ls, c ∉ l) → cuts c (ls.flatMap fun l => l ++ [c]) = ls ++ [[]]
  | [], _ => rfl
  | l :: ls, h => by
    rw [List.flatMap_cons, List.append_assoc, List.singleton_append, cuts_cons c l _ (h l List.mem_cons_self), cuts_lines c ls (fun m hm => h m (List.mem_cons_of_mem _ hm))]
    rfl
end Go.Proofs.YthkfhfldoniolaaGreatDoor

namespace Go.Proofs.YthkfhfldoniolaaGreatDoor.Crc

def step (c : BitVec 32) : BitVec 32 := (c >>> 1) ^^^ (0xEDB88320#32 * (c &&& 1#32))
def steps : Nat → BitVec 32 → BitVec 32
  | 0, c => c
  | n + 1, c => step (steps n c)
def byte (c : BitVec 32) (b : UInt8) : BitVec 32 := steps 8 (c ^^^ BitVec.ofNat 32 b.toNat)
def crc (l : List UInt8) : BitVec 32 := l.foldl byte 0xFFFFFFFF#32
/-- The sum of a text. -/
def sum (l : List UInt8) : Nat := (~~~ crc l).toNat
theorem sum_lt (l : List UInt8) : sum l < 4294967296 := (~~~ crc l).isLt
end Go.Proofs.YthkfhfldoniolaaGreatDoor.Crc

namespace Go.Proofs.YthkfhfldoniolaaGreatDoor
open Go.RowKit

theorem wrap_u32 (n : Nat) (h : n < 4294967296) : IntKind.u32.wrap (n : Int) = (n : Int) := by
  simp [IntKind.wrap, IntKind.bits, IntKind.signed]; omega
theorem bw_xor (a b : BitVec 32) : bits .xor .u32 (a.toNat : Int) (b.toNat : Int) = ((a ^^^ b).toNat : Int) := by
  have h := wrap_u32 (a ^^^ b).toNat (a ^^^ b).isLt
  simp [bits, IntKind.bits] at h ⊢
  try exact h
theorem bw_and1 (a : BitVec 32) : bits .and .u32 (a.toNat : Int) 1 = ((a &&& 1#32).toNat : Int) := by
  have h := wrap_u32 (a &&& 1#32).toNat (a &&& 1#32).isLt
  have h2 : (a &&& 1#32).toNat = a.toNat % 2 := by
    rw [BitVec.toNat_and]
    show a.toNat &&& 1 = _
    rw [Nat.and_one_is_mod]
  rw [h2] at h ⊢
  have := (by simp [bits, IntKind.bits] at h ⊢; exact (congrArg (fun n : Nat => IntKind.u32.wrap (n : Int)) h2).trans h : bits .and .u32 (a.toNat : Int) ((1#32).toNat : Int) = ((a.toNat % 2 : Nat) : Int))
  exact this
theorem bw_shr (a : BitVec 32) : ((a.toNat : Int) / (2 : Int)) = ((a >>> 1).toNat : Int) := by
  rw [BitVec.toNat_ushiftRight, Nat.shiftRight_eq_div_pow]
  omega
theorem bw_byte (b : UInt8) : (b.toNat : Int) = ((BitVec.ofNat 32 b.toNat).toNat : Int) := by
  have := b.toNat_lt
  rw [BitVec.toNat_ofNat, Nat.mod_eq_of_lt (by omega)]
theorem bw_xb (c : BitVec 32) (b : UInt8) : bits .xor .u32 (c.toNat : Int) (b.toNat : Int) = ((c ^^^ BitVec.ofNat 32 b.toNat).toNat : Int) := by
  rw [bw_byte b, bw_xor]
theorem bw_xm (c : BitVec 32) (b : UInt8) : bits .xor .u32 (c.toNat : Int) ((b.toNat : Int) % 4294967296) = ((c ^^^ BitVec.ofNat 32 b.toNat).toNat : Int) := by
  have := b.toNat_lt
  rw [show ((b.toNat : Int) % 4294967296) = (b.toNat : Int) by omega, bw_xb]
theorem bw_step (d : BitVec 32) : bits .xor .u32 ((d.toNat : Int) / 2) (3988292384 * bits .and .u32 (d.toNat : Int) 1 % 4294967296) = ((Crc.step d).toNat : Int) := by
  rw [bw_and1, bw_shr]
  have h : (3988292384 : Int) * ((d &&& 1#32).toNat : Int) % 4294967296 = ((0xEDB88320#32 * (d &&& 1#32)).toNat : Int) := by
    rw [BitVec.toNat_mul]
    show _ = ((3988292384 * (d &&& 1#32).toNat % 4294967296 : Nat) : Int)
    omega
  rw [h, bw_xor]
  rfl
theorem bw_not (c : BitVec 32) : IntKind.u64.wrap (bits .xor .u32 IntKind.u32.max (c.toNat : Int)) = ((~~~ c).toNat : Int) := by
  have h : IntKind.u32.max = ((4294967295#32).toNat : Int) := by decide
  rw [h, bw_xor]
  have h2 : 4294967295#32 ^^^ c = ~~~ c := by
    exact BitVec.allOnes_xor
  rw [h2]
  have := (~~~ c).isLt
  simp [IntKind.wrap, IntKind.bits, IntKind.signed]
  omega
theorem crc_snoc (l : List UInt8) (b : UInt8) : Crc.crc (l ++ [b]) = Crc.byte (Crc.crc l) b := by simp [Crc.crc, List.foldl_append]
theorem take_snocB (s : ByteArray) (k : Nat) (h : k < s.size) : s.data.toList.take (k + 1) = s.data.toList.take k ++ [s[k]] := by
  rw [List.take_succ_eq_append_getElem (by simpa using h)]; rfl
theorem ret_u64c {a b : Int} (h : a = b) : Ending.returned (.int .u64 a) = .returned (.int .u64 b) := by rw [h]
theorem int_u32 {a b : Int} (h : a = b) : Value.int .u32 a = .int .u32 b := by rw [h]
set_option maxHeartbeats 1000000 in
theorem sum_any (s : ByteArray) (w : World) (hs : s.size ≤ maxLen) :
    Calls Tryz.prog 202 #[.string s] w fun e w' => e = .returned (.int .u64 (Crc.sum s.data.toList : Int)) ∧ w = w' := by
  unfold maxLen at hs
  go_enter Tryz.func202, Tryz.ntmps202
  go_wp2
  go_loop [3, 7] (fun cv iv => ∃ (i : Nat) (c : BitVec 32), i ≤ s.size ∧ iv = .int .i64 (i : Int) ∧ Hid (c = Crc.crc (s.data.toList.take i)) ∧ cv = .int .u32 (c.toNat : Int)) (fun _ iv => s.size - (intOf iv).toNat)
  case atStart => exact ⟨0, 0xFFFFFFFF#32, Nat.zero_le _, rfl, Lib.hid rfl, rfl⟩
  case round =>
    obtain ⟨i, c, hi, rfl, hc, rfl⟩ := hrel
    by_cases hlt : i < s.size
    · have hlt2 : (i : Int) < s.size := by omega
      have hsn := Lib.hid (take_snocB s i hlt)
      go_wp2
      go_loop [3, 16] (fun cv jv => ∃ (j : Nat) (d : BitVec 32), j ≤ 8 ∧ jv = .int .i64 (j : Int) ∧ Hid (d = Crc.steps j (c ^^^ BitVec.ofNat 32 s[i].toNat)) ∧ cv = .int .u32 (d.toNat : Int)) (fun _ jv => 8 - (intOf jv).toNat)
      case atStart => 
        refine ⟨0, c ^^^ BitVec.ofNat 32 s[i].toNat, Nat.zero_le _, rfl, Lib.hid rfl, ?_⟩
        exact int_u32 (bw_xm c s[i])
      case round =>
        obtain ⟨j, d, hj, rfl, hd, rfl⟩ := hrel
        by_cases hl8 : j < 8
        · have hl8' : (j : Int) < 8 := by omega
          go_wp2
          refine ⟨⟨j + 1, Crc.step d, by omega, by norm_cast, ?_, int_u32 (bw_step d)⟩, ?_⟩
          · exact Lib.hid (by rw [hd.out]; rfl)
          · simp only [intOf]; omega
        · have hl8' : ¬ (j : Int) < 8 := by omega
          have hj8 : j = 8 := by omega
          subst hj8
          go_wp2
          refine ⟨⟨i + 1, d, by omega, by norm_cast, ?_, rfl⟩, ?_⟩
          · exact Lib.hid (by rw [hsn.out, crc_snoc, ← hc.out, hd.out]; rfl)
          · simp only [intOf]; omega
    · have hge : ¬ (i : Int) < s.size := by omega
      have hk := hc.out
      rw [List.take_of_length_le (by simpa using (by omega : s.size ≤ i))] at hk
      go_wp2
      exact bodyPost_ret (by simp [results, Tryz.results202, go_sem]; rfl) rfl ⟨ret_u64c (by rw [bw_not]; rfl), rfl⟩
end Go.Proofs.YthkfhfldoniolaaGreatDoor
