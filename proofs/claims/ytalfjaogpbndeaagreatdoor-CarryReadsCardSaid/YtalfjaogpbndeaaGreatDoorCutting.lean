/-
  Cutting at one byte, in plain words; strings.Split in these words.
  The law of cutting: what is joined is cut again.
-/
import Derived.Test.YtalfjaogpbndeaaGreatDoorBase
import Derived.Test.YtalfjaogpbndeaaGreatDoorShelfC
import Derived.Lib.SplitLaws
import Derived.Lib.IndexBytes
namespace Go.Proofs.YtalfjaogpbndeaaGreatDoor
open Go.RowKit

/-- A text cut at each byte c. -/
def cuts (c : UInt8) : List UInt8 → List (List UInt8)
  | [] => [[]]
  | x :: r => if x = c then [] :: cuts c r else ((x :: (cuts c r).headD []) :: (cuts c r).tail)
theorem cuts_ne (c : UInt8) (l : List UInt8) : cuts c l ≠ [] := by
  cases l with
  | nil => simp [cuts]
  | cons x r => unfold cuts; split <;> simp
theorem cuts_len (c : UInt8) : ∀ l, (cuts c l).length = l.count c + 1
  | [] => rfl
  | x :: r => by
    have ih := cuts_len c r
    unfold cuts
    split
    · rename_i h
      subst h
      simp [ih]
    · rename_i h
      rw [List.count_cons_of_ne (by simpa using h)]
      simp [ih]
theorem split_cuts (c : UInt8) : ∀ l, Lib.splitK [c] 0 (l.count c) l = cuts c l
  | [] => rfl
  | x :: r => by
    have ih := split_cuts c r
    by_cases h : x = c
    · subst h
      rw [List.count_cons_self, Lib.splitK]
      have hi : Lib.index (x :: r) [x] = 0 := by rw [Lib.index_one, Lib.indexByte]; simp
      rw [if_neg (by rw [hi]; decide), hi]
      simp [cuts, ih]
    · rw [List.count_cons_of_ne (by simpa using h)]
      have hx : Lib.indexByte (x :: r) c = if Lib.indexByte r c == -1 then -1 else Lib.indexByte r c + 1 := by
        rw [Lib.indexByte, if_neg (by simpa using h)]
      have hge := Lib.indexByte_ge r c
      unfold cuts
      rw [if_neg h, ← ih]
      cases hk : r.count c with
      | zero => rfl
      | succ k =>
        have hm : ¬ Lib.indexByte r c = -1 := by
          intro e
          have := List.count_pos_iff.1 (by omega : 0 < r.count c)
          obtain ⟨i, hi⟩ := List.getElem?_of_mem this
          exact Lib.indexByte_none e i hi
        rw [Lib.splitK, Lib.splitK, Lib.index_one, Lib.index_one, hx]
        have hb : (Lib.indexByte r c == -1) = false := by simpa using hm
        rw [hb]
        simp only [Bool.false_eq_true, if_false]
        rw [if_neg (by simp only [beq_iff_eq]; omega)]
        have e : (Lib.indexByte r c + 1).toNat = (Lib.indexByte r c).toNat + 1 := by omega
        rw [e]
        simp
theorem split_any (s : ByteArray) (c : UInt8) (m : Int) (w : World) (hs : s.size < 4294967281) (hm : w.cell? ⟨11, 0, none⟩ = some (.int .i64 m)) :
    Calls Tryz.prog 26 #[.string s, .string ⟨#[c]⟩] w fun e w' => e = .returned (.slice (some ⟨w.heap.size, 0, none⟩) (cuts c s.data.toList).length (cuts c s.data.toList).length) ∧
      w' = w.alloc (.cells ((cuts c s.data.toList).map fun l => Value.string ⟨l.toArray⟩).toArray 9) := by
  refine (Tryz.strings_Split s ⟨#[c]⟩ m w hs hm (by show 1 ≤ 1; omega)).mono ?_
  rintro e w' ⟨rfl, rfl⟩
  have hc : Lib.countB s ⟨#[c]⟩ = s.data.toList.count c := Lib.count_one c s.data.toList
  have hd := Lib.splitB_data ⟨#[c]⟩ 0 (Lib.countB s ⟨#[c]⟩) s
  have hl : cuts c s.data.toList = (Lib.splitB ⟨#[c]⟩ 0 (Lib.countB s ⟨#[c]⟩) s).map (·.data.toList) := by
    rw [hd, hc]
    exact (split_cuts c _).symm
  refine ⟨by rw [cuts_len, hc], ?_⟩
  rw [hl, List.map_map]
  congr 4
end Go.Proofs.YtalfjaogpbndeaaGreatDoor

namespace Go.Proofs.YtalfjaogpbndeaaGreatDoor

theorem cuts_none (c : UInt8) : ∀ l : List UInt8, c ∉ l → cuts c l = [l]
  | [], _ => rfl
  | x :: r, h => by
    have hx : ¬ x = c := fun e => h (by rw [e]; exact List.mem_cons_self)
    rw [cuts, if_neg hx, cuts_none c r (fun m => h (List.mem_cons_of_mem _ m))]
    rfl
theorem cuts_cons (c : UInt8) : ∀ (l r : List UInt8), c ∉ l → cuts c (l ++ c :: r) = l :: cuts c r
  | [], r, _ => by rw [List.nil_append, cuts, if_pos rfl]
  | x :: l, r, h => by
    have hx : ¬ x = c := fun e => h (by rw [e]; exact List.mem_cons_self)
    rw [List.cons_append, cuts, if_neg hx, cuts_cons c l r (fun m => h (List.mem_cons_of_mem _ m))]
    rfl
/-- Whole lines, each ended by c. -/
theorem cuts_lines (c : UInt8) : ∀ ls : List (List UInt8), (∀ l ∈ ls, c ∉ l) → cuts c (ls.flatMap fun l => l ++ [c]) = ls ++ [[]]
  | [], _ => rfl
  | l :: ls, h => by
    rw [List.flatMap_cons, List.append_assoc, List.singleton_append, cuts_cons c l _ (h l List.mem_cons_self), cuts_lines c ls (fun m hm => h m (List.mem_cons_of_mem _ hm))]
    rfl
end Go.Proofs.YtalfjaogpbndeaaGreatDoor
