/-
  The walk of carry's Read where the text has not the shape.
-/
import Derived.Test.YtalfjaogpbndeaaDoorCarCheck
import Derived.Test.YtalfjaogpbndeaaDoorCrc
import Derived.Deep.QuietTactic
import Derived.BigQuiet
namespace Go.Proofs.YtalfjaogpbndeaaDoor
open Go.RowKit

theorem readOf_long {s : List UInt8} (h : 20000 < s.length) : readOf s = .bad ⟨2, none⟩ := by unfold readOf; rw [if_pos h]
theorem readOf_head {s : List UInt8} (h : ¬ 20000 < s.length) (hh : headOf ((cuts 10 s).headD []) = none) : readOf s = .bad ⟨1, none⟩ := by
  unfold readOf; rw [if_neg h, hh]
theorem readOf_shape {s : List UInt8} {p : Nat × Nat} (h : ¬ 20000 < s.length) (hh : headOf ((cuts 10 s).headD []) = some p) (hn : ¬ ((cuts 10 s).length = p.2 + 3 ∧ (cuts 10 s).getLastD [] = [])) : readOf s = .bad ⟨1, none⟩ := by
  unfold readOf; rw [if_neg h, hh]; simp only; rw [if_neg hn]
/-- What Read hands back. -/
def RdPost (ea : Nat → Addr) (r : Rd) (w : World) (e : Ending) (w' : World) : Prop :=
  match r with
  | .bad f => ∃ t a, e = .returned (.tuple #[.int .i64 0, .slice none 0 0, .iface t (.pointer (some a))]) ∧ IsErr ea w' f t a ∧ Below w.heap.size w w'
  | .good ep L => ∃ v, e = .returned (.tuple #[.int .i64 (ep : Int), v, .nilIface]) ∧ w'.ownsRow w.heap.size 70 3 v L.length (flsC L) ∧ Below w.heap.size w w'
theorem rdPost_bad {ea : Nat → Addr} {r : Rd} {w w' : World} {c : Nat} (h : r = .bad ⟨c, none⟩) (hb : Below w.heap.size w w') : RdPost ea r w (.returned (.tuple #[.int .i64 0, .slice none 0 0, .iface 230 (.pointer (some (ea (gv c))))])) w' := by
  subst h; exact ⟨_, _, rfl, ⟨rfl, rfl⟩, hb⟩
theorem read_long (ea : Nat → Addr) (s : ByteArray) (w : World) (hE : ErrsK ea w) (h : 20000 < s.size) :
    Calls Tryd.prog 25 #[.string s] w (RdPost ea (readOf s.data.toList) w) := by
  rw [readOf_long (by simpa using h)]
  have c2 := hE.c2
  dsimp only [gv] at c2
  have d1 : decide ((s.size : Int) > 20000) = true := by simp; omega
  go_enter Tryd.func25, Tryd.ntmps25
  go_wp2
  go_quiet (fail)
  go_wp2
  go_ret3
  exact rdPost_bad (c := 2) rfl (below_drewN (Below.refl _ _) _)
/-- The cells of a text's lines. -/
theorem lines_cell {w : World} {cs : List (List UInt8)} {t : TypeId} {j : Nat} {l : List UInt8} (h : cs[j]? = some l) : (w.alloc (.cells (cs.map fun l => Value.string ⟨l.toArray⟩).toArray t)).cell? ⟨w.heap.size, j, none⟩ = some (.string ⟨l.toArray⟩) := by
  rw [World.cell?_alloc_new]
  simp [h]
theorem shape_ways {n m : Nat} {l : List UInt8} (h : ¬ (n = m + 3 ∧ l = [])) : decide ((n : Int) < 3) = true ∨ (decide ((n : Int) < 3) = false ∧ ¬ (m : Int) = (n : Int) - 3) ∨ (decide ((n : Int) < 3) = false ∧ (m : Int) = (n : Int) - 3 ∧ (l == []) = false) := by
  simp only [decide_eq_true_eq, decide_eq_false_iff_not]
  by_cases h1 : (n : Int) < 3
  · exact .inl h1
  · by_cases h2 : (m : Int) = (n : Int) - 3
    · exact .inr (.inr ⟨h1, h2, beq_false_of_ne fun e => h ⟨by omega, e⟩⟩)
    · exact .inr (.inl ⟨h1, h2⟩)
set_option maxRecDepth 100000 in
set_option maxHeartbeats 1000000 in
theorem read_head (ea : Nat → Addr) (s : ByteArray) (w : World) (hW : CarW w) (hE : ErrsK ea w) (h : ¬ 20000 < s.size) (hh : headOf ((cuts 10 s.data.toList).headD []) = none) :
    Calls Tryd.prog 25 #[.string s] w (RdPost ea (readOf s.data.toList) w) := by
  rw [readOf_head (by simpa using h) hh]
  have d1 : decide ((s.size : Int) > 20000) = false := by simp; omega
  obtain ⟨mx, hm⟩ := hW.mx
  have HS := split_any s 10 mx w (by omega) hm
  have hps : ∀ p ∈ cuts 10 s.data.toList, p.length ≤ 20000 := fun p hp => by
    have := piece_size hp
    have e : s.data.toList.length = s.size := by simp
    omega
  have hne := cuts_ne 10 s.data.toList
  obtain ⟨cs, hcs⟩ : ∃ cs, cs = cuts 10 s.data.toList := ⟨_, rfl⟩
  rw [← hcs] at HS hh hps hne
  clear hcs hm
  obtain ⟨a, r, rfl⟩ := List.exists_cons_of_ne_nil hne
  obtain ⟨W1, hW1⟩ : ∃ W1, W1 = w.alloc (.cells (((a :: r).map fun l => Value.string ⟨l.toArray⟩).toArray) 9) := ⟨_, rfl⟩
  rw [← hW1] at HS
  have c0 : W1.cell? ⟨w.heap.size, 0, none⟩ = some (.string ⟨a.toArray⟩) := by rw [hW1]; exact lines_cell rfl
  have hb1 := Lib.hid (show Below w.heap.size w W1 by rw [hW1]; exact (Below.refl _ _).alloc (Nat.le_refl _) _)
  have hl := hps a List.mem_cons_self
  have HH := Lib.hid (head_any ⟨a.toArray⟩ (by simp only [ByteArray.size, List.size_toArray]; omega) W1 (hW.below hb1.out))
  rw [show (⟨a.toArray⟩ : ByteArray).data.toList = a from rfl, show headOf a = none from hh] at HH
  have hlen : (0 : Int) < ((a :: r).length : Int) := by simp only [List.length_cons]; omega
  have HE := Lib.hid hE
  clear hW1 hW hE hps hh hne hl
  generalize (a :: r).length = n at *
  go_enter Tryd.func25, Tryd.ntmps25
  go_wp2_with (refine HS.mono ?_; rintro e w' ⟨rfl, rfl⟩)
  refine HH.out.mono ?_
  rintro e w2 ⟨x, y, rfl, hb2, _⟩
  have hb12 := hb1.out.trans (hb2.mono hb1.out.size)
  have c1 := (HE.out.below hb12).c1
  dsimp only [gv] at c1
  go_wp2
  go_quiet (fail)
  go_wp2
  go_ret3
  exact rdPost_bad (c := 1) rfl (below_drewN hb12 _)
set_option maxRecDepth 100000 in
set_option maxHeartbeats 1000000 in
theorem read_shape (ea : Nat → Addr) (s : ByteArray) (ep m : Nat) (w : World) (hW : CarW w) (hE : ErrsK ea w) (h : ¬ 20000 < s.size) (hh : headOf ((cuts 10 s.data.toList).headD []) = some (ep, m)) (hn : ¬ ((cuts 10 s.data.toList).length = m + 3 ∧ (cuts 10 s.data.toList).getLastD [] = [])) :
    Calls Tryd.prog 25 #[.string s] w (RdPost ea (readOf s.data.toList) w) := by
  rw [readOf_shape (by simpa using h) hh hn]
  have d1 : decide ((s.size : Int) > 20000) = false := by simp; omega
  obtain ⟨mx, hm⟩ := hW.mx
  have HS := split_any s 10 mx w (by omega) hm
  have hps : ∀ p ∈ cuts 10 s.data.toList, p.length ≤ 20000 := fun p hp => by
    have := piece_size hp
    have e : s.data.toList.length = s.size := by simp
    omega
  have hne := cuts_ne 10 s.data.toList
  have hcl := cuts_len 10 s.data.toList
  have hcl2 := List.count_le_length (a := (10 : UInt8)) (l := s.data.toList)
  have hcl3 : s.data.toList.length = s.size := by simp
  obtain ⟨cs, hcs⟩ : ∃ cs, cs = cuts 10 s.data.toList := ⟨_, rfl⟩
  rw [← hcs] at HS hh hps hne hn hcl
  clear hcs hm
  obtain ⟨a, r, rfl⟩ := List.exists_cons_of_ne_nil hne
  obtain ⟨W1, hW1⟩ : ∃ W1, W1 = w.alloc (.cells (((a :: r).map fun l => Value.string ⟨l.toArray⟩).toArray) 9) := ⟨_, rfl⟩
  rw [← hW1] at HS
  obtain ⟨z, hz⟩ : ∃ z, z = (a :: r).getLastD [] := ⟨_, rfl⟩
  have c0 : W1.cell? ⟨w.heap.size, 0, none⟩ = some (.string ⟨a.toArray⟩) := by rw [hW1]; exact lines_cell rfl
  have cz : W1.cell? ⟨w.heap.size, (a :: r).length - 1, none⟩ = some (.string ⟨z.toArray⟩) := by
    rw [hW1]
    refine lines_cell ?_
    rw [hz, List.getLastD_eq_getLast?, ← List.getLast?_eq_getElem?, List.getLast?_cons]
    rfl
  have hb1 := Lib.hid (show Below w.heap.size w W1 by rw [hW1]; exact (Below.refl _ _).alloc (Nat.le_refl _) _)
  have hlt1 : w.heap.size < W1.heap.size := World.block_lt_of_cell? _ _ c0
  have hl := hps a List.mem_cons_self
  have HH := Lib.hid (head_any ⟨a.toArray⟩ (by simp only [ByteArray.size, List.size_toArray]; omega) W1 (hW.below hb1.out))
  rw [show (⟨a.toArray⟩ : ByteArray).data.toList = a from rfl, show headOf a = some (ep, m) from hh] at HH
  have hlen : (0 : Int) < ((a :: r).length : Int) := by simp only [List.length_cons]; omega
  have HE := Lib.hid hE
  rw [← hz] at hn
  have hway := shape_ways hn
  clear hW1 hW hE hps hh hne hl hz hn
  have hln : ((((a :: r).length - 1 : Nat) : Int)) = ((a :: r).length : Int) - 1 := by omega
  have hn1 : (a :: r).length ≤ 20001 := by omega
  clear hcl hcl2 hcl3
  generalize (a :: r).length = n at *
  rcases hway with d2 | ⟨d2, d3⟩ | ⟨d2, d3, d4⟩
  all_goals
    go_enter Tryd.func25, Tryd.ntmps25
    go_wp2_with (refine HS.mono ?_; rintro e w' ⟨rfl, rfl⟩)
    refine HH.out.mono ?_
    rintro e w2 ⟨x, y, rfl, hb2, hxy⟩
    obtain ⟨hx, hy⟩ := hxy _ rfl
    subst hx hy
    have hb12 := hb1.out.trans (hb2.mono hb1.out.size)
    have c1 := (HE.out.below hb12).c1
    have cz2 := (hb2.cell (p := ⟨w.heap.size, n - 1, none⟩) hlt1).trans cz
    dsimp only [gv] at c1
    clear hb2 hxy hlt1
    go_wp2
    go_quiet (fail)
    go_wp2
    go_ret3
    exact rdPost_bad (c := 1) rfl (below_drewN hb12 _)
end Go.Proofs.YtalfjaogpbndeaaDoor
