/-
  The walk of carry's Read where the text has not the shape.
  The walk of carry's Read where the text has the shape.
-/
import Derived.Test.YteilefpjfbholaaGreatDoorCarLaws
import Derived.Test.YteilefpjfbholaaGreatDoorHexNum
import Derived.Deep.QuietTactic
import Derived.BigQuiet
namespace Go.Proofs.YteilefpjfbholaaGreatDoor
open Go.RowKit

theorem readOf_long {s : List UInt8} (h : 20000 < s.length) : readOf s = .bad ⟨2, none⟩ := by unfold readOf; rw [if_pos h]
theorem readOf_head {s : List UInt8} (h : ¬ 20000 < s.length) (hh : headOf ((cuts 10 s).headD []) = none) : readOf s = .bad ⟨1, none⟩ := by
  unfold readOf; rw [if_neg h, hh]
theorem readOf_shape {s : List UInt8} {p : Nat × Nat} (h : ¬ 20000 < s.length) (hh : headOf ((cuts 10 s).headD []) = some p) (hn : ¬ ((cuts 10 s).length = p.2 + 3 ∧ (cuts 10 s).getLastD [] = [])) : readOf s = .bad ⟨1, none⟩ := by
  unfold readOf; rw [if_neg h, hh]; simp only; rw [if_neg hn]
/-- What Read hands back. -/
def RdPost (ea : Nat → Addr) (r : Rd) (w : World) (e : Ending) (w' : World) : Prop :=
  match r with
  | .bad f => ∃ t a, e = .returned (.tuple #[.int .i64 0, .slice none 0 0, .iface t (.pointer (some a))]) ∧ IsErr ea w' f t a ∧ Below w.heap.size w w'
  | .good ep L => ∃ v, e = .returned (.tuple #[.int .i64 (ep : Int), v, .nilIface]) ∧ w'.ownsRow w.heap.size 43 3 v L.length (flsC L) ∧ Below w.heap.size w w'
theorem rdPost_bad {ea : Nat → Addr} {r : Rd} {w w' : World} {c : Nat} (h : r = .bad ⟨c, none⟩) (hb : Below w.heap.size w w') : RdPost ea r w (.returned (.tuple #[.int .i64 0, .slice none 0 0, .iface 330 (.pointer (some (ea (gv c))))])) w' := by
  subst h; exact ⟨_, _, rfl, ⟨rfl, rfl⟩, hb⟩
theorem read_long (ea : Nat → Addr) (s : ByteArray) (w : World) (hE : ErrsK ea w) (h : 20000 < s.size) :
    Calls Tryz.prog 50 #[.string s] w (RdPost ea (readOf s.data.toList) w) := by
  rw [readOf_long (by simpa using h)]
  have c2 := hE.c2
  dsimp only [gv] at c2
  have d1 : decide ((s.size : Int) > 20000) = true := by simp; omega
  go_enter Tryz.func50, Tryz.ntmps50
  go_wp2
  go_quiet (fail)
  go_wp2
  go_ret3
  exact rdPost_bad (c := 2) rfl (below_drewN (Below.refl _ _) _)
/-- The cells of a text's lines. -/
theorem lines_cell {w : World} {cs : List (List UInt8)} {t : TypeId} {j : Nat} {l : List UInt8} (h : cs[j]? = some l) : (w.alloc (.cells (cs.map fun l => Value.string ⟨l.toArray⟩).toArray t)).cell? ⟨w.heap.size, j, none⟩ = some (.string ⟨l.toArray⟩) := by
  rw [World.cell?_alloc_new]
  simp [h]
theorem shape_ways {n m : Nat} {l : List UInt8} (h : ¬ (n = m + 3 ∧ l = [])) : decide ((n : Int) < 3) = true ∨ (decide ((n : Int) < 3) = false ∧ ¬ (m : Int) = (n : Int) - 3) ∨ (decide ((n : Int) < 3) = false ∧ (m : Int) = (n : Int) - 3 ∧ (l == []) = false) := by
  simp only [decide_eq_true_eq, decide_eq_false_iff_not]
  by_cases h1 : (n : Int) < 3
  · exact .inl h1
  · by_cases h2 : (m : Int) = (n : Int) - 3
    · exact .inr (.inr ⟨h1, h2, beq_false_of_ne fun e => h ⟨by omega, e⟩⟩)
    · exact .inr (.inl ⟨h1, h2⟩)
set_option maxRecDepth 100000 in
set_option maxHeartbeats 1000000 in
theorem read_head (ea : Nat → Addr) (s : ByteArray) (w : World) (hW : CarW w) (hE : ErrsK ea w) (h : ¬ 20000 < s.size) (hh : headOf ((cuts 10 s.data.toList).headD []) = none) :
    Calls Tryz.prog 50 #[.string s] w (RdPost ea (readOf s.data.toList) w) := by
  rw [readOf_head (by simpa using h) hh]
  have d1 : decide ((s.size : Int) > 20000) = false := by simp; omega
  obtain ⟨mx, hm⟩ := hW.mx
  have HS := split_any s 10 mx w (by omega) hm
  have hps : ∀ p ∈ cuts 10 s.data.toList, p.length ≤ 20000 := fun p hp => by
    have := piece_size hp
    have e : s.data.toList.length = s.size := by simp
    omega
  have hne := cuts_ne 10 s.data.toList
  obtain ⟨cs, hcs⟩ : ∃ cs, cs = cuts 10 s.data.toList := ⟨_, rfl⟩
  rw [← hcs] at HS hh hps hne
  clear hcs hm
  obtain ⟨a, r, rfl⟩ := List.exists_cons_of_ne_nil hne
  obtain ⟨W1, hW1⟩ : ∃ W1, W1 = w.alloc (.cells (((a :: r).map fun l => Value.string ⟨l.toArray⟩).toArray) 9) := ⟨_, rfl⟩
  rw [← hW1] at HS
  have c0 : W1.cell? ⟨w.heap.size, 0, none⟩ = some (.string ⟨a.toArray⟩) := by rw [hW1]; exact lines_cell rfl
  have hb1 := Lib.hid (show Below w.heap.size w W1 by rw [hW1]; exact (Below.refl _ _).alloc (Nat.le_refl _) _)
  have hl := hps a List.mem_cons_self
  have HH := Lib.hid (head_any ⟨a.toArray⟩ (by simp only [ByteArray.size, List.size_toArray]; omega) W1 (hW.below hb1.out))
  rw [show (⟨a.toArray⟩ : ByteArray).data.toList = a from rfl, show headOf a = none from hh] at HH
  have hlen : (0 : Int) < ((a :: r).length : Int) := by simp only [List.length_cons]; omega
  have HE := Lib.hid hE
  clear hW1 hW hE hps hh hne hl
  generalize (a :: r).length = n at *
  go_enter Tryz.func50, Tryz.ntmps50
  go_wp2_with (refine HS.mono ?_; rintro e w' ⟨rfl, rfl⟩)
  refine HH.out.mono ?_
  rintro e w2 ⟨x, y, rfl, hb2, _⟩
  have hb12 := hb1.out.trans (hb2.mono hb1.out.size)
  have c1 := (HE.out.below hb12).c1
  dsimp only [gv] at c1
  go_wp2
  go_quiet (fail)
  go_wp2
  go_ret3
  exact rdPost_bad (c := 1) rfl (below_drewN hb12 _)
set_option maxRecDepth 100000 in
set_option maxHeartbeats 1000000 in
theorem read_shape (ea : Nat → Addr) (s : ByteArray) (ep m : Nat) (w : World) (hW : CarW w) (hE : ErrsK ea w) (h : ¬ 20000 < s.size) (hh : headOf ((cuts 10 s.data.toList).headD []) = some (ep, m)) (hn : ¬ ((cuts 10 s.data.toList).length = m + 3 ∧ (cuts 10 s.data.toList).getLastD [] = [])) :
    Calls Tryz.prog 50 #[.string s] w (RdPost ea (readOf s.data.toList) w) := by
  rw [readOf_shape (by simpa using h) hh hn]
  have d1 : decide ((s.size : Int) > 20000) = false := by simp; omega
  obtain ⟨mx, hm⟩ := hW.mx
  have HS := split_any s 10 mx w (by omega) hm
  have hps : ∀ p ∈ cuts 10 s.data.toList, p.length ≤ 20000 := fun p hp => by
    have := piece_size hp
    have e : s.data.toList.length = s.size := by simp
    omega
  have hne := cuts_ne 10 s.data.toList
  have hcl := cuts_len 10 s.data.toList
  have hcl2 := List.count_le_length (a := (10 : UInt8)) (l := s.data.toList)
  have hcl3 : s.data.toList.length = s.size := by simp
  obtain ⟨cs, hcs⟩ : ∃ cs, cs = cuts 10 s.data.toList := ⟨_, rfl⟩
  rw [← hcs] at HS hh hps hne hn hcl
  clear hcs hm
  obtain ⟨a, r, rfl⟩ := List.exists_cons_of_ne_nil hne
  obtain ⟨W1, hW1⟩ : ∃ W1, W1 = w.alloc (.cells (((a :: r).map fun l => Value.string ⟨l.toArray⟩).toArray) 9) := ⟨_, rfl⟩
  rw [← hW1] at HS
  obtain ⟨z, hz⟩ : ∃ z, z = (a :: r).getLastD [] := ⟨_, rfl⟩
  have c0 : W1.cell? ⟨w.heap.size, 0, none⟩ = some (.string ⟨a.toArray⟩) := by rw [hW1]; exact lines_cell rfl
  have cz : W1.cell? ⟨w.heap.size, (a :: r).length - 1, none⟩ = some (.string ⟨z.toArray⟩) := by
    rw [hW1]
    refine lines_cell ?_
    rw [hz, List.getLastD_eq_getLast?, ← List.getLast?_eq_getElem?, List.getLast?_cons]
    rfl
  have hb1 := Lib.hid (show Below w.heap.size w W1 by rw [hW1]; exact (Below.refl _ _).alloc (Nat.le_refl _) _)
  have hlt1 : w.heap.size < W1.heap.size := World.block_lt_of_cell? _ _ c0
  have hl := hps a List.mem_cons_self
  have HH := Lib.hid (head_any ⟨a.toArray⟩ (by simp only [ByteArray.size, List.size_toArray]; omega) W1 (hW.below hb1.out))
  rw [show (⟨a.toArray⟩ : ByteArray).data.toList = a from rfl, show headOf a = some (ep, m) from hh] at HH
  have hlen : (0 : Int) < ((a :: r).length : Int) := by simp only [List.length_cons]; omega
  have HE := Lib.hid hE
  rw [← hz] at hn
  have hway := shape_ways hn
  clear hW1 hW hE hps hh hne hl hz hn
  have hln : ((((a :: r).length - 1 : Nat) : Int)) = ((a :: r).length : Int) - 1 := by omega
  have hn1 : (a :: r).length ≤ 20001 := by omega
  clear hcl hcl2 hcl3
  generalize (a :: r).length = n at *
  rcases hway with d2 | ⟨d2, d3⟩ | ⟨d2, d3, d4⟩
  all_goals
    go_enter Tryz.func50, Tryz.ntmps50
    go_wp2_with (refine HS.mono ?_; rintro e w' ⟨rfl, rfl⟩)
    refine HH.out.mono ?_
    rintro e w2 ⟨x, y, rfl, hb2, hxy⟩
    obtain ⟨hx, hy⟩ := hxy _ rfl
    subst hx hy
    have hb12 := hb1.out.trans (hb2.mono hb1.out.size)
    have c1 := (HE.out.below hb12).c1
    have cz2 := (hb2.cell (p := ⟨w.heap.size, n - 1, none⟩) hlt1).trans cz
    dsimp only [gv] at c1
    clear hb2 hxy hlt1
    go_wp2
    go_quiet (fail)
    go_wp2
    go_ret3
    exact rdPost_bad (c := 1) rfl (below_drewN hb12 _)
end Go.Proofs.YteilefpjfbholaaGreatDoor

namespace Go.Proofs.YteilefpjfbholaaGreatDoor
open Go.RowKit

/-- What the lines say. -/
def restOf (s : List UInt8) (ep : Nat) (last : List UInt8) (o : Option (List Fl)) : Rd :=
  match o with
  | none => .bad ⟨1, none⟩
  | some L => match sumOf last with
    | none => .bad ⟨1, none⟩
    | some n => if n = Crc.sum (s.take (s.length - last.length - 1)) then
        (match checkOf ep L with
        | some f => .bad f
        | none => .good ep L) else .bad ⟨9, none⟩
theorem readOf_rest {s h last : List UInt8} {mid : List (List UInt8)} {ep : Nat} (h1 : ¬ 20000 < s.length) (hc : cuts 10 s = h :: (mid ++ [last, []])) (hh : headOf h = some (ep, mid.length)) : readOf s = restOf s ep last (flowsOf mid) := by
  have g1 : (h :: (mid ++ [last, []])).getD (mid.length + 1) [] = last := by
    rw [List.getD_cons_succ, List.getD_eq_getElem?_getD, List.getElem?_append_right (by omega), Nat.sub_self]; rfl
  have g2 : (h :: (mid ++ [last, []])).getLastD [] = [] := by
    rw [show h :: (mid ++ [last, []]) = (h :: mid ++ [last]) ++ [[]] by simp]; exact getLastD_end _ _
  have g3 : ((h :: (mid ++ [last, []])).drop 1).take mid.length = mid := by simp
  unfold readOf restOf
  rw [if_neg h1, hc]
  simp only [List.headD_cons, hh, g1, g2, g3]
  rw [if_pos ⟨by simp, trivial⟩]
  rfl
theorem flowsOf_append : ∀ a b : List (List UInt8), flowsOf (a ++ b) = match flowsOf a with | none => none | some x => match flowsOf b with | none => none | some y => some (x ++ y)
  | [], b => by cases h : flowsOf b <;> simp [flowsOf, h]
  | t :: r, b => by
    rw [List.cons_append, flowsOf, flowsOf, flowsOf_append r b]
    cases flowOf t with
    | none => rfl
    | some p =>
      cases flowsOf r with
      | none => rfl
      | some x => cases flowsOf b <;> rfl
theorem flowsOf_succ {mid : List (List UInt8)} {i : Nat} {L : List Fl} {p : Nat × List UInt8 × Nat} (hi : i < mid.length) (h : flowsOf (mid.take i) = some L) (hp : flowOf mid[i] = some p) : flowsOf (mid.take (i + 1)) = some (L ++ [⟨p.1, ⟨p.2.1.toArray⟩, (p.2.2 : Int)⟩]) := by
  rw [List.take_succ_eq_append_getElem hi, flowsOf_append, h]
  simp [flowsOf, hp]
theorem flowsOf_bad {mid : List (List UInt8)} {i : Nat} (hi : i < mid.length) (hp : flowOf mid[i] = none) : flowsOf mid = none := by
  rw [← List.take_append_drop i mid, List.drop_eq_getElem_cons hi, flowsOf_append]
  cases flowsOf (mid.take i) with
  | none => rfl
  | some x => simp [flowsOf, hp]
theorem flow_host {x : Fl} {l : List UInt8} (h : l = flowLine x) : x.host.size ≤ l.length := by
  subst h
  have : x.host.data.toList.length = x.host.size := by simp
  unfold flowLine
  simp only [List.length_append, List.length_cons]
  omega
theorem fl_cell (w : World) (o : Obj) (x : Fl) : ∀ (j : Nat) (u : Value), (flC x)[j]? = some u → ((w.alloc o).alloc (.cells #[.int .u64 (x.key : Int), .string x.host, .int .i64 x.til] 43)).cell? ((⟨w.heap.size + 1, 0, none⟩ : Addr).add j) = some u := by
  intro j u hu
  have hB := Blk.new (w.alloc o) 43 #[.int .u64 (x.key : Int), .string x.host, .int .i64 x.til]
  rw [add_zero_]
  have e : (w.alloc o).heap.size = w.heap.size + 1 := by simp
  rw [e] at hB
  refine (hB.cell j).trans ?_
  simpa [flC] using hu
theorem flC_oneCell (x : Fl) : ∀ u ∈ flC x, u.oneCell' = true := by
  intro u hu
  simp only [flC, List.mem_cons, List.not_mem_nil, or_false] at hu
  rcases hu with rfl | rfl | rfl <;> rfl
set_option maxRecDepth 100000 in
set_option maxHeartbeats 2000000 in
theorem read_body (ea : Nat → Addr) (s : ByteArray) (ep : Nat) (a last : List UInt8) (mid : List (List UInt8)) (w : World) (hW : CarW w) (hE : ErrsK ea w) (h : ¬ 20000 < s.size) (hc : cuts 10 s.data.toList = a :: (mid ++ [last, []])) (hh : headOf a = some (ep, mid.length)) :
    Calls Tryz.prog 50 #[.string s] w (RdPost ea (readOf s.data.toList) w) := by
  have hR := readOf_rest (by simpa using h) hc hh
  have d1 : decide ((s.size : Int) > 20000) = false := by simp; omega
  obtain ⟨mx, hm⟩ := hW.mx
  have HS := split_any s 10 mx w (by omega) hm
  have hps : ∀ p ∈ cuts 10 s.data.toList, p.length ≤ 20000 := fun p hp => by
    have := piece_size hp
    have e : s.data.toList.length = s.size := by simp
    omega
  have hls : last.length + 1 ≤ s.size := by
    have h1 := congrArg List.length (glue_ends 10 (a :: mid ++ [last]) s.data.toList (by rw [hc]; simp))
    rw [List.flatMap_append, List.length_append] at h1
    have h2 : s.data.toList.length = s.size := by simp
    simp only [List.flatMap_cons, List.flatMap_nil, List.append_nil, List.length_append, List.length_singleton] at h1
    omega
  have hcl := cuts_len 10 s.data.toList
  have hcl2 := List.count_le_length (a := (10 : UInt8)) (l := s.data.toList)
  have hcl3 : s.data.toList.length = s.size := by simp
  rw [hc] at HS hps hcl
  obtain ⟨cs, hcs⟩ : ∃ cs, cs = a :: (mid ++ [last, []]) := ⟨_, rfl⟩
  have hlen : cs.length = mid.length + 3 := by rw [hcs]; simp
  rw [← hcs] at HS hps hcl
  obtain ⟨W1, hW1⟩ : ∃ W1, W1 = w.alloc (.cells ((cs.map fun l => Value.string ⟨l.toArray⟩).toArray) 9) := ⟨_, rfl⟩
  rw [← hW1] at HS
  have c0 : W1.cell? ⟨w.heap.size, 0, none⟩ = some (.string ⟨a.toArray⟩) := by rw [hW1]; exact lines_cell (by rw [hcs]; rfl)
  have cl : W1.cell? ⟨w.heap.size, mid.length + 1, none⟩ = some (.string ⟨last.toArray⟩) := by
    rw [hW1]; refine lines_cell ?_; rw [hcs, List.getElem?_cons_succ, List.getElem?_append_right (by omega), Nat.sub_self]; rfl
  have cz : W1.cell? ⟨w.heap.size, mid.length + 2, none⟩ = some (.string ⟨#[]⟩) := by
    rw [hW1]; refine lines_cell (l := []) ?_; rw [hcs, List.getElem?_cons_succ, List.getElem?_append_right (by omega), show mid.length + 1 - mid.length = 1 by omega]; rfl
  have HM : Hid (∀ i (hi : i < mid.length), W1.cell? ⟨w.heap.size, 1 + i, none⟩ = some (.string ⟨mid[i].toArray⟩)) := Lib.hid fun i hi => by
    rw [hW1]; refine lines_cell ?_; rw [hcs, Nat.add_comm, List.getElem?_cons_succ, List.getElem?_append_left hi, List.getElem?_eq_getElem hi]
  have hb1 := Lib.hid (show Below w.heap.size w W1 by rw [hW1]; exact (Below.refl _ _).alloc (Nat.le_refl _) _)
  have hlt1 : w.heap.size < W1.heap.size := World.block_lt_of_cell? _ _ c0
  have HPS : Hid (∀ i (hi : i < mid.length), mid[i].length ≤ 20000) := Lib.hid fun i hi => hps _ (by rw [hcs]; exact List.mem_cons_of_mem _ (List.mem_append_left _ (List.getElem_mem hi)))
  have hla := hps a (by rw [hcs]; exact List.mem_cons_self)
  have hll := hps last (by rw [hcs]; simp)
  have HH := Lib.hid (head_any ⟨a.toArray⟩ (by simp only [ByteArray.size, List.size_toArray]; omega) W1 (hW.below hb1.out))
  rw [show (⟨a.toArray⟩ : ByteArray).data.toList = a from rfl, hh] at HH
  have HE := Lib.hid hE
  have HW := Lib.hid hW
  have HR := Lib.hid hR
  have hm1 : mid.length ≤ 20000 := by omega
  have hnm : ((mid.length : Nat) : Int) = (cs.length : Int) - 3 := by omega
  have hn1 : cs.length ≤ 20001 := by omega
  have hn3 : (cs.length : Int) = (mid.length : Int) + 3 := by omega
  have d2 : decide ((mid.length : Int) + 3 < 3) = false := by simp; omega
  rw [hlen] at HS
  clear hcs hW1 hW hE hR hps hc hh hm hcl hcl2 hcl3 hla hnm hn3 hlen hn1
  clear cs
  go_enter Tryz.func50, Tryz.ntmps50
  go_wp2_with (refine HS.mono ?_; rintro e w' ⟨rfl, rfl⟩)
  refine HH.out.mono ?_
  rintro e w2 ⟨x, y, rfl, hb2, hxy⟩
  obtain ⟨hx, hy⟩ := hxy _ rfl
  subst hx hy
  have hb12 := Lib.hid (hb1.out.trans (hb2.mono hb1.out.size))
  have cz2 := (hb2.cell (p := ⟨w.heap.size, mid.length + 2, none⟩) hlt1).trans cz
  clear hxy c0 cz HH HS
  go_wp2_with fail
  have hlt2 : w.heap.size < w2.heap.size := Nat.lt_of_lt_of_le hlt1 hb2.size
  have HM2 : Hid (∀ i (hi : i < mid.length), w2.cell? ⟨w.heap.size, 1 + i, none⟩ = some (.string ⟨mid[i].toArray⟩)) := Lib.hid fun i hi => (hb2.cell (p := ⟨w.heap.size, 1 + i, none⟩) hlt1).trans (HM.out i hi)
  have cl2 := Lib.hid ((hb2.cell (p := ⟨w.heap.size, mid.length + 1, none⟩) hlt1).trans cl)
  have HR2 : Hid (∀ i (hi : i < mid.length), flowOf mid[i] = none → readOf s.data.toList = .bad ⟨1, none⟩) := Lib.hid fun i hi hn => by rw [HR.out, flowsOf_bad hi hn]; rfl
  have HSU : Hid (∀ i (hi : i < mid.length) L p, flowsOf (mid.take i) = some L → flowOf mid[i] = some p → flowsOf (mid.take (i + 1)) = some (L ++ [⟨p.1, ⟨p.2.1.toArray⟩, (p.2.2 : Int)⟩])) := Lib.hid fun i hi L p h1 h2 => flowsOf_succ hi h1 h2
  obtain ⟨i0, hi0, hz0, hz1, hz2⟩ := info_parts info_flow
  clear HM cl cz2 hb2 hlt1 hb1
  rw [show mid.length + 3 - 2 - 1 = mid.length by omega, show mid.length + 3 - 1 = mid.length + 2 by omega]
  go_loopw [9, 11, 13, 63] (fun ov _ _ iv wr => ∃ (i : Nat) (L : List Fl), i ≤ mid.length ∧ iv = .int .i64 (i : Int) ∧ Hid (flowsOf (mid.take i) = some L ∧ L.length = i ∧ wr.ownsRow w2.heap.size 43 3 ov i (flsC L)) ∧ Hid (Below w2.heap.size w2 wr)) (fun _ _ _ iv _ => mid.length + 1 - (intOf iv).toNat)
  case atStart => exact ⟨0, [], Nat.zero_le _, rfl, Lib.hid ⟨rfl, rfl, World.ownsRow_nil _ _ _ _⟩, Lib.hid (Below.refl _ _)⟩
  case round =>
    obtain ⟨i, L, hi, rfl, hL, hb⟩ := hrel
    by_cases hil : i < mid.length
    · have hil2 : (i : Int) < mid.length := by omega
      have cm := (hb.out.cell (p := ⟨w.heap.size, 1 + i, none⟩) hlt2).trans (HM2.out i hil)
      have hsz := HPS.out i hil
      have HF := Lib.hid (flow_any ⟨mid[i].toArray⟩ (by simp only [ByteArray.size, List.size_toArray]; omega) wr (HW.out.below (hb12.out.trans (hb.out.mono hb12.out.size))))
      rw [show (⟨mid[i].toArray⟩ : ByteArray).data.toList = mid[i] from rfl] at HF
      have HB := HR2.out i hil
      have HS1 := HSU.out i hil L
      generalize mid[i] = t at *
      cases hp : flowOf t with
      | none =>
        rw [hp] at HF
        have HQ := Lib.hid (HB hp)
        clear HB HS1
        go_wp2_with fail
        refine HF.out.mono ?_
        rintro e w3 ⟨k, hh, tt, rfl, hb3, _⟩
        have hb13 := hb12.out.trans ((hb.out.trans (hb3.mono hb.out.size)).mono hb12.out.size)
        have hb14 := hb13.alloc hb13.size (.cells #[.int .u64 (k : Int), .string hh, .int .i64 tt] 43)
        have c1 := (HE.out.below hb14).c1
        dsimp only [gv] at c1
        go_wp2
        go_quiet (fail)
        go_wp2
        go_ret3
        exact rdPost_bad (c := 1) HQ.out (below_drewN hb14 _)
      | some p =>
        rw [hp] at HF
        have HQ := Lib.hid (HS1 p hL.out.1 hp)
        clear HB HS1 hp
        go_wp2_with fail
        refine HF.out.mono ?_
        rintro e w3 ⟨k, hh, tt, rfl, hb3, hxy⟩
        obtain ⟨h1, h2, h3⟩ := hxy _ rfl
        obtain ⟨x, hx⟩ : ∃ x : Fl, x = ⟨p.1, ⟨p.2.1.toArray⟩, (p.2.2 : Int)⟩ := ⟨_, rfl⟩
        have e1 : k = x.key := by rw [hx]; exact h1
        have e2 : hh = x.host := by rw [hx]; exact h2
        have e3 : tt = x.til := by rw [hx]; exact h3
        rw [← hx] at HQ
        subst e1 e2 e3
        clear hxy h1 h2 h3 hx
        obtain ⟨-, rfl, hown⟩ := hL.out
        have hb13 := hb.out.trans (hb3.mono hb.out.size)
        have HO : Hid (∀ W, Below w3.heap.size w3 W → W.ownsRow w2.heap.size 43 3 u9 L.length (flsC L)) := Lib.hid fun W hW => own_below (own_below hown hb3) hW
        clear hown
        have hB3 : w2.heap.size ≤ w3.heap.size := hb13.size
        have HB35 := Lib.hid (((Below.refl w3.heap.size w3).alloc (Nat.le_refl _) (.cells #[.int .u64 (x.key : Int), .string x.host, .int .i64 x.til] 43)).alloc (by simp) (.cells #[.int .u64 (x.key : Int), .string x.host, .int .i64 x.til] 43))
        have HB15 := Lib.hid (hb13.trans (HB35.out.mono hB3))
        go_wp2_with (first
          | (at_builtin
             go_must (refine wpList_append_own _ rfl _ _ 40 rfl w2.heap.size 43 i0 _ 3 32 Tryz.underlying40 hi0 hz0 hz1 hz2 rfl (by decide) _ L.length (flsC L) rfl (HO.out _ HB35.out) ⟨w3.heap.size + 1, 0, none⟩ 1 1 (flC x) rfl rfl (fl_cell w3 _ x) (flC_oneCell x) ?h1 ?h2 ?h3 ?_)
             case h1 => simp only [maxLen]; omega
             case h2 => omega
             case h3 => simp; omega
             intro v6 w6 hown6 hg6 _)
          | fail)
        have hown7 : w6.ownsRow w2.heap.size 43 3 v6 (L.length + 1) (flsC (L ++ [x])) := by
          rw [flsC_append]
          simpa [flsC] using hown6
        have hb6 := HB15.out.grown hg6 HB15.out.size (fun g e => ((HO.out _ HB35.out).lt g e).1)
        go_roundw
        case rel => exact ⟨L.length + 1, L ++ [x], by omega, by go_num, Lib.hid ⟨HQ.out, by simp, hown7⟩, Lib.hid hb6⟩
        case measure => simp [intOf]; omega
    · obtain rfl : i = mid.length := by omega
      have hge : ¬ (mid.length : Int) < mid.length := by omega
      obtain ⟨hL1, hL2, hown⟩ := hL.out
      rw [List.take_length] at hL1
      have HR3 : Hid (readOf s.data.toList = restOf s.data.toList ep last (some L)) := Lib.hid (by rw [HR.out, hL1])
      obtain ⟨hmk, hLu⟩ := flowsOf_some hL1
      have HLs : Hid (∀ x ∈ L, x.host.size ≤ maxLen) := Lib.hid fun x hx => by
        have h1 : flowLine x ∈ mid := by rw [hmk]; exact List.mem_map_of_mem hx
        obtain ⟨j, hj, hjx⟩ := List.mem_iff_getElem.1 h1
        have h2 := HPS.out j hj
        rw [hjx] at h2
        have h3 := flow_host (x := x) rfl
        unfold maxLen
        omega
      have HLu := Lib.hid hLu
      have HL2 := Lib.hid hL2
      have hcl := (hb.out.cell (p := ⟨w.heap.size, mid.length + 1, none⟩) hlt2).trans cl2.out
      clear hL1 hmk hLu HSU HR2 HM2 HPS hL2
      have HCP : Hid (∀ W, Calls Tryz.prog 94 #[.string ⟨last.toArray⟩, .string ⟨#[115, 117, 109, 32]⟩] W fun e w' => e = .returned (.tuple #[.string ⟨(Lib.trimPrefix last wSum).toArray⟩, .bool (Lib.hasPrefix last wSum)]) ∧ w' = W) := Lib.hid fun W => Tryz.strings_CutPrefix ⟨last.toArray⟩ ⟨#[115, 117, 109, 32]⟩ W
      have hb02 := Lib.hid (hb12.out.trans (hb.out.mono hb12.out.size))
      have htl : (Lib.trimPrefix last wSum).length ≤ 20000 := by
        unfold Lib.trimPrefix
        split
        · rw [List.length_drop]; omega
        · exact hll
      have HK := Lib.hid (key_any ⟨(Lib.trimPrefix last wSum).toArray⟩ 8 (by omega) (by simp only [ByteArray.size, List.size_toArray]; omega) wr (HW.out.below hb02.out).hex (Nat.le_trans HW.out.lo hb02.out.size))
      rw [show (⟨(Lib.trimPrefix last wSum).toArray⟩ : ByteArray).data.toList = Lib.trimPrefix last wSum from rfl] at HK
      go_wp2_with fail
      refine (HCP.out wr).mono ?_
      rintro e w3 ⟨rfl, rfl⟩
      go_wp2_with fail
      refine HK.out.mono ?_
      rintro e w3 ⟨v, rfl, hb3, hv⟩
      have hb03 := hb02.out.trans (hb3.mono hb02.out.size)
      by_cases hpre : Lib.hasPrefix last wSum = true
      · have hpf : Lib.hasPrefix last wSum = true := hpre
        have htk : last.take 4 = wSum := by
          unfold Lib.hasPrefix at hpre
          rw [List.isPrefixOf_iff_prefix] at hpre
          exact (List.prefix_iff_eq_take.1 hpre).symm
        have htr : Lib.trimPrefix last wSum = last.drop 4 := by unfold Lib.trimPrefix; rw [if_pos hpf]; rfl
        have hsn : sumOf last = Hex.keyOf (Lib.trimPrefix last wSum) 8 := by unfold sumOf; rw [if_pos htk, htr]
        cases hk : Hex.keyOf (Lib.trimPrefix last wSum) 8 with
        | none =>
          have HQ : Hid (readOf s.data.toList = .bad ⟨1, none⟩) := Lib.hid (by rw [HR3.out]; unfold restOf; simp only [hsn, hk])
          have c1 := (HE.out.below hb03).c1
          dsimp only [gv] at c1
          clear hv hsn hpre htk htr
          go_wp2
          go_quiet (fail)
          go_wp2
          go_ret3
          exact rdPost_bad (c := 1) HQ.out (below_drewN hb03 _)
        | some n =>
          obtain rfl := hv _ hk
          clear hv
          have HR4 : Hid (readOf s.data.toList = if v = Crc.sum (s.data.toList.take (s.data.toList.length - last.length - 1)) then (match checkOf ep L with | some f => .bad f | none => .good ep L) else .bad ⟨9, none⟩) := Lib.hid (by rw [HR3.out]; unfold restOf; simp only [hsn, hk])
          clear hsn htk htr hpre
          have hsl : (⟨last.toArray⟩ : ByteArray).size = last.length := by simp [ByteArray.size]
          obtain ⟨q, hq⟩ : ∃ q, q = Crc.sum (s.data.toList.take (s.data.toList.length - last.length - 1)) := ⟨_, rfl⟩
          have HSM : Hid (∀ W, Calls Tryz.prog 85 #[.string (s.extract 0 (s.size - last.length - 1))] W fun e w' => e = .returned (.int .u64 (q : Int)) ∧ W = w') := Lib.hid fun W => by
            have h1 := sum_any (s.extract 0 (s.size - last.length - 1)) W (by rw [ByteArray.size_extract]; unfold maxLen; omega)
            have h2 : (s.extract 0 (s.size - last.length - 1)).data.toList = s.data.toList.take (s.data.toList.length - last.length - 1) := by
              rw [ByteArray.data_extract, Array.toList_extract, List.extract_eq_take_drop]
              simp
            rw [h2, ← hq] at h1
            exact h1
          rw [← hq] at HR4
          clear hq
          go_wp2_with fail
          refine (HSM.out w3).mono ?_
          rintro e w4 ⟨rfl, rfl⟩
          by_cases hvq : v = q
          · subst hvq
            have HR5 : Hid (readOf s.data.toList = match checkOf ep L with | some f => .bad f | none => .good ep L) := Lib.hid (by rw [HR4.out, if_pos rfl])
            have hown3 := own_below hown hb3
            rw [← HL2.out] at hown3
            have HO := Lib.hid hown3
            obtain ⟨A9, cp9, rfl, hrd, _⟩ := own_slice hown3
            have hck := carCheck_any ea (ep : Int) A9 cp9 w3.heap.size L w3 (HE.out.below hb03) hrd (Nat.le_refl _) HLs.out HLu.out
            cases hco : checkOf (ep : Int) L with
            | some f =>
              rw [hco] at hck
              have HQ : Hid (readOf s.data.toList = .bad f) := Lib.hid (by rw [HR5.out, hco])
              have HCK := Lib.hid hck
              unfold CkPost ErrPost at HCK
              have HB03 := Lib.hid hb03
              clear hck hown hown3 hrd hco hb3 hb03
              go_wp2_with fail
              refine HCK.out.mono ?_
              rintro e w5 ⟨t5, a5, rfl, h5, hb5⟩
              go_wp2
              go_ret3
              rw [HQ.out]
              exact ⟨t5, a5, rfl, h5, HB03.out.trans (hb5.mono HB03.out.size)⟩
            | none =>
              rw [hco] at hck
              have HQ : Hid (readOf s.data.toList = .good ep L) := Lib.hid (by rw [HR5.out, hco])
              have HCK := Lib.hid hck
              unfold CkPost at HCK
              have HB03 := Lib.hid hb03
              clear hck hown hown3 hrd hco hb3 hb03
              go_wp2_with fail
              refine HCK.out.mono ?_
              rintro e w5 ⟨rfl, hb5⟩
              go_wp2
              go_ret3
              rw [HQ.out]
              exact ⟨_, rfl, own_base (own_below HO.out hb5) hb12.out.size, HB03.out.trans (hb5.mono HB03.out.size)⟩
          · have hne : ¬ (v : Int) = (q : Int) := by omega
            have HQ : Hid (readOf s.data.toList = .bad ⟨9, none⟩) := Lib.hid (by rw [HR4.out, if_neg hvq])
            have c9 := (HE.out.below hb03).c9
            dsimp only [gv] at c9
            go_wp2
            go_quiet (fail)
            go_wp2
            go_ret3
            exact rdPost_bad (c := 9) HQ.out (below_drewN hb03 _)
      · have hsn : sumOf last = none := by
          unfold sumOf
          rw [if_neg]
          intro hq
          exact hpre (by unfold Lib.hasPrefix; rw [List.isPrefixOf_iff_prefix, ← hq]; exact List.take_prefix _ _)
        have hpf : Lib.hasPrefix last wSum = false := by simpa using hpre
        have HQ : Hid (readOf s.data.toList = .bad ⟨1, none⟩) := Lib.hid (by rw [HR3.out]; unfold restOf; simp only [hsn])
        have c1 := (HE.out.below hb03).c1
        dsimp only [gv] at c1
        clear hv hsn hpre
        go_wp2
        go_quiet (fail)
        go_wp2
        go_ret3
        exact rdPost_bad (c := 1) HQ.out (below_drewN hb03 _)
theorem read_any (ea : Nat → Addr) (s : ByteArray) (w : World) (hW : CarW w) (hE : ErrsK ea w) :
    Calls Tryz.prog 50 #[.string s] w (RdPost ea (readOf s.data.toList) w) := by
  by_cases h : 20000 < s.size
  · exact read_long ea s w hE h
  · cases hh : headOf ((cuts 10 s.data.toList).headD []) with
    | none => exact read_head ea s w hW hE h hh
    | some p =>
      by_cases hn : (cuts 10 s.data.toList).length = p.2 + 3 ∧ (cuts 10 s.data.toList).getLastD [] = []
      · have hsp := split_ends hn.1 hn.2
        obtain ⟨mid, hmid⟩ : ∃ mid, mid = ((cuts 10 s.data.toList).drop 1).take p.2 := ⟨_, rfl⟩
        have hml : mid.length = p.2 := by rw [hmid, List.length_take, List.length_drop, hn.1]; omega
        rw [← hmid] at hsp
        refine read_body ea s p.1 _ _ mid w hW hE h (hsp.trans (by simp only [List.cons_append, List.append_assoc]; rfl)) ?_
        rw [hml]
        exact hh
      · exact read_shape ea s p.1 p.2 w hW hE h hh hn
end Go.Proofs.YteilefpjfbholaaGreatDoor
