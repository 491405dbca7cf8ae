/-
  What the listed sentinel errors give a walk: each variable's cell, its error's cell, and that the errors differ.
-/
import Derived.Test.YthkfhfldoniolaaGreatDoorBase
import Derived.Test.YthkfhfldoniolaaGreatDoorChecked
import Derived.Test.YthkfhfldoniolaaGreatDoorRows
import Derived.LaidLaws
import Derived.LaidHandle
import Derived.LaidOnce
import Derived.Deep.DeepHandedRow
import Derived.Deep.DeepWitnessRowRef
namespace Go.Proofs.YthkfhfldoniolaaGreatDoor
open Go.RowKit

def IsSent (d : DataW Unit) : Prop := ∃ text, d = .iface "*errors.errorString" (.ptr (.agg [.lit (.string text)]))

theorem sent_star : "*errors.errorString" = "*" ++ "errors.errorString" := by decide
theorem sent_row (u : TypeId) (h : Tryz.prog.typeName? 3 u = some "*errors.errorString") : u = 355 :=
  typeName_ptr_named (nm := "errors.errorString") (by rw [← sent_star]; kernel_rfl) (by kernel_rfl) (by decide) u (by rw [← sent_star]; exact h)
theorem sent_cells : Tryz.prog.cellsOf 357 = 1 := by kernel_rfl
theorem sent_cells_string : Tryz.prog.cellsOf 9 = 1 := by kernel_rfl

/-- One listed error: its variable's cell, its own cell, both in rows that stay. -/
def SentAt (W : World) (x : Nat × Addr) : Prop :=
  W.cell? ⟨x.1, 0, none⟩ = some (.iface 355 (.pointer (some x.2))) ∧ (∃ s, W.cell? x.2 = some (.string s)) ∧ (∃ c t, W.heap[x.2.block]? = some (.cells c t (0, 0))) ∧ (∃ c t, W.heap[x.1]? = some (.cells c t (0, 0)))

set_option maxRecDepth 100000 in
theorem laid_list {W : World} : ∀ (l : List (String × DataW Unit)) (ps : List MemPlace), DataW.LaidVars Tryz.prog W l ps → (∀ x ∈ l, IsSent x.2) →
    (l.map (fun x => (Tryz.prog.globalNamed x.1).bind fun g => (Tryz.prog.globals[g]?).map (·.type)) = l.map fun _ => some 37) →
    (∀ b off, MemPlace.cell b off ∈ ps → (∃ c t, W.heap[b]? = some (.cells c t (0, 0))) ∧ ∀ u v, W.cell? ⟨b, off, none⟩ = some (.iface u v) → Value.okWide Tryz.prog W .any 0 u v) →
    ∃ L : List (Nat × Addr), L.map (fun x => some x.1) = l.map (fun x => Tryz.prog.globalNamed x.1) ∧ ps = L.flatMap (fun x => [MemPlace.cell x.1 0, MemPlace.cell x.2.block x.2.off]) ∧ ∀ x ∈ L, SentAt W x
  | [], ps, h, _, _, _ => ⟨[], rfl, h, fun x hx => absurd hx (by simp)⟩
  | (n, d) :: r, ps, h, hs, ht, hrows => by
      obtain ⟨g, t, cs, f, p, q, hg, hty, hv, hd, hq, rfl⟩ := h
      obtain ⟨text, rfl⟩ : IsSent d := hs (n, d) List.mem_cons_self
      simp only [List.map_cons, List.cons.injEq] at ht
      obtain ⟨ht0, ht⟩ := ht
      rw [hg, Option.bind_some, hty] at ht0
      obtain rfl : t = 37 := Option.some.inj ht0
      obtain ⟨l0⟩ := cs
      have ok0 : ∀ u v, l0 = [.iface u v] → Value.okWide Tryz.prog W .any 0 u v := fun u v e => by
        subst e
        exact (hrows g 0 (by simp [MemPlace.row])).2 u v (by simpa using World.var?_cell hg hv 0)
      obtain ⟨a, s, rfl, hc, _, _, rfl⟩ := errorString_of_trod Tryz.underlying37 sent_row Tryz.underlying355 Tryz.underlying357 rfl rfl Tryz.underlying9 sent_cells sent_cells_string hd ok0
      obtain ⟨L, h1, rfl, h3⟩ := laid_list r q hq (fun x hx => hs x (List.mem_cons_of_mem _ hx)) ht (fun b off hp => hrows b off (by simp [hp]))
      refine ⟨(g, a) :: L, by simp [h1, hg], by simp [MemPlace.row], fun x hx => ?_⟩
      rcases List.mem_cons.1 hx with rfl | hx
      · exact ⟨by simpa using World.var?_cell hg hv 0, ⟨s, hc⟩, (hrows a.block a.off (by simp [MemPlace.row])).1, (hrows g 0 (by simp [MemPlace.row])).1⟩
      · exact h3 x hx

/-- The listed errors: 'ea g' is the error of variable g. -/
structure ErrsAt (W : World) (ea : Nat → Addr) (gs : List Nat) : Prop where
  at_ : ∀ g ∈ gs, SentAt W (g, ea g)
  ne : ∀ g ∈ gs, ∀ g' ∈ gs, g ≠ g' → ea g ≠ ea g'

theorem nodup_of_flat : ∀ (L : List (Nat × Addr)), (L.flatMap fun x => [MemPlace.cell x.1 0, MemPlace.cell x.2.block x.2.off]).Nodup → (L.map (·.1)).Nodup ∧ (L.map (·.2)).Nodup
  | [], _ => by simp
  | x :: L, h => by
      rw [List.flatMap_cons, List.nodup_append] at h
      obtain ⟨_, h2, h3⟩ := h
      obtain ⟨h4, h5⟩ := nodup_of_flat L h2
      refine ⟨List.nodup_cons.2 ⟨fun hm => ?_, h4⟩, List.nodup_cons.2 ⟨fun hm => ?_, h5⟩⟩
      · obtain ⟨y, hy, e⟩ := List.mem_map.1 hm
        refine h3 (.cell x.1 0) (by simp) (.cell x.1 0) (List.mem_flatMap.2 ⟨y, hy, by simp [e]⟩) rfl
      · obtain ⟨y, hy, e⟩ := List.mem_map.1 hm
        refine h3 (.cell x.2.block x.2.off) (by simp) (.cell x.2.block x.2.off) (List.mem_flatMap.2 ⟨y, hy, by simp [e]⟩) rfl

theorem find_of_mem : ∀ (L : List (Nat × Addr)), (L.map (·.1)).Nodup → ∀ x ∈ L, L.find? (fun y => y.1 == x.1) = some x
  | [], _, x, hx => absurd hx (by simp)
  | y :: L, hn, x, hx => by
      rw [List.map_cons, List.nodup_cons] at hn
      rcases List.mem_cons.1 hx with rfl | hx
      · simp
      · have hne : y.1 ≠ x.1 := fun e => hn.1 (List.mem_map.2 ⟨x, hx, e.symm⟩)
        rw [List.find?_cons]
        rw [show (y.1 == x.1) = false from by simpa using hne]
        exact find_of_mem L hn.2 x hx

theorem errs_of_laid {W : World} {l : List (String × DataW Unit)} (h : laidMet Tryz.prog l W) (hs : ∀ x ∈ l, IsSent x.2)
    (ht : l.map (fun x => (Tryz.prog.globalNamed x.1).bind fun g => (Tryz.prog.globals[g]?).map (·.type)) = l.map fun _ => some 37)
    (gs : List Nat) (hg : l.map (fun x => Tryz.prog.globalNamed x.1) = gs.map some) : ∃ ea, ErrsAt W ea gs := by
  obtain ⟨ps, hv, hnd, hrows⟩ := h
  obtain ⟨L, h1, rfl, h3⟩ := laid_list l ps hv hs ht hrows
  obtain ⟨n1, n2⟩ := nodup_of_flat L hnd
  have hgs : gs = L.map (·.1) := by
    have : gs.map some = (L.map (·.1)).map some := by rw [← hg, ← h1, List.map_map]; rfl
    exact (List.map_inj_right (fun _ _ => Option.some.inj)).1 this
  have key : ∀ x ∈ L, ((L.find? fun y => y.1 == x.1).map (·.2)).getD ⟨0, 0, none⟩ = x.2 := fun x hx => by rw [find_of_mem L n1 x hx]; rfl
  refine ⟨fun g => ((L.find? fun y => y.1 == g).map (·.2)).getD ⟨0, 0, none⟩, fun g hgm => ?_, fun g hgm g' hgm' hne he => ?_⟩
  · rw [hgs] at hgm
    obtain ⟨x, hx, rfl⟩ := List.mem_map.1 hgm
    have := h3 x hx
    rw [key x hx]
    exact this
  · rw [hgs] at hgm hgm'
    obtain ⟨x, hx, rfl⟩ := List.mem_map.1 hgm
    obtain ⟨y, hy, rfl⟩ := List.mem_map.1 hgm'
    rw [key x hx, key y hy] at he
    obtain ⟨i, hi, ei⟩ := List.mem_iff_getElem.1 hx
    obtain ⟨j, hj, ej⟩ := List.mem_iff_getElem.1 hy
    have hij : i ≠ j := by rintro rfl; exact hne (by rw [← ei, ← ej])
    have := (List.pairwise_iff_getElem.1 n2)
    rcases Nat.lt_or_gt_of_ne hij with hlt | hlt
    · exact this i j (by simpa using hi) (by simpa using hj) hlt (by simp [ei, ej, he])
    · exact this j i (by simpa using hj) (by simpa using hi) hlt (by simp [ei, ej, he])

theorem lt_of_cell {W : World} {g : Nat} {v : Value} (h : W.cell? ⟨g, 0, none⟩ = some v) : g < W.heap.size := by
  rcases Nat.lt_or_ge g W.heap.size with h' | h'
  · exact h'
  · simp [World.cell?, Array.getElem?_eq_none h'] at h
theorem ErrsAt.cell {W : World} {ea : Nat → Addr} {gs : List Nat} (h : ErrsAt W ea gs) {g : Nat} (hg : g ∈ gs) : W.cell? ⟨g, 0, none⟩ = some (.iface 355 (.pointer (some (ea g)))) := (h.at_ g hg).1
theorem ErrsAt.lt {W : World} {ea : Nat → Addr} {gs : List Nat} (h : ErrsAt W ea gs) {g : Nat} (hg : g ∈ gs) : g < W.heap.size := lt_of_cell (h.cell hg)
theorem SentAt.ltE {W : World} {x : Nat × Addr} (h : SentAt W x) : x.2.block < W.heap.size := by
  obtain ⟨_, _, ⟨c, t, hh⟩, _⟩ := h
  rcases Nat.lt_or_ge x.2.block W.heap.size with h' | h'
  · exact h'
  · rw [Array.getElem?_eq_none h'] at hh; cases hh
theorem SentAt.below {W W' : World} {x : Nat × Addr} (h : SentAt W x) (hb : Below W.heap.size W W') : SentAt W' x := by
  have l1 := lt_of_cell h.1
  have l2 := h.ltE
  obtain ⟨h1, ⟨s, h2⟩, ⟨c, t, h3⟩, ⟨c', t', h4⟩⟩ := h
  exact ⟨(hb.cell (p := ⟨x.1, 0, none⟩) l1).trans h1, ⟨s, (hb.cell l2).trans h2⟩, ⟨c, t, (hb.block _ l2).trans h3⟩, ⟨c', t', (hb.block _ l1).trans h4⟩⟩
theorem ErrsAt.below {W W' : World} {ea : Nat → Addr} {gs : List Nat} (h : ErrsAt W ea gs) (hb : Below W.heap.size W W') : ErrsAt W' ea gs := ⟨fun g hg => (h.at_ g hg).below hb, h.ne⟩
end Go.Proofs.YthkfhfldoniolaaGreatDoor
