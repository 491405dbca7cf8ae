/-
  A list of flows as an argument, or as a part of one.
-/
import Derived.Test.YtalfjaogpbndeaaGreatDoorArgStructs
import Derived.Test.YtalfjaogpbndeaaGreatDoorFlCells
namespace Go.Proofs.YtalfjaogpbndeaaGreatDoor
open Go.ChangeShapes Go.WideShapes Go.Deep Go.RowKit

/-- A list of flows that came in: where it lies, and what it may hold. -/
structure FlowsIn (w : World) (A : Option Addr) (l : List Fl) : Prop where
  r : Reads w w.heap.size 3 A l.length (flsC l)
  m : l.length ≤ maxLen
  s : ∀ x ∈ l, x.host.size ≤ maxLen
  u : ∀ x ∈ l, U64 x.key
  t : ∀ x ∈ l, -9223372036854775808 ≤ x.til ∧ x.til ≤ 9223372036854775807
theorem FlowsIn.below {w w' : World} {A : Option Addr} {l : List Fl} (h : FlowsIn w A l) (hb : Below w.heap.size w w') : FlowsIn w' A l := ⟨(h.r.below hb).more hb.size, h.m, h.s, h.u, h.t⟩
theorem flsC_get_inv : ∀ (l : List Fl) (j : Nat) (u : Value), (flsC l)[j]? = some u → ∃ k x, l[k]? = some x ∧ ((j = k * 3 ∧ u = .int .u64 (x.key : Int)) ∨ (j = k * 3 + 1 ∧ u = .string x.host) ∨ (j = k * 3 + 2 ∧ u = .int .i64 x.til))
  | [], _, _, h => by simp [flsC] at h
  | x :: l, 0, u, h => by cases h; exact ⟨0, x, rfl, .inl ⟨rfl, rfl⟩⟩
  | x :: l, 1, u, h => by cases h; exact ⟨0, x, rfl, .inr (.inl ⟨rfl, rfl⟩)⟩
  | x :: l, 2, u, h => by cases h; exact ⟨0, x, rfl, .inr (.inr ⟨rfl, rfl⟩)⟩
  | x :: l, j + 3, u, h => by
      obtain ⟨k, a, hk, h'⟩ := flsC_get_inv l j u h
      rcases h' with ⟨h1, h2⟩ | ⟨h1, h2⟩ | ⟨h1, h2⟩
      · exact ⟨k + 1, a, hk, .inl ⟨by omega, h2⟩⟩
      · exact ⟨k + 1, a, hk, .inr (.inl ⟨by omega, h2⟩)⟩
      · exact ⟨k + 1, a, hk, .inr (.inr ⟨by omega, h2⟩)⟩
theorem i64_of_wf {n : Int} (h : (Lit.int .i64 n).wf = true) : -9223372036854775808 ≤ n ∧ n ≤ 9223372036854775807 := by
  have h1 : IntKind.i64.min = -9223372036854775808 := by decide +kernel
  have h2 : IntKind.i64.max = 9223372036854775807 := by decide +kernel
  simp only [Lit.wf, h1, h2, Bool.and_eq_true, decide_eq_true_eq] at h
  exact h
set_option maxRecDepth 100000 in
theorem flows_trod {H : Type} {enc : TypeId × Value → H} {W : World} {base fuel : Nat} {cs : List Value} {x : DataW H × List MemPlace}
    (h : DataW.trod enc Tryz.prog W base (fun _ => true) true fuel 22 cs = some x) (hlt : ∀ q ∈ x.2, q.block < W.heap.size) :
    ∃ (A : Option Addr) (cap : Nat) (l : List Fl), cs = [.slice A l.length cap] ∧ FlowsIn W A l := by
  rcases open_slice_fields Tryz.underlying22 Tryz.underlying45 (by kernel_rfl) (by kernel_rfl) h with ⟨hcs, hx⟩ | ⟨a, len', cap', m, D, Pl, hcs, _, hl, hm, hmm, hx, hi⟩
  · exact ⟨none, 0, [], hcs, Reads.none_, Nat.zero_le _, fun _ h => (by cases h), fun _ h => (by cases h), fun _ h => (by cases h)⟩
  · simp only [if_true] at hmm
    obtain ⟨l, hll, hp⟩ := list_of (P := fun i (x : Fl) => W.cell? (a.add (i * 3)) = some (.int .u64 (x.key : Int)) ∧ W.cell? (a.add (i * 3 + 1)) = some (.string x.host) ∧ W.cell? (a.add (i * 3 + 2)) = some (.int .i64 x.til) ∧ x.host.size ≤ maxLen ∧ U64 x.key ∧ -9223372036854775808 ≤ x.til ∧ x.til ≤ 9223372036854775807) len' (fun i hil => by
      obtain ⟨ys, n, _, _, _, hfs⟩ := hi i (by omega)
      obtain ⟨v0, y0, c0, _, t0⟩ := hfs 0 _ rfl
      obtain ⟨v1, y1, c1, _, t1⟩ := hfs 1 _ rfl
      obtain ⟨v2, y2, c2, _, t2⟩ := hfs 2 _ rfl
      obtain ⟨n0, e0, _, z0⟩ := DataW.trod_int Tryz.underlying43 t0
      obtain ⟨s1, e1, _, z1⟩ := DataW.trod_string Tryz.underlying9 t1
      obtain ⟨n2, e2, _, z2⟩ := DataW.trod_int Tryz.underlying3 t2
      cases e0; cases e1; cases e2
      obtain ⟨k0, rfl, hk0⟩ := u64_of_wf z0
      exact ⟨⟨k0, s1, n2⟩, c0, c1, c2, z1, hk0, i64_of_wf z2⟩)
    have hx2 : x.2 = MemPlace.row a (m * 3) ++ (List.range m).flatMap Pl := by rw [hx]; rfl
    refine ⟨some a, cap', l, by rw [hcs, hll], ⟨flsC_length l, fun hn => ⟨a, rfl, ?_, fun j u hu => ?_⟩⟩, by omega, fun y hy => ?_, fun y hy => ?_, fun y hy => ?_⟩
    · exact hlt (.cell a.block (a.off + 0)) (by rw [hx2]; refine List.mem_append_left _ ?_; unfold MemPlace.row; exact List.mem_map.2 ⟨0, List.mem_range.2 (by omega), rfl⟩)
    · obtain ⟨k, x, hk, h⟩ := flsC_get_inv l j u hu
      obtain ⟨c0, c1, c2, _⟩ := hp k x hk
      rcases h with ⟨rfl, rfl⟩ | ⟨rfl, rfl⟩ | ⟨rfl, rfl⟩
      · exact c0
      · exact c1
      · exact c2
    all_goals
      obtain ⟨i, hi', rfl⟩ := List.mem_iff_getElem.1 hy
      have := hp i l[i] (List.getElem?_eq_getElem hi')
    · exact this.2.2.2.1
    · exact this.2.2.2.2.1
    · exact this.2.2.2.2.2
set_option maxRecDepth 100000 in
theorem arg_flows {H : Type} {enc : TypeId × Value → H} {W : World} {base : Nat} {v : Value} {d : DataW H} {p : List MemPlace}
    (hok : Value.okWide Tryz.prog W .any base 22 v) (hj : DataW.Trod enc Tryz.prog W 0 (fun _ => true) true 22 v d p) (hlt : ∀ x ∈ p, x.block < W.heap.size) :
    ∃ (A : Option Addr) (cap : Nat) (l : List Fl), v = .slice A l.length cap ∧ FlowsIn W A l := by
  obtain ⟨a0, len, cap, rfl⟩ := okWide_slice Tryz.underlying22 hok
  obtain ⟨fuel, hf⟩ := hj
  obtain ⟨A, c, l, hc, hF⟩ := flows_trod hf hlt
  exact ⟨A, c, l, by simpa [Value.cells] using hc, hF⟩
end Go.Proofs.YtalfjaogpbndeaaGreatDoor
