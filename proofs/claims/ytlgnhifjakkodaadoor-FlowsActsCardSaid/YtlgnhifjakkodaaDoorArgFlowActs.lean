/-
  The law FlowsActs: its acts as an argument.
-/
import Derived.Test.YtlgnhifjakkodaaDoorArgFlows
namespace Go.Proofs.YtlgnhifjakkodaaDoor
open Go.ChangeShapes Go.WideShapes Go.Deep Go.RowKit

structure FAct where
  kind : ByteArray
  host : ByteArray
  key : Nat
  now : Int
  A : Option Addr
  cap : Nat
  L : List Fl
def fActC (a : FAct) : List Value := [.string a.kind, .string a.host, .int .u64 (a.key : Int), .int .i64 a.now, .slice a.A a.L.length a.cap]
def fActsC (l : List FAct) : List Value := l.flatMap fActC
/-- What an act may hold. -/
structure FActOk (w : World) (a : FAct) : Prop where
  s : a.host.size ≤ maxLen
  u : U64 a.key
  n : -9223372036854775808 ≤ a.now ∧ a.now ≤ 9223372036854775807
  l : FlowsIn w a.A a.L
theorem FActOk.below {w w' : World} {a : FAct} (h : FActOk w a) (hb : Below w.heap.size w w') : FActOk w' a := ⟨h.s, h.u, h.n, h.l.below hb⟩
theorem fActsC_length (l : List FAct) : (fActsC l).length = l.length * 5 := by
  induction l with
  | nil => rfl
  | cons x l ih =>
    have : (fActsC (x :: l)).length = (fActsC l).length + 5 := by simp [fActsC, fActC]
    rw [this, ih, List.length_cons]; omega
theorem fActsC_get_inv : ∀ (l : List FAct) (j : Nat) (u : Value), (fActsC l)[j]? = some u → ∃ k a, l[k]? = some a ∧ ((j = k * 5 ∧ u = .string a.kind) ∨ (j = k * 5 + 1 ∧ u = .string a.host) ∨ (j = k * 5 + 2 ∧ u = .int .u64 (a.key : Int)) ∨ (j = k * 5 + 3 ∧ u = .int .i64 a.now) ∨ (j = k * 5 + 4 ∧ u = .slice a.A a.L.length a.cap))
  | [], _, _, h => by simp [fActsC] at h
  | x :: l, 0, u, h => by cases h; exact ⟨0, x, rfl, .inl ⟨rfl, rfl⟩⟩
  | x :: l, 1, u, h => by cases h; exact ⟨0, x, rfl, .inr (.inl ⟨rfl, rfl⟩)⟩
  | x :: l, 2, u, h => by cases h; exact ⟨0, x, rfl, .inr (.inr (.inl ⟨rfl, rfl⟩))⟩
  | x :: l, 3, u, h => by cases h; exact ⟨0, x, rfl, .inr (.inr (.inr (.inl ⟨rfl, rfl⟩)))⟩
  | x :: l, 4, u, h => by cases h; exact ⟨0, x, rfl, .inr (.inr (.inr (.inr ⟨rfl, rfl⟩)))⟩
  | x :: l, j + 5, u, h => by
      obtain ⟨k, a, hk, h'⟩ := fActsC_get_inv l j u h
      rcases h' with ⟨h1, h2⟩ | ⟨h1, h2⟩ | ⟨h1, h2⟩ | ⟨h1, h2⟩ | ⟨h1, h2⟩
      · exact ⟨k + 1, a, hk, .inl ⟨by omega, h2⟩⟩
      · exact ⟨k + 1, a, hk, .inr (.inl ⟨by omega, h2⟩)⟩
      · exact ⟨k + 1, a, hk, .inr (.inr (.inl ⟨by omega, h2⟩))⟩
      · exact ⟨k + 1, a, hk, .inr (.inr (.inr (.inl ⟨by omega, h2⟩)))⟩
      · exact ⟨k + 1, a, hk, .inr (.inr (.inr (.inr ⟨by omega, h2⟩)))⟩
theorem fActsC_at : ∀ (l : List FAct) (k : Nat) (a : FAct), l[k]? = some a → (fActsC l)[k * 5]? = some (.string a.kind) ∧ (fActsC l)[k * 5 + 1]? = some (.string a.host) ∧ (fActsC l)[k * 5 + 2]? = some (.int .u64 (a.key : Int)) ∧ (fActsC l)[k * 5 + 3]? = some (.int .i64 a.now) ∧ (fActsC l)[k * 5 + 4]? = some (.slice a.A a.L.length a.cap)
  | [], _, _, h => by cases h
  | x :: l, 0, a, h => by cases h; exact ⟨rfl, rfl, rfl, rfl, rfl⟩
  | x :: l, k + 1, a, h => by
      have := fActsC_at l k a h
      rw [show (k + 1) * 5 = k * 5 + 1 + 1 + 1 + 1 + 1 by omega]
      exact this
/-- The act's cells in the input. -/
structure FActAt (W : World) (ad : Addr) (k : Nat) (a : FAct) : Prop where
  c0 : W.cell? (ad.add (k * 5)) = some (.string a.kind)
  c1 : W.cell? ⟨(ad.add (k * 5)).block, (ad.add (k * 5)).off + 1, none⟩ = some (.string a.host)
  c2 : W.cell? ⟨(ad.add (k * 5)).block, (ad.add (k * 5)).off + 2, none⟩ = some (.int .u64 (a.key : Int))
  c3 : W.cell? ⟨(ad.add (k * 5)).block, (ad.add (k * 5)).off + 3, none⟩ = some (.int .i64 a.now)
  c4 : W.cell? ⟨(ad.add (k * 5)).block, (ad.add (k * 5)).off + 4, none⟩ = some (.slice a.A a.L.length a.cap)
theorem fActAt_of {w W : World} {A : Option Addr} {acts : List FAct} {k : Nat} (h : Reads w w.heap.size 5 A acts.length (fActsC acts)) (hb : Below w.heap.size w W) (hk : k < acts.length) : ∃ ad, A = some ad ∧ FActAt W ad k acts[k] := by
  obtain ⟨ad, rfl, hbl, hc⟩ := h.2 (by omega)
  obtain ⟨x, y, z, u, v⟩ := fActsC_at acts k acts[k] (List.getElem?_eq_getElem hk)
  have e : ∀ i, 0 < i → ad.add (k * 5 + i) = ⟨(ad.add (k * 5)).block, (ad.add (k * 5)).off + i, none⟩ := fun i hi => by
    rw [← add_of_add]
    conv => lhs; unfold Addr.add
    rw [if_neg (by omega)]
    rfl
  refine ⟨ad, rfl, ?_, ?_, ?_, ?_, ?_⟩
  · rw [hb.cell (by rw [block_of_add]; exact hbl)]; exact hc _ _ x
  · rw [← e 1 (by omega), hb.cell (by rw [block_of_add]; exact hbl)]; exact hc _ _ y
  · rw [← e 2 (by omega), hb.cell (by rw [block_of_add]; exact hbl)]; exact hc _ _ z
  · rw [← e 3 (by omega), hb.cell (by rw [block_of_add]; exact hbl)]; exact hc _ _ u
  · rw [← e 4 (by omega), hb.cell (by rw [block_of_add]; exact hbl)]; exact hc _ _ v
set_option maxRecDepth 100000 in
theorem arg_facts {H : Type} {enc : TypeId × Value → H} {W : World} {base : Nat} {v : Value} {d : DataW H} {p : List MemPlace}
    (hok : Value.okWide Tryd.prog W .any base 41 v) (hj : DataW.Trod enc Tryd.prog W 0 (fun _ => true) true 41 v d p) (hlt : ∀ x ∈ p, x.block < W.heap.size) :
    ∃ (A : Option Addr) (cap : Nat) (l : List FAct), v = .slice A l.length cap ∧ Reads W W.heap.size 5 A l.length (fActsC l) ∧ l.length ≤ maxLen ∧ ∀ a ∈ l, FActOk W a := by
  obtain ⟨a0, len, cap, rfl⟩ := okWide_slice Tryd.underlying41 hok
  obtain ⟨fuel, hf⟩ := hj
  rcases open_slice_fields Tryd.underlying41 Tryd.underlying47 (by kernel_rfl) (by kernel_rfl) hf with ⟨hcs, hx⟩ | ⟨a, len', cap', m, D, Pl, hcs, _, hl, hm, hmm, hx, hi⟩
  · have hcs' : Value.slice a0 len cap = .slice none 0 0 := by simpa [Value.cells] using hcs
    rw [hcs']
    exact ⟨none, 0, [], rfl, Reads.none_, Nat.zero_le _, fun _ h => by cases h⟩
  · have hcs' : Value.slice a0 len cap = .slice (some a) len' cap' := by simpa [Value.cells] using hcs
    rw [hcs']
    simp only [if_true] at hmm
    have hp' : p = MemPlace.row a (m * 5) ++ (List.range m).flatMap Pl := (Prod.mk.inj hx).2
    obtain ⟨l, hll, hp⟩ := list_of (P := fun i (x : FAct) => W.cell? (a.add (i * 5)) = some (.string x.kind) ∧ W.cell? (a.add (i * 5 + 1)) = some (.string x.host) ∧ W.cell? (a.add (i * 5 + 2)) = some (.int .u64 (x.key : Int)) ∧ W.cell? (a.add (i * 5 + 3)) = some (.int .i64 x.now) ∧ W.cell? (a.add (i * 5 + 4)) = some (.slice x.A x.L.length x.cap) ∧ FActOk W x) len' (fun i hil => by
      obtain ⟨ys, n, _, hPl, _, hfs⟩ := hi i (by omega)
      obtain ⟨v0, y0, c0, _, t0⟩ := hfs 0 _ rfl
      obtain ⟨v1, y1, c1, _, t1⟩ := hfs 1 _ rfl
      obtain ⟨v2, y2, c2, _, t2⟩ := hfs 2 _ rfl
      obtain ⟨v3, y3, c3, _, t3⟩ := hfs 3 _ rfl
      obtain ⟨v4, y4, c4, m4, t4⟩ := hfs 4 _ rfl
      obtain ⟨s0, e0, _, _⟩ := DataW.trod_string Tryd.underlying9 t0
      obtain ⟨s1, e1, _, z1⟩ := DataW.trod_string Tryd.underlying9 t1
      obtain ⟨n2, e2, _, z2⟩ := DataW.trod_int Tryd.underlying22 t2
      obtain ⟨n3, e3, _, z3⟩ := DataW.trod_int Tryd.underlying3 t3
      obtain ⟨A4, cap4, l4, e4, F4⟩ := flows_trod t4 (fun q hq => hlt q (by
        rw [hp']
        refine List.mem_append_right _ (List.mem_flatMap.2 ⟨i, List.mem_range.2 (by omega), ?_⟩)
        rw [hPl]
        exact List.mem_flatMap.2 ⟨y4, List.mem_of_getElem? m4, hq⟩))
      cases e0; cases e1; cases e2; cases e3; cases e4
      obtain ⟨k2, rfl, hk2⟩ := u64_of_wf z2
      exact ⟨⟨s0, s1, k2, n3, A4, cap4, l4⟩, c0, c1, c2, c3, c4, z1, hk2, i64_of_wf z3, F4⟩)
    refine ⟨some a, cap', l, by rw [hll], ⟨fActsC_length l, fun hn => ⟨a, rfl, ?_, fun j u hu => ?_⟩⟩, by omega, fun x hx => ?_⟩
    · exact hlt (.cell a.block (a.off + 0)) (by rw [hp']; refine List.mem_append_left _ ?_; unfold MemPlace.row; exact List.mem_map.2 ⟨0, List.mem_range.2 (by omega), rfl⟩)
    · obtain ⟨k, x, hk, h⟩ := fActsC_get_inv l j u hu
      obtain ⟨c0, c1, c2, c3, c4, _⟩ := hp k x hk
      rcases h with ⟨rfl, rfl⟩ | ⟨rfl, rfl⟩ | ⟨rfl, rfl⟩ | ⟨rfl, rfl⟩ | ⟨rfl, rfl⟩
      · exact c0
      · exact c1
      · exact c2
      · exact c3
      · exact c4
    · obtain ⟨i, hi', rfl⟩ := List.mem_iff_getElem.1 hx
      exact (hp i l[i] (List.getElem?_eq_getElem hi')).2.2.2.2.2
end Go.Proofs.YtlgnhifjakkodaaDoor
