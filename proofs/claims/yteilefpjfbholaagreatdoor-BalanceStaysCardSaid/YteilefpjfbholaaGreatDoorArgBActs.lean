/-
  An argument that is a slice of structs (the lemma that the kit lays out for copying).
  Acts on a balance as an argument.
-/
import Derived.Test.YteilefpjfbholaaGreatDoorArgs
import Derived.Deep.Slices
import Derived.Deep.Fields
import Derived.ChangeSame
namespace Go.Proofs.YteilefpjfbholaaGreatDoor
open Go.ChangeShapes Go.WideShapes Go.Deep

section
variable {H : Type} {enc : TypeId × Value → H} {P : Program} {w : World} {base : Nat} {spare : Nat → Bool} {held : Bool}
theorem open_slice_fields {t e : TypeId} {fs : Array Field} {fuel : Nat} {cs : List Value} {x : DataW H × List MemPlace} (ht : P.underlying t = some (.slice e)) (he : P.underlying e = some (.struct fs))
    (hone : oneCellFields P fs = true) (hC : P.cellsOf e = fs.size) (h : DataW.trod enc P w base spare held fuel t cs = some x) :
    (cs = [.slice none 0 0] ∧ x = (.nil, [])) ∨
    ∃ (a : Addr) (len cap m : Nat) (D : Nat → DataW H) (Pl : Nat → List MemPlace), cs = [.slice (some a) len cap] ∧ base ≤ a.block ∧ len ≤ cap ∧ cap ≤ maxLen ∧ m = (if spare a.block then cap else len) ∧
      x = (.slice ((List.range len).map D) ((List.range (m - len)).map fun j => D (len + j)), MemPlace.row a (m * fs.size) ++ (List.range m).flatMap Pl) ∧
      ∀ i, i < m → ∃ (ys : List (DataW H × List MemPlace)) (n : Nat), D i = .agg (ys.map (·.1)) ∧ Pl i = ys.flatMap (·.2) ∧ ys.length = fs.size ∧
        ∀ (j : Nat) (f : Field), fs[j]? = some f → ∃ (v : Value) (y : DataW H × List MemPlace), w.cell? (a.add (i * fs.size + j)) = some v ∧ ys[j]? = some y ∧ DataW.trod enc P w base spare held n f.type [v] = some y := by
  rcases open_slice ht h with h0 | ⟨a, len, cap, m, n, D, Pl, hcs, hb, hl, hm, hmm, hx, hi⟩
  · exact .inl h0
  · refine .inr ⟨a, len, cap, m, D, Pl, hcs, hb, hl, hm, hmm, by rw [hC] at hx; exact hx, fun i him => ?_⟩
    obtain ⟨cs', hc, ht'⟩ := hi i him
    rw [hC] at hc
    obtain ⟨ys, n', hn', hy, hlen, hyl, hf⟩ := DataW.trod_struct he ht'
    obtain ⟨_, hcl, hat⟩ := World.cells?_some hc
    simp only [Prod.mk.injEq] at hy
    refine ⟨ys, n', hy.1, hy.2, hyl, fun j f hj => ?_⟩
    obtain ⟨ho, hk⟩ := hone_of hone j f hj
    have hjl : j < fs.size := (Array.getElem?_eq_some_iff.1 hj).1
    have hcell := hat j hjl
    have hv : cs'[j]? = some (cs'[j]'(by omega)) := List.getElem?_eq_getElem (by omega)
    have h1 := hf j f hj
    rw [ho, hk] at h1
    have hone' : (cs'.drop j).take 1 = [cs'[j]'(by omega)] := by
      rw [List.drop_eq_getElem_cons (by omega)]
      rfl
    rw [hone'] at h1
    have hys : ys[j]? = some (ys[j]'(by omega)) := List.getElem?_eq_getElem (by omega)
    refine ⟨_, _, ?_, hys, h1.trans hys⟩
    rw [← Go.Deep.add_add, hcell, hv]
end
theorem list_of {α : Type} {P : Nat → α → Prop} : ∀ (n : Nat), (∀ i, i < n → ∃ a, P i a) → ∃ l : List α, l.length = n ∧ ∀ (i : Nat) (a : α), l[i]? = some a → P i a
  | 0, _ => ⟨[], rfl, fun i a h => by simp at h⟩
  | n + 1, h => by
      obtain ⟨l, hl, hp⟩ := list_of n fun i hi => h i (by omega)
      obtain ⟨x, hx⟩ := h n (by omega)
      refine ⟨l ++ [x], by simp [hl], fun i a ha => ?_⟩
      by_cases hi : i < l.length
      · rw [List.getElem?_append_left hi] at ha; exact hp i a ha
      · rw [List.getElem?_append_right (by omega)] at ha
        have h0 : i - l.length = 0 := by
          rcases Nat.eq_zero_or_pos (i - l.length) with h0 | h0
          · exact h0
          · rw [List.getElem?_eq_none (by simp; omega)] at ha; cases ha
        rw [h0] at ha
        cases ha
        have : i = n := by omega
        subst this
        exact hx
end Go.Proofs.YteilefpjfbholaaGreatDoor

namespace Go.Proofs.YteilefpjfbholaaGreatDoor
open Go.ChangeShapes Go.WideShapes Go.Deep Go.RowKit

structure BAct where
  kind : ByteArray
  host : ByteArray
  text : ByteArray
  key : Nat
  now : Int
  is : Bool
def bActC (a : BAct) : List Value := [.string a.kind, .string a.host, .string a.text, .int .u64 (a.key : Int), .int .i64 a.now, .bool a.is]
def bActsC (l : List BAct) : List Value := l.flatMap bActC
/-- What an act may hold. -/
structure BActOk (a : BAct) : Prop where
  s : a.host.size ≤ maxLen
  t : a.text.size ≤ maxLen
  u : U64 a.key
  n : -9223372036854775808 ≤ a.now ∧ a.now ≤ 9223372036854775807
theorem bActsC_length (l : List BAct) : (bActsC l).length = l.length * 6 := by
  induction l with
  | nil => rfl
  | cons x l ih =>
    have : (bActsC (x :: l)).length = (bActsC l).length + 6 := by simp [bActsC, bActC]
    rw [this, ih, List.length_cons]; omega
theorem bActsC_inv : ∀ (l : List BAct) (j : Nat) (u : Value), (bActsC l)[j]? = some u → ∃ k a, l[k]? = some a ∧ ((j = k * 6 ∧ u = .string a.kind) ∨ (j = k * 6 + 1 ∧ u = .string a.host) ∨ (j = k * 6 + 2 ∧ u = .string a.text) ∨ (j = k * 6 + 3 ∧ u = .int .u64 (a.key : Int)) ∨ (j = k * 6 + 4 ∧ u = .int .i64 a.now) ∨ (j = k * 6 + 5 ∧ u = .bool a.is))
  | [], _, _, h => by simp [bActsC] at h
  | x :: l, 0, u, h => by cases h; exact ⟨0, x, rfl, .inl ⟨rfl, rfl⟩⟩
  | x :: l, 1, u, h => by cases h; exact ⟨0, x, rfl, .inr (.inl ⟨rfl, rfl⟩)⟩
  | x :: l, 2, u, h => by cases h; exact ⟨0, x, rfl, .inr (.inr (.inl ⟨rfl, rfl⟩))⟩
  | x :: l, 3, u, h => by cases h; exact ⟨0, x, rfl, .inr (.inr (.inr (.inl ⟨rfl, rfl⟩)))⟩
  | x :: l, 4, u, h => by cases h; exact ⟨0, x, rfl, .inr (.inr (.inr (.inr (.inl ⟨rfl, rfl⟩))))⟩
  | x :: l, 5, u, h => by cases h; exact ⟨0, x, rfl, .inr (.inr (.inr (.inr (.inr ⟨rfl, rfl⟩))))⟩
  | x :: l, j + 6, u, h => by
      obtain ⟨k, a, hk, h'⟩ := bActsC_inv l j u h
      rcases h' with ⟨h1, h2⟩ | ⟨h1, h2⟩ | ⟨h1, h2⟩ | ⟨h1, h2⟩ | ⟨h1, h2⟩ | ⟨h1, h2⟩
      · exact ⟨k + 1, a, hk, .inl ⟨by omega, h2⟩⟩
      · exact ⟨k + 1, a, hk, .inr (.inl ⟨by omega, h2⟩)⟩
      · exact ⟨k + 1, a, hk, .inr (.inr (.inl ⟨by omega, h2⟩))⟩
      · exact ⟨k + 1, a, hk, .inr (.inr (.inr (.inl ⟨by omega, h2⟩)))⟩
      · exact ⟨k + 1, a, hk, .inr (.inr (.inr (.inr (.inl ⟨by omega, h2⟩))))⟩
      · exact ⟨k + 1, a, hk, .inr (.inr (.inr (.inr (.inr ⟨by omega, h2⟩))))⟩
theorem bActsC_at : ∀ (l : List BAct) (k : Nat) (a : BAct), l[k]? = some a → (bActsC l)[k * 6]? = some (.string a.kind) ∧ (bActsC l)[k * 6 + 1]? = some (.string a.host) ∧ (bActsC l)[k * 6 + 2]? = some (.string a.text) ∧ (bActsC l)[k * 6 + 3]? = some (.int .u64 (a.key : Int)) ∧ (bActsC l)[k * 6 + 4]? = some (.int .i64 a.now) ∧ (bActsC l)[k * 6 + 5]? = some (.bool a.is)
  | [], _, _, h => by cases h
  | x :: l, 0, a, h => by cases h; exact ⟨rfl, rfl, rfl, rfl, rfl, rfl⟩
  | x :: l, k + 1, a, h => by
      have := bActsC_at l k a h
      rw [show (k + 1) * 6 = k * 6 + 1 + 1 + 1 + 1 + 1 + 1 by omega]
      exact this
/-- The act's cells in the input. -/
structure BActAt (W : World) (ad : Addr) (k : Nat) (a : BAct) : Prop where
  c0 : W.cell? (ad.add (k * 6)) = some (.string a.kind)
  c1 : W.cell? ⟨(ad.add (k * 6)).block, (ad.add (k * 6)).off + 1, none⟩ = some (.string a.host)
  c2 : W.cell? ⟨(ad.add (k * 6)).block, (ad.add (k * 6)).off + 2, none⟩ = some (.string a.text)
  c3 : W.cell? ⟨(ad.add (k * 6)).block, (ad.add (k * 6)).off + 3, none⟩ = some (.int .u64 (a.key : Int))
  c4 : W.cell? ⟨(ad.add (k * 6)).block, (ad.add (k * 6)).off + 4, none⟩ = some (.int .i64 a.now)
  c5 : W.cell? ⟨(ad.add (k * 6)).block, (ad.add (k * 6)).off + 5, none⟩ = some (.bool a.is)
theorem bActAt_of {w W : World} {A : Option Addr} {acts : List BAct} {k : Nat} (h : Reads w w.heap.size 6 A acts.length (bActsC acts)) (hb : Below w.heap.size w W) (hk : k < acts.length) : ∃ ad, A = some ad ∧ BActAt W ad k acts[k] := by
  obtain ⟨ad, rfl, hbl, hc⟩ := h.2 (by omega)
  obtain ⟨x, y, z, u, v, t⟩ := bActsC_at acts k acts[k] (List.getElem?_eq_getElem hk)
  have e : ∀ i, 0 < i → ad.add (k * 6 + i) = ⟨(ad.add (k * 6)).block, (ad.add (k * 6)).off + i, none⟩ := fun i hi => by
    rw [← add_of_add]
    conv => lhs; unfold Addr.add
    rw [if_neg (by omega)]
    rfl
  refine ⟨ad, rfl, ?_, ?_, ?_, ?_, ?_, ?_⟩
  · rw [hb.cell (by rw [block_of_add]; exact hbl)]; exact hc _ _ x
  · rw [← e 1 (by omega), hb.cell (by rw [block_of_add]; exact hbl)]; exact hc _ _ y
  · rw [← e 2 (by omega), hb.cell (by rw [block_of_add]; exact hbl)]; exact hc _ _ z
  · rw [← e 3 (by omega), hb.cell (by rw [block_of_add]; exact hbl)]; exact hc _ _ u
  · rw [← e 4 (by omega), hb.cell (by rw [block_of_add]; exact hbl)]; exact hc _ _ v
  · rw [← e 5 (by omega), hb.cell (by rw [block_of_add]; exact hbl)]; exact hc _ _ t
set_option maxRecDepth 100000 in
theorem arg_bacts {H : Type} {enc : TypeId × Value → H} {W : World} {base : Nat} {v : Value} {d : DataW H} {p : List MemPlace}
    (hok : Value.okWide Tryz.prog W .any base 46 v) (hj : DataW.Trod enc Tryz.prog W 0 (fun _ => true) true 46 v d p) (hlt : ∀ x ∈ p, x.block < W.heap.size) :
    ∃ (A : Option Addr) (cap : Nat) (l : List BAct), v = .slice A l.length cap ∧ Reads W W.heap.size 6 A l.length (bActsC l) ∧ l.length ≤ maxLen ∧ ∀ a ∈ l, BActOk a := by
  obtain ⟨a0, len, cap, rfl⟩ := okWide_slice Tryz.underlying46 hok
  obtain ⟨fuel, hf⟩ := hj
  rcases open_slice_fields Tryz.underlying46 Tryz.underlying48 (by kernel_rfl) (by kernel_rfl) hf with ⟨hcs, hx⟩ | ⟨a, len', cap', m, D, Pl, hcs, _, hl, hm, hmm, hx, hi⟩
  · have hcs' : Value.slice a0 len cap = .slice none 0 0 := by simpa [Value.cells] using hcs
    rw [hcs']
    exact ⟨none, 0, [], rfl, Reads.none_, Nat.zero_le _, fun _ h => by cases h⟩
  · have hcs' : Value.slice a0 len cap = .slice (some a) len' cap' := by simpa [Value.cells] using hcs
    rw [hcs']
    simp only [if_true] at hmm
    have hp' : p = MemPlace.row a (m * 6) ++ (List.range m).flatMap Pl := (Prod.mk.inj hx).2
    obtain ⟨l, hll, hp⟩ := list_of (P := fun i (x : BAct) => W.cell? (a.add (i * 6)) = some (.string x.kind) ∧ W.cell? (a.add (i * 6 + 1)) = some (.string x.host) ∧ W.cell? (a.add (i * 6 + 2)) = some (.string x.text) ∧ W.cell? (a.add (i * 6 + 3)) = some (.int .u64 (x.key : Int)) ∧ W.cell? (a.add (i * 6 + 4)) = some (.int .i64 x.now) ∧ W.cell? (a.add (i * 6 + 5)) = some (.bool x.is) ∧ BActOk x) len' (fun i hil => by
      obtain ⟨ys, n, _, _, _, hfs⟩ := hi i (by omega)
      obtain ⟨v0, y0, c0, _, t0⟩ := hfs 0 _ rfl
      obtain ⟨v1, y1, c1, _, t1⟩ := hfs 1 _ rfl
      obtain ⟨v2, y2, c2, _, t2⟩ := hfs 2 _ rfl
      obtain ⟨v3, y3, c3, _, t3⟩ := hfs 3 _ rfl
      obtain ⟨v4, y4, c4, _, t4⟩ := hfs 4 _ rfl
      obtain ⟨v5, y5, c5, _, t5⟩ := hfs 5 _ rfl
      obtain ⟨s0, e0, _, _⟩ := DataW.trod_string Tryz.underlying9 t0
      obtain ⟨s1, e1, _, z1⟩ := DataW.trod_string Tryz.underlying9 t1
      obtain ⟨s2, e2, _, z2⟩ := DataW.trod_string Tryz.underlying9 t2
      obtain ⟨n3, e3, _, z3⟩ := DataW.trod_int Tryz.underlying32 t3
      obtain ⟨n4, e4, _, z4⟩ := DataW.trod_int Tryz.underlying3 t4
      obtain ⟨b5, e5, _⟩ := DataW.trod_bool Tryz.underlying4 t5
      cases e0; cases e1; cases e2; cases e3; cases e4; cases e5
      obtain ⟨k3, rfl, hk3⟩ := u64_of_wf z3
      exact ⟨⟨s0, s1, s2, k3, n4, b5⟩, c0, c1, c2, c3, c4, c5, z1, z2, hk3, bounds_i64 z4⟩)
    refine ⟨some a, cap', l, by rw [hll], ⟨bActsC_length l, fun hn => ⟨a, rfl, ?_, fun j u hu => ?_⟩⟩, by omega, fun x hx => ?_⟩
    · exact hlt (.cell a.block (a.off + 0)) (by rw [hp']; refine List.mem_append_left _ ?_; unfold MemPlace.row; exact List.mem_map.2 ⟨0, List.mem_range.2 (by omega), rfl⟩)
    · obtain ⟨k, x, hk, h⟩ := bActsC_inv l j u hu
      obtain ⟨c0, c1, c2, c3, c4, c5, _⟩ := hp k x hk
      rcases h with ⟨rfl, rfl⟩ | ⟨rfl, rfl⟩ | ⟨rfl, rfl⟩ | ⟨rfl, rfl⟩ | ⟨rfl, rfl⟩ | ⟨rfl, rfl⟩
      · exact c0
      · exact c1
      · exact c2
      · exact c3
      · exact c4
      · exact c5
    · obtain ⟨i, hi', rfl⟩ := List.mem_iff_getElem.1 hx
      exact (hp i l[i] (List.getElem?_eq_getElem hi')).2.2.2.2.2.2
end Go.Proofs.YteilefpjfbholaaGreatDoor
