/-
  What stays: all blocks but those of a list.
-/
import Derived.Test.YthkfhfldoniolaaGreatDoorBase
import Derived.Maps.OwnSet
namespace Go.Proofs.YthkfhfldoniolaaGreatDoor
open Go.RowKit

/-- All that was there stands but the blocks bs. -/
structure Turn (bs : List Nat) (w w' : World) : Prop where
  os : w'.os = w.os
  tape : w'.tape = w.tape
  output : w'.output = w.output
  size : w.heap.size ≤ w'.heap.size
  block : ∀ i, i < w.heap.size → i ∉ bs → w'.heap[i]? = w.heap[i]?
section
variable {bs cs : List Nat} {w w1 w' : World}
theorem Turn.refl (bs : List Nat) (w : World) : Turn bs w w := ⟨rfl, rfl, rfl, Nat.le_refl _, fun _ _ _ => rfl⟩
theorem Turn.of_below (h : Below w.heap.size w w') : Turn bs w w' := ⟨h.os, h.tape, h.output, h.size, fun i hi _ => h.block i hi⟩
theorem Turn.of_grown {row : Option Nat} (h : w.grownBy w' row) (hr : ∀ g, row = some g → g ∈ bs) : Turn bs w w' :=
  ⟨h.os, h.tape, h.output, h.size, fun i hi hn => h.block i hi fun e => hn (hr i e.symm)⟩
theorem Turn.trans (h : Turn bs w w1) (h' : Turn cs w1 w') (hs : ∀ c ∈ cs, c ∈ bs ∨ w.heap.size ≤ c) : Turn bs w w' :=
  ⟨h'.os.trans h.os, h'.tape.trans h.tape, h'.output.trans h.output, Nat.le_trans h.size h'.size, fun i hi hn => (h'.block i (Nat.lt_of_lt_of_le hi h.size) fun hc => by
    rcases hs i hc with h1 | h1
    · exact hn h1
    · omega).trans (h.block i hi hn)⟩
theorem Turn.then (h : Turn bs w w1) (h' : Turn bs w1 w') : Turn bs w w' := h.trans h' fun _ hc => .inl hc
theorem Turn.thenB (h : Turn bs w w1) (h' : Below w1.heap.size w1 w') : Turn bs w w' := h.then (Turn.of_below h')
theorem Turn.more (h : Turn bs w w') (hs : ∀ b ∈ bs, b ∈ cs) : Turn cs w w' := ⟨h.os, h.tape, h.output, h.size, fun i hi hn => h.block i hi fun hb => hn (hs i hb)⟩
theorem Turn.below (h : Turn bs w w') {B : Nat} (hB : B ≤ w.heap.size) (hs : ∀ b ∈ bs, B ≤ b) : Below B w w' :=
  ⟨h.os, h.tape, h.output, h.size, fun i hi => h.block i (by omega) fun hb => by have := hs i hb; omega⟩
theorem Turn.setCell (h : Turn bs w w1) {p : Addr} (hp : p.block ∈ bs ∨ w.heap.size ≤ p.block) (u : Value) : Turn bs w (w1.setCell p u) :=
  ⟨h.os, h.tape, h.output, by simpa [World.setCell] using h.size, fun i hi hn => (Below.heap_setCell w1 p u i (by
    rintro rfl
    rcases hp with hp | hp
    · exact hn hp
    · omega)).trans (h.block i hi hn)⟩
theorem Turn.alloc (h : Turn bs w w1) (o : Obj) : Turn bs w (w1.alloc o) := h.thenB ((Below.refl _ _).alloc (Nat.le_refl _) o)
theorem Turn.drewN (h : Turn bs w w1) (n : Nat) : Turn bs w (w1.drewN n) := ⟨h.os, h.tape, h.output, h.size, h.block⟩
theorem Turn.drew (h : Turn bs w w1) : Turn bs w w1.drew := ⟨h.os, h.tape, h.output, h.size, h.block⟩
theorem Turn.undrew (h : Turn bs w.drew w') : Turn bs w w' := ⟨h.os, h.tape, h.output, h.size, h.block⟩
theorem Turn.blk (h : Turn bs w w') {g : Nat} {t : TypeId} {xs : Array Value} (hb : Blk w g t xs) (hg : g ∉ bs) : Blk w' g t xs := (h.block g hb.lt hg).trans hb
theorem Turn.own (h : Turn bs w w') {b n size : Nat} {e : TypeId} {v : Value} {xs : List Value} (ho : w.ownsRow b e size v n xs) (hg : ∀ g, v.ownBlock = some g → g ∉ bs) : w'.ownsRow b e size v n xs := by
  have hlt := ho.lt
  rcases ho.2 with ⟨rfl, hl⟩ | ⟨g, cap, cur, rfl, hbase, hh, hrest⟩
  · exact ⟨ho.1, .inl ⟨rfl, hl⟩⟩
  · exact ⟨ho.1, .inr ⟨g, cap, cur, rfl, hbase, (h.block g (hlt g rfl).2 (hg g rfl)).trans hh, hrest⟩⟩
theorem Turn.cell (h : Turn bs w w') {p : Addr} {v : Value} (hc : w.cell? p = some v) (hg : p.block ∉ bs) : w'.cell? p = some v := by
  have hlt : p.block < w.heap.size := by
    rcases Nat.lt_or_ge p.block w.heap.size with h | h
    · exact h
    · have : w.heap[p.block]? = none := Array.getElem?_eq_none h
      simp [World.cell?, this] at hc
  rw [World.cell?_of_block (h.block p.block hlt hg)]
  exact hc
theorem Turn.reads (h : Turn bs w w') {B n size : Nat} {A : Option Addr} {xs : List Value} (hr : Reads w B size A n xs) (hB : B ≤ w.heap.size) (hs : ∀ b ∈ bs, B ≤ b) : Reads w' B size A n xs := hr.below (h.below hB hs)
theorem Turn.map (h : Turn bs w w') {P : Program} {k : TypeId} {R : Value → Option (DataW Unit × List MemPlace)} {b n : Nat} {D : DataW Unit} (hm : w.ownsMap P k R b n D) (hb : b ∉ bs) : w'.ownsMap P k R b n D := by
  have hlt := hm.lt
  obtain ⟨es, clock, h1, F, hs, hD⟩ := hm
  exact ⟨es, clock, (h.block b hlt hb).trans h1, F, hs, hD⟩
end
theorem bl_drew {B : Nat} {a w : World} (h : Below B a w) : Below B a w.drew := ⟨h.os, h.tape, h.output, h.size, h.block⟩
theorem bl_undrew {w w' : World} (h : Below w.drew.heap.size w.drew w') : Below w.heap.size w w' := ⟨h.os, h.tape, h.output, h.size, h.block⟩
theorem own_base {w : World} {b b' n size : Nat} {e : TypeId} {v : Value} {xs : List Value} (h : w.ownsRow b e size v n xs) (hb : b' ≤ b) : w.ownsRow b' e size v n xs := by
  rcases h.2 with ⟨rfl, hl⟩ | ⟨g, cap, cur, rfl, hbase, hrest⟩
  · exact ⟨h.1, .inl ⟨rfl, hl⟩⟩
  · exact ⟨h.1, .inr ⟨g, cap, cur, rfl, Nat.le_trans hb hbase, hrest⟩⟩
end Go.Proofs.YthkfhfldoniolaaGreatDoor
