/-
  What stays: all blocks but those of some types.
-/
import Derived.Test.YtnmkdmehljkedaaGreatDoorBase
namespace Go.Proofs.YtnmkdmehljkedaaGreatDoor
open Go.RowKit

def OffT (ts : List TypeId) (o : Obj) : Prop := ∀ cs t fz, o = .cells cs t fz → t ∉ ts
/-- Below B all stands; above it all but the cells of the types ts. -/
def KeepT (B : Nat) (ts : List TypeId) (w w' : World) : Prop := Below B w w' ∧ ∀ (g : Nat) (o : Obj), w.heap[g]? = some o → OffT ts o → w'.heap[g]? = some o
section
variable {B : Nat} {ts : List TypeId} {w w1 w' : World}
theorem lt_of_heap {g : Nat} {o : Obj} (h : w.heap[g]? = some o) : g < w.heap.size := by
  rcases Nat.lt_or_ge g w.heap.size with hlt | hge
  · exact hlt
  · rw [Array.getElem?_eq_none hge] at h; cases h
theorem KeepT.refl (B : Nat) (ts : List TypeId) (w : World) : KeepT B ts w w := ⟨Below.refl _ _, fun _ _ h _ => h⟩
theorem KeepT.trans (h : KeepT B ts w w1) (h' : KeepT B ts w1 w') : KeepT B ts w w' := ⟨h.1.trans h'.1, fun g o hg ho => h'.2 g o (h.2 g o hg ho) ho⟩
theorem KeepT.of_below (h : Below w.heap.size w w') (hB : B ≤ w.heap.size) : KeepT B ts w w' := ⟨h.mono hB, fun g _ hg _ => (h.block g (lt_of_heap hg)).trans hg⟩
theorem KeepT.of_grown {row : Option Nat} (h : w.grownBy w' row) (hB : B ≤ w.heap.size) (hr : ∀ g, row = some g → B ≤ g ∧ ∃ t cs, t ∈ ts ∧ Blk w g t cs) : KeepT B ts w w' :=
  ⟨(Below.refl B w).grown h hB fun g hg => (hr g hg).1, fun g o hg ho => (h.block g (lt_of_heap hg) (fun e => by
    obtain ⟨_, t, cs, ht, hb⟩ := hr g e.symm
    unfold Blk at hb
    rw [hg] at hb
    exact ho _ _ _ (Option.some.inj hb) ht)).trans hg⟩
theorem KeepT.setCell (h : KeepT B ts w w1) {g i : Nat} {t : TypeId} {cs : Array Value} (hb : Blk w1 g t cs) (ht : t ∈ ts) (hB : B ≤ g) (u : Value) : KeepT B ts w (w1.setCell ⟨g, i, none⟩ u) :=
  ⟨h.1.setCell (p := ⟨g, i, none⟩) hB u, fun g' o hg ho => by
    have h1 := h.2 g' o hg ho
    refine (Below.heap_setCell w1 ⟨g, i, none⟩ u g' ?_).trans h1
    rintro rfl
    unfold Blk at hb
    rw [h1] at hb
    exact ho _ _ _ (Option.some.inj hb) ht⟩
theorem KeepT.alloc (h : KeepT B ts w w1) (hB : B ≤ w.heap.size) (o : Obj) : KeepT B ts w (w1.alloc o) := h.trans (KeepT.of_below ((Below.refl _ _).alloc (Nat.le_refl _) o) (Nat.le_trans hB h.1.size))
theorem KeepT.drewN (h : KeepT B ts w w1) (n : Nat) : KeepT B ts w (w1.drewN n) := ⟨below_drewN h.1 n, h.2⟩
theorem KeepT.more {ts' : List TypeId} (h : KeepT B ts w w1) (hs : ∀ t ∈ ts, t ∈ ts') : KeepT B ts' w w1 := ⟨h.1, fun g o hg ho => h.2 g o hg fun cs t fz e ht => ho cs t fz e (hs t ht)⟩
theorem KeepT.mono {B' : Nat} (h : KeepT B ts w w1) (hB : B' ≤ B) : KeepT B' ts w w1 := ⟨h.1.mono hB, h.2⟩
theorem KeepT.blk (h : KeepT B ts w w') {g : Nat} {t : TypeId} {cs : Array Value} (hb : Blk w g t cs) (ht : t ∉ ts) : Blk w' g t cs := h.2 g _ hb fun cs' t' fz e => by cases e; exact ht
theorem KeepT.own (h : KeepT B ts w w') {b n size : Nat} {e : TypeId} {v : Value} {xs : List Value} (ho : w.ownsRow b e size v n xs) (ht : e ∉ ts) : w'.ownsRow b e size v n xs := by
  rcases ho.2 with ⟨rfl, hl⟩ | ⟨g, cap, cur, rfl, hbase, hh, hrest⟩
  · exact ⟨ho.1, .inl ⟨rfl, hl⟩⟩
  · exact ⟨ho.1, .inr ⟨g, cap, cur, rfl, hbase, h.blk hh ht, hrest⟩⟩
theorem KeepT.reads (h : KeepT B ts w w') {n size : Nat} {A : Option Addr} {xs : List Value} (hr : Reads w B size A n xs) : Reads w' B size A n xs := hr.keep fun _ hp => h.1.cell hp
end
theorem KeepT.of_app {B : Nat} {w w1 : World} {e : TypeId} {size n : Nat} {v : Value} {xs : List Value} (ho : w.ownsRow B e size v n xs) (hg : w.grownBy w1 v.ownBlock) (hB : B ≤ w.heap.size) : KeepT B [e] w w1 :=
  KeepT.of_grown hg hB fun g hg' => by
    rcases ho.2 with ⟨rfl, _⟩ | ⟨g', cap, cur, rfl, hb, hh, _⟩
    · simp [Value.ownBlock] at hg'
    · have : g' = g := by simpa [Value.ownBlock] using hg'
      subst this
      exact ⟨hb, e, cur, by simp, hh⟩
theorem KeepT.alloc0 {B : Nat} {w : World} (hB : B ≤ w.heap.size) (o : Obj) : KeepT B [] w (w.alloc o) := (KeepT.refl B [] w).alloc hB o
end Go.Proofs.YtnmkdmehljkedaaGreatDoor
