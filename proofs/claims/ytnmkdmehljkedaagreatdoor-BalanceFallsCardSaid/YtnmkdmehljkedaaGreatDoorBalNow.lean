/-
  A balance in a law's walk: what stands, and each act.
-/
import Derived.Test.YtnmkdmehljkedaaGreatDoorBalPlain
namespace Go.Proofs.YtnmkdmehljkedaaGreatDoor
open Go.RowKit

/-- All blocks that a balance is read from. -/
def BPl.all (p : BPl) : List Nat := p.bp :: p.hp :: p.fp :: p.mb :: p.db :: (p.ps ++ (p.hv.ownBlock.toList ++ p.sv.ownBlock.toList))
section
variable {ea : Nat → Addr} {w W W' : World} {lo hi : Nat} {p : BPl} {c : BCfg} {s s' : BS} {bs : List Nat}
theorem BalAt.lt (h : BalAt W lo p c s) : ∀ b ∈ p.all, b < W.heap.size := by
  intro b hb
  unfold BPl.all at hb
  simp only [List.mem_cons, List.mem_append, Option.mem_toList] at hb
  rcases hb with rfl | rfl | rfl | rfl | rfl | hb | hb | hb
  · exact h.blk.lt
  · exact h.h.blk.lt
  · exact h.f.blk.lt
  · exact h.f.map.lt
  · exact h.d.lt
  · exact h.h.lt b hb
  · exact (h.row.lt b hb).2
  · exact (h.h.own.lt b hb).2
theorem BalAt.away (h : BalAt W lo p c s) (ht : Turn bs W W') (hd : ∀ b ∈ p.all, b ∉ bs) : BalAt W' lo p c s := by
  unfold BPl.all at hd
  simp only [List.mem_cons, List.mem_append, Option.mem_toList] at hd
  exact ⟨ht.blk h.blk (hd _ (.inl rfl)), ht.own h.row fun g hg => hd g (.inr (.inr (.inr (.inr (.inr (.inr (.inl hg))))))), h.h.turn ht (hd _ (.inr (.inl rfl))) (fun q hq => hd q (.inr (.inr (.inr (.inr (.inr (.inl hq))))))) (fun g hg => hd g (.inr (.inr (.inr (.inr (.inr (.inr (.inr hg)))))))), h.f.turn ht (hd _ (.inr (.inr (.inl rfl)))) (hd _ (.inr (.inr (.inr (.inl rfl))))), h.d.turn ht (hd _ (.inr (.inr (.inr (.inr (.inl rfl)))))), h.ne, h.same, h.lk, h.ab⟩
/-- What stands in a law: a balance, whose blocks lie in front of hi. -/
structure BNow (ea : Nat → Addr) (w W : World) (lo hi : Nat) (p : BPl) (c : BCfg) (s : BS) : Prop where
  b : BalAt W lo p c s
  le : w.heap.size ≤ lo
  hi : ∀ b ∈ p.all, b < hi
  w : Below w.heap.size w W
  e : ErrsB ea W
theorem BNow.below (h : BNow ea w W lo hi p c s) (hb : Below W.heap.size W W') : BNow ea w W' lo hi p c s := ⟨h.b.below hb, h.le, h.hi, below_two h.w hb, h.e.below hb⟩
theorem BNow.turn (h : BNow ea w W lo hi p c s) (hB : BalAt W' lo p c s') (ht : Turn bs W W') (hs : ∀ b ∈ bs, b ∈ p.bs) : BNow ea w W' lo hi p c s' :=
  ⟨hB, h.le, h.hi, h.w.trans (ht.below h.w.size fun b hb => Nat.le_trans h.le (h.b.bsLo b (hs b hb))), h.e.turn h.b ht hs⟩
theorem errsB_turn (hE : ErrsB ea W) (ht : Turn bs W W') (hs : ∀ c, gv c ∉ bs) : ErrsB ea W' := by
  have hk : ∀ {n v}, W.cell? ⟨gv n, 0, none⟩ = some v → W'.cell? ⟨gv n, 0, none⟩ = some v := fun {n v} hc => ht.cell hc (hs n)
  exact ⟨⟨⟨hk hE.t.e3.c2, hk hE.t.e3.c4, hk hE.t.e3.c6⟩, ⟨hk hE.t.z.c2, hk hE.t.z.c3⟩, hk hE.t.c5⟩, ⟨hk hE.f.c2, hk hE.f.c4, hk hE.f.c8⟩⟩
/-- A row of texts behind hi is written on. -/
theorem BNow.row {B n : Nat} {e : TypeId} {size : Nat} {v : Value} {xs : List Value} (h : BNow ea w W lo hi p c s) (ho : W.ownsRow B e size v n xs) (hB : hi ≤ B) (hw : w.heap.size ≤ B) (he : ErrsB ea W → ErrsB ea W') (hg : W.grownBy W' v.ownBlock) : BNow ea w W' lo hi p c s := by
  have ht : Turn v.ownBlock.toList W W' := Turn.of_grown hg fun g hg => by simpa using hg
  have hlo : ∀ b ∈ v.ownBlock.toList, B ≤ b := fun b hb => (ho.lt b (by simpa using hb)).1
  exact ⟨h.b.away ht fun b hb hm => by have := h.hi b hb; have := hlo b hm; omega, h.le, h.hi, h.w.trans (ht.below h.w.size fun b hb => Nat.le_trans hw (hlo b hb)), he h.e⟩
theorem errs_row {B n : Nat} {e : TypeId} {size : Nat} {v : Value} {xs : List Value} (hE : ErrsB ea w) (hw : Below w.heap.size w W) (ho : W.ownsRow B e size v n xs) (hB : w.heap.size ≤ B) (hg : W.grownBy W' v.ownBlock) : ErrsB ea W' := by
  have ht : Turn v.ownBlock.toList W W' := Turn.of_grown hg fun g hg => by simpa using hg
  have hb : Below w.heap.size w W' := hw.trans (ht.below hw.size fun b hb => Nat.le_trans hB (ho.lt b (by simpa using hb)).1)
  exact hE.below hb
theorem BNow.strs {B n size : Nat} {e : TypeId} {v : Value} {xs : List Value} (h : BNow ea w W lo hi p c s) (he : e ≠ 78) (ho : W.ownsRow B e size v n xs) (ht : Turn [p.fp, p.mb] W W') : W'.ownsRow B e size v n xs := by
  obtain ⟨es, cl, hm⟩ := h.b.f.map.heap
  refine ht.own ho fun g hg => ?_
  simp only [List.mem_cons, List.not_mem_nil, or_false]
  rintro (rfl | rfl)
  · exact own_blk_ne ho h.b.f.blk he hg
  · exact own_not_map ho hm hg
theorem BNow.blkF {g : Nat} {t : TypeId} {cs : Array Value} (h : BNow ea w W lo hi p c s) (ht' : t ≠ 78) (hB : Blk W g t cs) (ht : Turn [p.fp, p.mb] W W') : Blk W' g t cs := by
  obtain ⟨es, cl, hm⟩ := h.b.f.map.heap
  have n1 := hB.ne_ h.b.f.blk ht'
  have n2 := blk_not_map hm hB
  exact ht.blk hB (by simp; exact ⟨n1, n2⟩)
/-! Acts. -/
def PickAs (x : ByteArray) (kept : Bool) (ea : Nat → Addr) (w : World) (lo hi : Nat) (p : BPl) (c : BCfg) (s' : BS) (W : World) (e : Ending) (w' : World) : Prop :=
  e = .returned (.tuple #[.string x, .bool kept, .nilIface]) ∧ BNow ea w w' lo hi p c s' ∧ Turn [p.fp, p.mb] W w'
theorem bn_pick {x : ByteArray} {kept : Bool} (k : Nat) (now : Int) (h : BNow ea w W lo hi p c s) (hO : BOk c) (hU : U64 k) (hr : pickS c s k now = ((x, kept, 0), s')) :
    Calls Tryz.prog 6 #[.pointer (some ⟨p.bp, 0, none⟩), .int .u64 (k : Int), .int .i64 now] W (PickAs x kept ea w lo hi p c s' W) := by
  refine (pick_any ea k now W h.e h.b hO hU).mono fun e w' ⟨a, b, t⟩ => ?_
  rw [hr] at a b
  exact ⟨a, h.turn b t p.fm, t⟩
def NewAs (ea : Nat → Addr) (w : World) (c : BCfg) (W : World) (e : Ending) (w' : World) : Prop := ∃ p, e = .returned (.tuple #[.pointer (some ⟨p.bp, 0, none⟩), .nilIface]) ∧ BNow ea w w' W.heap.size w'.heap.size p c (newS c) ∧ Below W.heap.size W w'
theorem bn_new {A : Option Addr} {cp : Nat} (hE : ErrsB ea W) (hw : Below w.heap.size w W) (hT : TxIn W A cp c.hosts) (hO : BOk c) :
    Calls Tryz.prog 5 #[.slice A c.hosts.length cp, .int .i64 (c.size : Int), .int .i64 (c.time : Int), .int .i64 (c.fall : Int), .int .i64 (c.rise : Int)] W (NewAs ea w c W) :=
  (balNew_ok ea A cp c W hE hT hO).mono fun _ _ ⟨p, a, b, d⟩ => ⟨p, a, ⟨b, hw.size, b.lt, below_two hw d, hE.below d⟩, d⟩
end
end Go.Proofs.YtnmkdmehljkedaaGreatDoor
