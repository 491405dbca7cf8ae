/-
  A balance of the reference in memory, beside the program's state.
  The reference's balance: Look, Export, Drain.
  The reference's balance: Import.
  The reference's balance: Pick.
  The reference's NewBalance and NewDuo.
-/
import Derived.Test.YteilefpjfbholaaGreatDoorRefHealth
import Derived.Test.YteilefpjfbholaaGreatDoorRefFlows
import Derived.Test.YteilefpjfbholaaGreatDoorAddOk
import Derived.Test.YteilefpjfbholaaGreatDoorBalNow
import Derived.Test.YteilefpjfbholaaGreatDoorPlayPlain
import Derived.Test.YteilefpjfbholaaGreatDoorRefOf
import Derived.Deep.RegionHeld3
import Derived.Test.YteilefpjfbholaaGreatDoorMakeBoth
namespace Go.Proofs.YteilefpjfbholaaGreatDoor
open Go.RowKit

/-- Where a balance of the reference lies. -/
structure RBp where
  mb : Nat
  mh : Nat
  mf : Nat
  sv : Value
  vs : List Value
  fv : Value
  dv : Value
/-- What it may write. -/
def RBp.ws (p : RBp) : List Nat := p.mb :: p.mf :: hbs p.mh p.sv p.vs
abbrev rbalC (p : RBp) (c : BCfg) (e : Nat) : Array Value := #[ptr p.mh, ptr p.mf, .int .i64 (c.size : Int), p.dv, .int .i64 (e : Int)]
/-- The reference's balance, beside the state s; so many acts at most. -/
structure RepB (w : World) (B : Nat) (p : RBp) (c : BCfg) (n : Nat) (s : BS) : Prop where
  blk : Blk w p.mb 64 (rbalC p c s.epoch)
  h : ∃ rs, RefH w B p.mh c.fall c.rise rs p.sv p.vs ∧ Mt s.st rs n
  f : RFs w B p.mf c.time s.fs.1 s.fs.2 p.fv
  d : ∃ dl, w.ownsRow B 9 1 p.dv dl.length (strV dl) ∧ dl.length ≤ n ∧ ∀ x, s.dr x = true ↔ x ∈ dl
  b : B ≤ p.mb
theorem own_isBlk {w : World} {b n size : Nat} {e : TypeId} {v : Value} {xs : List Value} (h : w.ownsRow b e size v n xs) {g : Nat} (hg : v.ownBlock = some g) : ∃ cs, Blk w g e cs := by
  rcases h.2 with ⟨rfl, _⟩ | ⟨g', cap, cur, rfl, _, hh, _⟩
  · simp [Value.ownBlock] at hg
  · have : g' = g := by simpa [Value.ownBlock] using hg
    subst this
    exact ⟨cur, hh⟩
section
variable {w w' W W' : World} {B mp fall rise n n' : Nat} {rs rs' : List Rt} {sv sv' : Value} {vs vs' : List Value} {bs : List Nat} {p p' q : RBp} {c c' : BCfg} {s s' : BS}
/-- A block of another kind is none of a health. -/
theorem RefH.notIn {g : Nat} {t : TypeId} {cs : Array Value} (h : RefH w B mp fall rise rs sv vs) (hB : Blk w g t cs) (h1 : t ≠ 123) (h2 : t ≠ 126) (h3 : t ≠ 4) : g ∉ hbs mp sv vs := by
  intro hm
  unfold hbs at hm
  rcases List.mem_cons.1 hm with rfl | hm
  · exact hB.ne_ h.blk h1 rfl
  · rcases List.mem_append.1 hm with hm | hm
    · obtain ⟨cs', hB'⟩ := own_isBlk h.own (by simpa using hm)
      exact hB.ne_ hB' h2 rfl
    · unfold vbs at hm
      obtain ⟨v, hv, hg⟩ := List.mem_flatMap.1 hm
      obtain ⟨i, hi, rfl⟩ := List.getElem_of_mem hv
      have hir : i < rs.length := by rw [← h.len]; exact hi
      obtain ⟨cs', hB'⟩ := own_isBlk (h.at_ i vs[i] rs[i] (List.getElem?_eq_getElem hi) (List.getElem?_eq_getElem hir)) (by simpa using hg)
      exact hB.ne_ hB' h3 rfl
theorem RefH.lt (h : RefH w B mp fall rise rs sv vs) : ∀ b ∈ hbs mp sv vs, B ≤ b ∧ b < w.heap.size := by
  intro b hm
  unfold hbs at hm
  rcases List.mem_cons.1 hm with rfl | hm
  · exact ⟨h.base, h.blk.lt⟩
  · rcases List.mem_append.1 hm with hm | hm
    · exact h.own.lt b (by simpa using hm)
    · unfold vbs at hm
      obtain ⟨v, hv, hg⟩ := List.mem_flatMap.1 hm
      obtain ⟨i, hi, rfl⟩ := List.getElem_of_mem hv
      have hir : i < rs.length := by rw [← h.len]; exact hi
      exact (h.at_ i vs[i] rs[i] (List.getElem?_eq_getElem hi) (List.getElem?_eq_getElem hir)).lt b (by simpa using hg)
theorem RefH.turn (h : RefH w B mp fall rise rs sv vs) (ht : Turn bs w w') (hd : ∀ b ∈ hbs mp sv vs, b ∉ bs) : RefH w' B mp fall rise rs sv vs := by
  unfold hbs at hd
  refine ⟨ht.blk h.blk (hd _ List.mem_cons_self), ht.own h.own fun g hg => hd g (List.mem_cons_of_mem _ (List.mem_append.2 (.inl (by rw [hg]; simp)))), h.len, fun i v r a b => ht.own (h.at_ i v r a b) fun g hg => hd g (List.mem_cons_of_mem _ (List.mem_append.2 (.inr ?_))), h.apart, h.base⟩
  exact List.mem_flatMap.2 ⟨v, List.mem_of_getElem? a, by rw [hg]; simp⟩
theorem RFs.away {time last : Nat} {L : List Fl} {fv : Value} (h : RFs w B mp time last L fv) (ht : Turn bs w w') (h1 : mp ∉ bs) (h2 : ∀ g, fv.ownBlock = some g → g ∉ bs) : RFs w' B mp time last L fv :=
  ⟨ht.blk h.blk h1, ht.own h.row h2, h.len, h.base⟩
theorem RepB.below (h : RepB w B p c n s) (hb : Below w.heap.size w w') : RepB w' B p c n s := by
  obtain ⟨rs, h1, h2⟩ := h.h
  obtain ⟨dl, d1, d2, d3⟩ := h.d
  exact ⟨h.blk.below hb h.blk.lt, ⟨rs, h1.below hb, h2⟩, h.f.below hb, ⟨dl, own_below d1 hb, d2, d3⟩, h.b⟩
theorem RepB.more (h : RepB w B p c n s) (hn : n ≤ n') : RepB w B p c n' s := by
  obtain ⟨rs, h1, h2⟩ := h.h
  obtain ⟨dl, d1, d2, d3⟩ := h.d
  exact ⟨h.blk, ⟨rs, h1, h2.mono hn⟩, h.f, ⟨dl, d1, Nat.le_trans d2 hn, d3⟩, h.b⟩
theorem RepB.wsLt (h : RepB w B p c n s) : ∀ b ∈ p.ws, B ≤ b ∧ b < w.heap.size := by
  intro b hb
  unfold RBp.ws at hb
  obtain ⟨rs, h1, _⟩ := h.h
  rcases List.mem_cons.1 hb with rfl | hb
  · exact ⟨h.b, h.blk.lt⟩
  · rcases List.mem_cons.1 hb with rfl | hb
    · exact ⟨h.f.base, h.f.blk.lt⟩
    · exact h1.lt b hb
/-- A block of another kind is none that a balance writes. -/
theorem RepB.notWs {g : Nat} {t : TypeId} {cs : Array Value} (h : RepB w B p c n s) (hB : Blk w g t cs) (h0 : t ≠ 64) (h4 : t ≠ 70) (h1 : t ≠ 123) (h2 : t ≠ 126) (h3 : t ≠ 4) : g ∉ p.ws := by
  intro hm
  unfold RBp.ws at hm
  obtain ⟨rs, h5, _⟩ := h.h
  rcases List.mem_cons.1 hm with rfl | hm
  · exact hB.ne_ h.blk h0 rfl
  · rcases List.mem_cons.1 hm with rfl | hm
    · exact hB.ne_ h.f.blk h4 rfl
    · exact h5.notIn hB h1 h2 h3 hm
/-- One stays where the other turns. -/
theorem RepB.away (h : RepB W B q c n s) (hp : RepB W B p c' n' s') (ht : Turn p.ws W W') (ha : ∀ b ∈ q.ws, b ∉ p.ws) : RepB W' B q c n s := by
  obtain ⟨rs, h1, h2⟩ := h.h
  obtain ⟨dl, d1, d2, d3⟩ := h.d
  have hin : ∀ b ∈ hbs q.mh q.sv q.vs, b ∈ q.ws := fun b hb => List.mem_cons_of_mem _ (List.mem_cons_of_mem _ hb)
  refine ⟨ht.blk h.blk (ha _ List.mem_cons_self), ⟨rs, h1.turn ht fun b hb => ha b (hin b hb), h2⟩, h.f.away ht (ha _ (List.mem_cons_of_mem _ List.mem_cons_self)) fun g hg => ?_, ⟨dl, ht.own d1 fun g hg => ?_, d2, d3⟩, h.b⟩
  · obtain ⟨cs, hB⟩ := own_isBlk h.f.row hg
    exact hp.notWs hB (by decide) (by decide) (by decide) (by decide) (by decide)
  · obtain ⟨cs, hB⟩ := own_isBlk d1 hg
    exact hp.notWs hB (by decide) (by decide) (by decide) (by decide) (by decide)
/-- What lies ahead of it turns. -/
theorem RepB.low (h : RepB W B q c n s) (ht : Turn bs W W') (hb : ∀ b ∈ bs, b < B) : RepB W' B q c n s := by
  obtain ⟨rs, h1, h2⟩ := h.h
  obtain ⟨dl, d1, d2, d3⟩ := h.d
  have hn : ∀ b, B ≤ b → b ∉ bs := fun b h1 h2 => by have := hb b h2; omega
  exact ⟨ht.blk h.blk (hn _ h.b), ⟨rs, h1.turn ht fun b hb => hn b (h1.lt b hb).1, h2⟩, h.f.away ht (hn _ h.f.base) fun g hg => hn g (h.f.row.lt g hg).1, ⟨dl, ht.own d1 fun g hg => hn g (d1.lt g hg).1, d2, d3⟩, h.b⟩
/-- What an act leaves: the balance, and what it may write is what it was, or new. -/
def Stood (p p' : RBp) : Prop := p'.mb = p.mb ∧ p'.mh = p.mh ∧ p'.mf = p.mf
def RepTo (B : Nat) (p : RBp) (c : BCfg) (n : Nat) (s' : BS) (W w' : World) : Prop := ∃ p', RepB w' B p' c n s' ∧ Stood p p' ∧ Turn p.ws W w' ∧ ∀ b ∈ p'.ws, b ∈ p.ws ∨ W.heap.size ≤ b
theorem RepTo.refl (h : RepB W B p c n s) : RepTo B p c n s W W := ⟨p, h, ⟨rfl, rfl, rfl⟩, Turn.refl _ _, fun _ hb => .inl hb⟩
theorem RepTo.link {W1 : World} {p1 : RBp} (e : Stood p p1) (t : Turn p.ws W W1) (hb : ∀ b ∈ p1.ws, b ∈ p.ws ∨ W.heap.size ≤ b) (h2 : RepTo B p1 c n' s' W1 W') : RepTo B p c n' s' W W' := by
  obtain ⟨p2, r2, e2, t2, b2⟩ := h2
  refine ⟨p2, r2, ⟨e2.1.trans e.1, e2.2.1.trans e.2.1, e2.2.2.trans e.2.2⟩, t.trans t2 hb, fun b h => ?_⟩
  rcases b2 b h with h3 | h3
  · exact hb b h3
  · exact .inr (Nat.le_trans t.size h3)
theorem RepB.cells (h : RepB W B p c n s) : W.cell? ⟨p.mb, 0, none⟩ = some (.pointer (some ⟨p.mh, 0, none⟩)) ∧ W.cell? ⟨p.mb, 1, none⟩ = some (.pointer (some ⟨p.mf, 0, none⟩)) ∧ W.cell? ⟨p.mb, 2, none⟩ = some (.int .i64 (c.size : Int)) ∧ W.cell? ⟨p.mb, 3, none⟩ = some p.dv ∧ W.cell? ⟨p.mb, 4, none⟩ = some (.int .i64 (s.epoch : Int)) :=
  ⟨h.blk.cell 0, h.blk.cell 1, h.blk.cell 2, h.blk.cell 3, h.blk.cell 4⟩
theorem RepTo.below (h : RepTo B p c n s W W') {W2 : World} (hb : Below W'.heap.size W' W2) : RepTo B p c n s W W2 := by
  obtain ⟨p1, r1, e1, t1, b1⟩ := h
  exact ⟨p1, r1.below hb, e1, t1.thenB hb, b1⟩
theorem RepB.to_below (h : RepB W B p c n s) (hb : Below W.heap.size W W') : RepTo B p c n s W W' := (RepTo.refl h).below hb
/-- The flows turn. -/
theorem RepB.turnF {fs' : FS} {fv' : Value} (h : RepB W B p c n s) (hf : RFs W' B p.mf c.time fs'.1 fs'.2 fv') (ht : Turn [p.mf] W W') : RepTo B p c n { s with fs := fs' } W W' := by
  obtain ⟨rs, h1, h2⟩ := h.h
  obtain ⟨dl, d1, d2, d3⟩ := h.d
  have hm : ∀ b, b ∈ [p.mf] → b = p.mf := fun b hb => List.mem_singleton.1 hb
  refine ⟨{ p with fv := fv' }, ⟨ht.blk h.blk fun hb => h.blk.ne_ h.f.blk (by decide) (hm _ hb), ⟨rs, h1.turn ht fun b hb hb2 => h1.notIn h.f.blk (by decide) (by decide) (by decide) (hm _ hb2 ▸ hb), h2⟩, hf, ⟨dl, ht.own d1 fun g hg hb => ?_, d2, d3⟩, h.b⟩, ⟨rfl, rfl, rfl⟩, ht.more fun b hb => by rw [hm _ hb]; exact List.mem_cons_of_mem _ List.mem_cons_self, fun b hb => .inl hb⟩
  obtain ⟨cs, hB⟩ := own_isBlk d1 hg
  exact hB.ne_ h.f.blk (by decide) (hm _ hb)
/-- The health turns. -/
theorem RepB.turnH {st' : List St} (h : RepB W B p c n s) (hR : RefH W' B p.mh c.fall c.rise rs' sv' vs') (hM : Mt st' rs' n') (hn : n ≤ n') (ht : Turn (hbs p.mh p.sv p.vs) W W') (hb : ∀ b ∈ hbs p.mh sv' vs', b ∈ hbs p.mh p.sv p.vs ∨ W.heap.size ≤ b) : RepTo B p c n' { s with st := st' } W W' := by
  obtain ⟨rs, h1, h2⟩ := h.h
  obtain ⟨dl, d1, d2, d3⟩ := h.d
  refine ⟨{ p with sv := sv', vs := vs' }, ⟨ht.blk h.blk (h1.notIn h.blk (by decide) (by decide) (by decide)), ⟨rs', hR, hM⟩, h.f.away ht (h1.notIn h.f.blk (by decide) (by decide) (by decide)) fun g hg => ?_, ⟨dl, ht.own d1 fun g hg => ?_, Nat.le_trans d2 hn, d3⟩, h.b⟩, ⟨rfl, rfl, rfl⟩, ht.more fun b hb => List.mem_cons_of_mem _ (List.mem_cons_of_mem _ hb), fun b hb' => ?_⟩
  · obtain ⟨cs, hB⟩ := own_isBlk h.f.row hg
    exact h1.notIn hB (by decide) (by decide) (by decide)
  · obtain ⟨cs, hB⟩ := own_isBlk d1 hg
    exact h1.notIn hB (by decide) (by decide) (by decide)
  · unfold RBp.ws at hb' ⊢
    rcases List.mem_cons.1 hb' with rfl | hb'
    · exact .inl List.mem_cons_self
    · rcases List.mem_cons.1 hb' with rfl | hb'
      · exact .inl (List.mem_cons_of_mem _ List.mem_cons_self)
      · rcases hb b hb' with h3 | h3
        · exact .inl (List.mem_cons_of_mem _ (List.mem_cons_of_mem _ h3))
        · exact .inr h3
/-- A cell of its own block turns: the epoch. -/
theorem RepB.turnE (h : RepB W B p c n s) (e : Nat) : RepTo B p c n { s with epoch := e } W (W.setCell ⟨p.mb, 4, none⟩ (.int .i64 (e : Int))) := by
  have ht : Turn [p.mb] W (W.setCell ⟨p.mb, 4, none⟩ (.int .i64 (e : Int))) := (Turn.refl _ W).setCell (p := ⟨p.mb, 4, none⟩) (.inl (by simp)) _
  obtain ⟨rs, h1, h2⟩ := h.h
  obtain ⟨dl, d1, d2, d3⟩ := h.d
  have hm : ∀ b, b ∈ [p.mb] → b = p.mb := fun b hb => List.mem_singleton.1 hb
  refine ⟨p, ⟨h.blk.set_ 4 _, ⟨rs, h1.turn ht fun b hb hb2 => h1.notIn h.blk (by decide) (by decide) (by decide) (hm _ hb2 ▸ hb), h2⟩, h.f.away ht (fun hb => h.blk.ne_ h.f.blk (by decide) (hm _ hb).symm) fun g hg hb => ?_, ⟨dl, ht.own d1 fun g hg hb => ?_, d2, d3⟩, h.b⟩, ⟨rfl, rfl, rfl⟩, ht.more fun b hb => by rw [hm _ hb]; exact List.mem_cons_self, fun b hb => .inl hb⟩
  · obtain ⟨cs, hB⟩ := own_isBlk h.f.row hg
    exact hB.ne_ h.blk (by decide) (hm _ hb)
  · obtain ⟨cs, hB⟩ := own_isBlk d1 hg
    exact hB.ne_ h.blk (by decide) (hm _ hb)
/-- Another list of drained hosts is written. -/
theorem RepB.turnD {dl' : List ByteArray} {dv' : Value} {dr' : ByteArray → Bool} {nd' : Nat} (h : RepB W B p c n s) (ho : W.ownsRow B 9 1 dv' dl'.length (strV dl')) (hl : dl'.length ≤ n + 1) (hd : ∀ x, dr' x = true ↔ x ∈ dl') : RepTo B p c (n + 1) { s with dr := dr', nd := nd' } W (W.setCell ⟨p.mb, 3, none⟩ dv') := by
  have ht : Turn [p.mb] W (W.setCell ⟨p.mb, 3, none⟩ dv') := (Turn.refl _ W).setCell (p := ⟨p.mb, 3, none⟩) (.inl (by simp)) _
  obtain ⟨rs, h1, h2⟩ := h.h
  have hm : ∀ b, b ∈ [p.mb] → b = p.mb := fun b hb => List.mem_singleton.1 hb
  refine ⟨{ p with dv := dv' }, ⟨h.blk.set_ 3 _, ⟨rs, h1.turn ht fun b hb hb2 => h1.notIn h.blk (by decide) (by decide) (by decide) (hm _ hb2 ▸ hb), h2.mono (Nat.le_succ n)⟩, h.f.away ht (fun hb => h.blk.ne_ h.f.blk (by decide) (hm _ hb).symm) fun g hg hb => ?_, ⟨dl', ht.own ho fun g hg hb => ?_, hl, hd⟩, h.b⟩, ⟨rfl, rfl, rfl⟩, ht.more fun b hb => by rw [hm _ hb]; exact List.mem_cons_self, fun b hb => .inl hb⟩
  · obtain ⟨cs, hB⟩ := own_isBlk h.f.row hg
    exact hB.ne_ h.blk (by decide) (hm _ hb)
  · obtain ⟨cs, hB⟩ := own_isBlk ho hg
    exact hB.ne_ h.blk (by decide) (hm _ hb)
end
end Go.Proofs.YteilefpjfbholaaGreatDoor

namespace Go.Proofs.YteilefpjfbholaaGreatDoor
open Go.RowKit

section
variable {W : World} {B n : Nat} {p : RBp} {c : BCfg} {s : BS}
theorem RepB.len (h : RepB W B p c n s) : s.st.length ≤ 12 := by
  obtain ⟨rs, _, hM⟩ := h.h
  exact hM.le
theorem refHLook (z : ByteArray) (v : Bool) (h : RepB W B p c n s) (hB : B ≤ W.heap.size) (hn : n ≤ 900) (h1 : 1 ≤ c.fall) (h2 : 1 ≤ c.rise) :
    Calls Tryz.prog 143 #[.pointer (some ⟨p.mh, 0, none⟩), .string z, .bool v] W fun e w' => e = .returned (.tuple #[.bool (lookR1 c s z v).2, .int .i64 (remCode (hosts s.st) z : Int)]) ∧ RepTo B p c (n + 1) { s with st := (lookR1 c s z v).1 } W w' := by
  obtain ⟨rs, hR, hM⟩ := h.h
  obtain ⟨e1, hM2⟩ := hM.look (fall := c.fall) (rise := c.rise) (idx (hosts s.st) z) v h1 h2
  have hrl : rs.length ≤ 12 := by have := hM.le; have := hM.len; omega
  unfold lookR1
  rw [e1]
  unfold remCode
  rw [hM.hosts] at hM2 ⊢
  by_cases hm : has (rhosts rs) z = true
  · obtain ⟨k, hk, hi, _⟩ := idx_mem (has_iff.1 hm)
    rw [rhosts_length] at hk
    have e2 : (lookAll rs (idx (rhosts rs) z) fun r => lookR c.fall c.rise r v) = (rs.set k (lookR c.fall c.rise rs[k] v).1, (lookR c.fall c.rise rs[k] v).2) := by
      unfold lookAll
      rw [hi, if_neg (by omega), Int.toNat_natCast, List.getElem?_eq_getElem hk]
    rw [if_pos hm]
    rw [e2] at hM2 ⊢
    exact (refLook_found z v W hR hB (by omega) hi hk (hM.rlooks (by omega) _ (List.getElem_mem hk))).mono fun e w' ⟨a, ⟨sv', vs', b, b2⟩, _, t⟩ => ⟨a, h.turnH b hM2 (Nat.le_succ n) t b2⟩
  · have hm' : z ∉ rhosts rs := fun h' => hm (has_iff.2 h')
    have hi : idx (rhosts rs) z = -1 := idx_miss fun t ht e => hm' (by rw [e]; exact ht)
    have e2 : ∀ (l : List Rt), (lookAll l (-1 : Int) fun r => lookR c.fall c.rise r v) = (l, false) := fun l => by unfold lookAll; rw [if_pos (by decide)]
    have e3 : (lookAll s.st (-1 : Int) fun q => lookSt c.fall c.rise q v) = (s.st, false) := by unfold lookAll; rw [if_pos (by decide)]
    rw [if_neg hm, hi, e2, e3]
    exact (refLook_none z v W hR (by omega) hm').mono fun e w' ⟨a, b⟩ => ⟨a, by rw [← b]; exact RepTo.refl (h.more (Nat.le_succ n))⟩
/-- A host that turned is as it was seen. -/
theorem upOf_turned {c : BCfg} {s : BS} {z : ByteArray} {v : Bool} (h : (lookR1 c s z v).2 = true) : upOf (lookR1 c s z v).1 z = v := by
  unfold lookR1 at h ⊢
  by_cases hm : z ∈ hosts s.st
  · obtain ⟨k, hk, hi, hg⟩ := idx_mem hm
    have hk2 : k < s.st.length := by rw [hosts_len] at hk; exact hk
    have hsk : s.st[k]? = some s.st[k] := List.getElem?_eq_getElem hk2
    have e : lookAll s.st (idx (hosts s.st) z) (fun q => lookSt c.fall c.rise q v) = (s.st.set k (lookSt c.fall c.rise s.st[k] v).1, (lookSt c.fall c.rise s.st[k] v).2) := by
      unfold lookAll
      rw [hi, if_neg (by omega), Int.toNat_natCast, hsk]
    rw [e] at h ⊢
    dsimp only at h ⊢
    have hh : hosts (s.st.set k (lookSt c.fall c.rise s.st[k] v).1) = hosts s.st := set_same_host hsk lookSt_host
    have hup : (lookSt c.fall c.rise s.st[k] v).1.up = v := by
      unfold lookSt at h ⊢
      by_cases hw : s.st[k].up = v
      · rw [if_pos hw] at h; cases h
      · rw [if_neg hw] at h ⊢
        by_cases he : s.st[k].looks + 1 < (if s.st[k].up = true then c.fall else c.rise)
        · rw [if_pos he] at h; cases h
        · rw [if_neg he]
          show (!s.st[k].up) = v
          cases hu : s.st[k].up <;> cases v <;> simp_all
    unfold upOf
    rw [hh, hi]
    show (match (s.st.set k (lookSt c.fall c.rise s.st[k] v).1)[k]? with | some s => s.up | none => false) = v
    rw [List.getElem?_set_self hk2]
    exact hup
  · have hi : idx (hosts s.st) z = -1 := idx_miss fun u hu e => hm (by rw [e]; exact hu)
    unfold lookAll at h
    rw [hi, if_pos (by decide)] at h
    cases h
theorem RepB.isUp (h : RepB W B p c n s) (x : ByteArray) : Calls Tryz.prog 144 #[.pointer (some ⟨p.mh, 0, none⟩), .string x] W fun e w' => e = .returned (.bool (upOf s.st x)) ∧ W = w' := by
  obtain ⟨rs, hR, hM⟩ := h.h
  rw [hM.upOf x]
  exact refIsUp x W hR (by have := hM.le; have := hM.len; omega)
def RefLookB (B : Nat) (p : RBp) (c : BCfg) (n : Nat) (r : (Bool × Nat) × BS) (W : World) (e : Ending) (w' : World) : Prop := e = .returned (.tuple #[.bool r.1.1, .int .i64 (r.1.2 : Int)]) ∧ RepTo B p c n r.2 W w'
set_option maxRecDepth 100000 in
set_option maxHeartbeats 1000000 in
theorem refB_look (z : ByteArray) (v : Bool) (h : RepB W B p c n s) (hB : B ≤ W.heap.size) (hn : n ≤ 900) (h1 : 1 ≤ c.fall) (h2 : 1 ≤ c.rise) :
    Calls Tryz.prog 102 #[.pointer (some ⟨p.mb, 0, none⟩), .string z, .bool v] W (RefLookB B p c (n + 1) (lookB c s z v) W) := by
  have HL := Lib.hid (refHLook z v h hB hn h1 h2)
  have HU : Hid (∀ w1, RepTo B p c (n + 1) { s with st := (lookR1 c s z v).1 } W w1 → w1.cell? ⟨p.mb, 0, none⟩ = some (.pointer (some ⟨p.mh, 0, none⟩)) ∧ w1.cell? ⟨p.mb, 1, none⟩ = some (.pointer (some ⟨p.mf, 0, none⟩)) ∧
      Hid (Calls Tryz.prog 144 #[.pointer (some ⟨p.mh, 0, none⟩), .string z] w1 fun e w' => e = .returned (.bool (upOf (lookR1 c s z v).1 z)) ∧ w1 = w') ∧
      Hid (Calls Tryz.prog 145 #[.pointer (some ⟨p.mf, 0, none⟩), .string z] w1 fun e w' => ∃ k : Nat, e = .returned (.int .i64 (k : Int)) ∧ RepTo B p c (n + 1) { s with st := (lookR1 c s z v).1, fs := (dropS s.fs z).2 } W w')) := Lib.hid fun w1 ⟨p1, r1, e1, t1, b1⟩ => by
    obtain ⟨c0, c1, _⟩ := r1.cells
    have hu := r1.isUp z
    have hd := ref_dropH_ok z w1 r1.f (Nat.le_trans hB t1.size)
    rw [e1.1, e1.2.1] at c0
    rw [e1.1, e1.2.2] at c1
    rw [e1.2.1] at hu
    rw [e1.2.2] at hd
    refine ⟨c0, c1, Lib.hid hu, Lib.hid (hd.mono fun e w' ⟨a, fv', hf, ht⟩ => ⟨_, a, RepTo.link e1 t1 b1 (r1.turnF (fs' := (dropS s.fs z).2) (by rw [e1.2.2]; exact hf) (by rw [e1.2.2]; exact ht))⟩)⟩
  have c0 := h.cells.1
  have HT := Lib.hid (fun ht : (lookR1 c s z v).2 = true => upOf_turned (c := c) (s := s) (z := z) (v := v) ht)
  have HP : Hid (∀ w', RepTo B p c (n + 1) (if (lookR1 c s z v).2 = true ∧ v = false then { s with st := (lookR1 c s z v).1, fs := (dropS s.fs z).2 } else { s with st := (lookR1 c s z v).1 }) W w' → RefLookB B p c (n + 1) (lookB c s z v) W (.returned (.tuple #[.bool (lookR1 c s z v).2, .int .i64 (remCode (hosts s.st) z : Int)])) w') := Lib.hid fun w' h => ⟨rfl, h⟩
  generalize hLB : lookB c s z v = LB at *
  clear hLB h hB
  generalize lookR1 c s z v = r at *
  generalize remCode (hosts s.st) z = code at *
  obtain ⟨st', tb⟩ := r
  dsimp only at HL HU HP HT
  cases tb
  case false =>
    clear HT
    generalize upOf st' z = u at *
    go_enter Tryz.func102, Tryz.ntmps102
    go_wp2_with fail
    refine HL.out.mono ?_
    rintro e w1 ⟨rfl, h1⟩
    obtain ⟨d0, d1, HI, _⟩ := HU.out w1 h1
    have HF := Lib.hid (HP.out w1 (by rw [if_neg (by simp)]; exact h1))
    clear h1 HL HU HP
    go_wp2_with fail
    refine HI.out.mono ?_
    rintro e w2 ⟨rfl, rfl⟩
    go_wp2
    go_ret2
    exact HF.out
  case true =>
    have hup := HT.out rfl
    rw [hup] at HU
    clear HT hup
    cases v
    · go_enter Tryz.func102, Tryz.ntmps102
      go_wp2_with fail
      refine HL.out.mono ?_
      rintro e w1 ⟨rfl, h1⟩
      obtain ⟨d0, d1, HI, HD⟩ := HU.out w1 h1
      clear h1 HL HU
      go_wp2_with fail
      refine HI.out.mono ?_
      rintro e w2 ⟨rfl, rfl⟩
      go_wp2_with fail
      refine HD.out.mono ?_
      rintro e w3 ⟨k3, rfl, h3⟩
      have HF := Lib.hid (HP.out w3 (by rw [if_pos (by simp)]; exact h3))
      clear h3 HP HD
      go_wp2
      go_ret2
      exact HF.out
    · go_enter Tryz.func102, Tryz.ntmps102
      go_wp2_with fail
      refine HL.out.mono ?_
      rintro e w1 ⟨rfl, h1⟩
      obtain ⟨d0, d1, HI, _⟩ := HU.out w1 h1
      have HF := Lib.hid (HP.out w1 (by rw [if_neg (by simp)]; exact h1))
      clear h1 HL HU HP
      go_wp2_with fail
      refine HI.out.mono ?_
      rintro e w2 ⟨rfl, rfl⟩
      go_wp2
      go_ret2
      exact HF.out
def RefExpB (B : Nat) (p : RBp) (c : BCfg) (n : Nat) (s : BS) (W : World) (e : Ending) (w' : World) : Prop := e = .returned (.string ⟨(textOf ((s.epoch : Int) + 1) s.fs.2).toArray⟩) ∧ RepTo B p c n { s with epoch := s.epoch + 1 } W w'
set_option maxRecDepth 100000 in
set_option maxHeartbeats 1000000 in
theorem refB_export (h : RepB W B p c n s) (he : s.epoch ≤ 1000000) (hck : checkOf ((s.epoch : Int) + 1) s.fs.2 = none) (hu : ∀ x ∈ s.fs.2, U64 x.key) :
    Calls Tryz.prog 105 #[.pointer (some ⟨p.mb, 0, none⟩)] W (RefExpB B p c n s W) := by
  obtain ⟨_, _, _, _, c4⟩ := h.cells
  have f4 := h.blk.frozen 4
  have hE := h.turnE (s.epoch + 1)
  obtain ⟨W1, hW1⟩ : ∃ W1, W1 = W.setCell ⟨p.mb, 4, none⟩ (.int .i64 ((s.epoch : Int) + 1)) := ⟨_, rfl⟩
  rw [Int.natCast_add, Int.natCast_one, ← hW1] at hE
  obtain ⟨p1, r1, e1, t1, b1⟩ := hE
  obtain ⟨A, cap, hfv, hr, hcap⟩ := r1.f.form
  have hws : IntKind.i64.wrap ((s.epoch : Int) + 1) = (s.epoch : Int) + 1 := IntWalk.i64_in _ (by omega)
  have HC : Hid (∀ w', Below W1.heap.size W1 w' → w'.cell? ⟨p.mb, 4, none⟩ = some (.int .i64 ((s.epoch : Int) + 1)) ∧ w'.cell? ⟨p.mb, 1, none⟩ = some (.pointer (some ⟨p.mf, 0, none⟩)) ∧ w'.cell? ⟨p.mf, 2, none⟩ = some (.slice A s.fs.2.length cap)) := Lib.hid fun w' hb => by
    have r2 := r1.below hb
    obtain ⟨_, d1, _, _, d4⟩ := r2.cells
    have d5 : w'.cell? ⟨p1.mf, 2, none⟩ = some p1.fv := r2.f.blk.cell 2
    rw [hfv] at d5
    rw [e1.1] at d1 d4
    rw [e1.2.2] at d1 d5
    exact ⟨d4, d1, d5⟩
  have HT : Hid (∀ w', Below W1.heap.size W1 w' → Calls Tryz.prog 149 #[.int .i64 ((s.epoch : Int) + 1), .slice A s.fs.2.length cap] w' fun e w2 => e = .returned (.string ⟨(textOf ((s.epoch : Int) + 1) s.fs.2).toArray⟩) ∧ Below w'.heap.size w' w2) := Lib.hid fun w' hb => refText_any _ A cap w'.heap.size s.fs.2 w' ((hr.below hb).more hb.size) (Nat.le_refl _) (checkOf_none hck) hu
  have HF : Hid (∀ w', Below W1.heap.size W1 w' → RefExpB B p c n s W (.returned (.string ⟨(textOf ((s.epoch : Int) + 1) s.fs.2).toArray⟩)) w') := Lib.hid fun w' hb => ⟨rfl, RepTo.link e1 t1 b1 (r1.to_below hb)⟩
  have hRef := Below.refl W1.heap.size W1
  clear h r1 e1 t1 b1 hfv hr hcap hck hu he
  generalize hex : RefExpB B p c n s W = Q at *
  generalize textOf ((s.epoch : Int) + 1) s.fs.2 = tx at *
  generalize s.fs.2.length = ln at *
  generalize s.epoch = ep at *
  subst hex
  go_enter Tryz.func105, Tryz.ntmps105
  go_wp2_with fail
  rw [← hW1]
  clear c4 f4 hW1
  go_region_held3 (fun w' => w'.cell? ⟨p.mb, 4, none⟩ = some (.int .i64 ((ep : Int) + 1)) ∧ w'.cell? ⟨p.mb, 1, none⟩ = some (.pointer (some ⟨p.mf, 0, none⟩)) ∧ w'.cell? ⟨p.mf, 2, none⟩ = some (.slice A ln cap)) (first | exact HC.out _ hb2 | exact HC.out _ (bl_drew hRef) | go_keep) (first
    | (go_at_call 149
       refine (HT.out _ (bl_drew hRef)).mono ?_
       rintro e w2 ⟨rfl, hb2'⟩
       have hb2 := below_two (bl_drew hRef) hb2'))
  all_goals
    have HF2 := Lib.hid (HF.out _ hb2)
    go_wp2
    go_ret
    exact HF2.out
/-- What is drained behind an act. -/
def drainL (dl : List ByteArray) (z : ByteArray) (v : Bool) : List ByteArray := (dl.filter fun y => !decide (y = z)) ++ if v then [z] else []
theorem drainL_mem {dl : List ByteArray} {z x : ByteArray} {v : Bool} {f : ByteArray → Bool} (hd : ∀ x, f x = true ↔ x ∈ dl) : (if x = z then v else f x) = true ↔ x ∈ drainL dl z v := by
  unfold drainL
  rw [List.mem_append, List.mem_filter]
  by_cases hx : x = z
  · subst hx
    rw [if_pos rfl]
    cases v <;> simp
  · rw [if_neg hx, hd x]
    cases v <;> simp [hx]
theorem filter_take_succ {dl : List ByteArray} {i : Nat} (hi : i < dl.length) (q : ByteArray → Bool) : (dl.take (i + 1)).filter q = if q dl[i] = true then (dl.take i).filter q ++ [dl[i]] else (dl.take i).filter q := by
  rw [List.take_succ_eq_append_getElem hi, List.filter_append, List.filter_cons]
  split
  · simp
  · simp
def RefDrainB (B : Nat) (p : RBp) (c : BCfg) (n : Nat) (s' : BS) (W : World) (e : Ending) (w' : World) : Prop := e = .returned (.int .i64 0) ∧ RepTo B p c n s' W w'
set_option maxRecDepth 100000 in
set_option maxHeartbeats 2000000 in
theorem refB_drain (z : ByteArray) (v : Bool) (h : RepB W B p c n s) (hB : B ≤ W.heap.size) (hz : z ∈ hosts s.st) (hn : n ≤ 900) :
    Calls Tryz.prog 103 #[.pointer (some ⟨p.mb, 0, none⟩), .string z, .bool v] W (RefDrainB B p c (n + 1) (drainS s z v) W) := by
  obtain ⟨i0, hi0, hz0, hz1, hz2⟩ := info_parts info_str
  obtain ⟨rs, hR, hM⟩ := h.h
  obtain ⟨dl, d1, d2, d3⟩ := h.d
  obtain ⟨A, cap, hdv, hrd, hcap, _⟩ := own_slice d1
  have HF : Hid (Calls Tryz.prog 146 #[.pointer (some ⟨p.mh, 0, none⟩), .string z] W fun e w' => ∃ k : Nat, e = .returned (.int .i64 (k : Int)) ∧ W = w') := Lib.hid (by
    have := refFind z W hR (by have := hM.le; have := hM.len; omega)
    obtain ⟨k, _, hi, _⟩ := idx_mem hz
    rw [hM.hosts] at hi
    exact this.mono fun e w' ⟨a, b⟩ => ⟨k, by rw [a, hi], b⟩)
  have HC : Hid (∀ w', Below W.heap.size W w' → w'.cell? ⟨p.mb, 3, none⟩ = some (.slice A dl.length cap) ∧ ∀ i (hi : i < dl.length), ∃ ad, A = some ad ∧ w'.cell? (ad.add i) = some (.string dl[i])) := Lib.hid fun w' hb => by
    obtain ⟨_, _, _, c3, _⟩ := (h.below hb).cells
    rw [hdv] at c3
    refine ⟨c3, fun i hi => ?_⟩
    obtain ⟨ad, u, hA, hbl, hu, hc⟩ := ((hrd.below hb).more hb.size).at_ hi
    refine ⟨ad, hA, ?_⟩
    rw [hc, ← hu]
    simp [strV, hi]
  have HFin : Hid (∀ w' A' cap', Below W.heap.size W w' → w'.ownsRow W.heap.size 9 1 (.slice A' (drainL dl z v).length cap') (drainL dl z v).length (strV (drainL dl z v)) → w'.cell? ⟨p.mb, 3, none⟩ = some (.slice A dl.length cap) ∧ w'.frozen? ⟨p.mb, 3, none⟩ = false ∧ RefDrainB B p c (n + 1) (drainS s z v) W (.returned (.int .i64 0)) (w'.setCell ⟨p.mb, 3, none⟩ (.slice A' (drainL dl z v).length cap'))) := Lib.hid fun w' A' cap' hb ho => by
    have h' := h.below hb
    have hlen : (drainL dl z v).length ≤ n + 1 := by
      unfold drainL
      rw [List.length_append]
      have := List.length_filter_le (fun y => !decide (y = z)) dl
      cases v <;> simp <;> omega
    obtain ⟨p1, r1, e1, t1, b1⟩ := h'.turnD (dv' := .slice A' (drainL dl z v).length cap') (dr' := fun y => if y = z then v else s.dr y) (nd' := s.nd + 1) (own_base ho hB) hlen (fun x => drainL_mem d3)
    exact ⟨(HC.out w' hb).1, h'.blk.frozen 3, rfl, p1, r1, e1, (Turn.of_below hb).then t1, fun b hb' => by
      rcases b1 b hb' with h3 | h3
      · exact .inl h3
      · exact .inr (Nat.le_trans hb.size h3)⟩
  have hdl : dl.length ≤ 1000 := by omega
  have c0 := h.cells.1
  have hRef := Below.refl W.heap.size W
  have HLen : Hid (∀ i, i ≤ dl.length → ((dl.take i).filter fun y => !decide (y = z)).length ≤ 1000) := Lib.hid fun i hi => by
    have := List.length_filter_le (fun y => !decide (y = z)) (dl.take i)
    rw [List.length_take] at this
    omega
  clear h hB hR hM d1 d2 d3 hdv hrd hcap hz
  go_enter Tryz.func103, Tryz.ntmps103
  go_wp2_with fail
  refine HF.out.mono ?_
  rintro e w1 ⟨k1, rfl, rfl⟩
  have hk1 : ¬ (k1 : Int) < 0 := by omega
  go_wp2_with fail
  go_loopw [7, 8] (fun lv iv wr => ∃ (i m : Nat) (A' : Option Addr) (cap' : Nat), i ≤ dl.length ∧ lv = .slice A' m cap' ∧ iv = .int .i64 (i : Int) ∧ Hid (((dl.take i).filter fun y => !decide (y = z)).length = m) ∧ Hid (wr.ownsRow W.heap.size 9 1 (.slice A' m cap') m (strV ((dl.take i).filter fun y => !decide (y = z)))) ∧ Hid (Below W.heap.size W wr)) (fun _ iv _ => dl.length + 1 - (intOf iv).toNat)
  case atStart => exact ⟨0, 0, none, 0, Nat.zero_le _, rfl, rfl, Lib.hid rfl, Lib.hid (World.ownsRow_nil _ _ _ _), Lib.hid hRef⟩
  case round =>
    obtain ⟨i, m, A', cap', hile, rfl, rfl, hm, hO, hb⟩ := hrel
    obtain ⟨c3, hcx⟩ := HC.out wr hb.out
    by_cases hil : i < dl.length
    · have hil2 : (i : Int) < dl.length := by omega
      obtain ⟨ad, rfl, cx⟩ := hcx i hil
      have hst := filter_take_succ hil (fun y => !decide (y = z))
      have hmb := HLen.out i hile
      rw [hm.out] at hmb
      by_cases he : dl[i] = z
      · have x1 : (dl[i].toList == z.toList) = true := by rw [str_eq]; simpa using he
        have x2 : (dl[i].toList != z.toList) = false := by rw [bne, x1]; rfl
        rw [if_neg (by simp [he])] at hst
        have HM2 : Hid (((dl.take (i + 1)).filter fun y => !decide (y = z)).length = m) := Lib.hid (by rw [hst]; exact hm.out)
        have HO2 : Hid (wr.ownsRow W.heap.size 9 1 (.slice A' m cap') m (strV ((dl.take (i + 1)).filter fun y => !decide (y = z)))) := Lib.hid (by rw [hst]; exact hO.out)
        clear he hst hO hm hcx
        generalize dl[i] = x at *
        go_wp2_with fail
        go_roundw
        case rel => exact ⟨i + 1, m, A', cap', by omega, rfl, by go_num, HM2, HO2, hb⟩
        case measure => simp [intOf]; omega
      · have x1 : (dl[i].toList == z.toList) = false := by rw [str_eq]; simpa using he
        have x2 : (dl[i].toList != z.toList) = true := by rw [bne, x1]; rfl
        rw [if_pos (by simp [he])] at hst
        have hbA := (Below.refl wr.heap.size wr).alloc (Nat.le_refl _) (.cells #[.string dl[i]] 9)
        have HRW : Hid ((wr.alloc (.cells #[.string dl[i]] 9)).ownsRow W.heap.size 9 1 (.slice A' m cap') m (strV ((dl.take i).filter fun y => !decide (y = z)))) := Lib.hid (own_below hO.out hbA)
        have HNW : Hid (Reads (wr.alloc (.cells #[.string dl[i]] 9)) (wr.alloc (.cells #[.string dl[i]] 9)).heap.size 1 (some ⟨wr.heap.size, 0, none⟩) 1 [.string dl[i]]) := Lib.hid (blk_reads (Blk.new wr 9 [Value.string dl[i]].toArray))
        have HSZ : Hid (W.heap.size ≤ (wr.alloc (.cells #[.string dl[i]] 9)).heap.size) := Lib.hid (Nat.le_trans hb.out.size hbA.size)
        have HAP : Hid (∀ v' W', W'.ownsRow W.heap.size 9 1 v' (m + 1) (strV ((dl.take i).filter fun y => !decide (y = z)) ++ [.string dl[i]]) → (wr.alloc (.cells #[.string dl[i]] 9)).grownBy W' (Value.slice A' m cap').ownBlock → ∃ A2 cap2, v' = .slice A2 (m + 1) cap2 ∧ Hid (((dl.take (i + 1)).filter fun y => !decide (y = z)).length = m + 1) ∧ Hid (W'.ownsRow W.heap.size 9 1 (.slice A2 (m + 1) cap2) (m + 1) (strV ((dl.take (i + 1)).filter fun y => !decide (y = z)))) ∧ Hid (Below W.heap.size W W')) := Lib.hid fun v' W' h1 h2 => by
          obtain ⟨A2, cap2, rfl, _⟩ := own_slice h1
          refine ⟨A2, cap2, rfl, Lib.hid (by rw [hst]; simp [hm.out]), Lib.hid ?_, Lib.hid (below_app (below_two hb.out hbA) HRW.out h2)⟩
          rw [hst]
          simpa [strV] using h1
        clear he hst hO hm hcx hbA hb
        generalize dl[i] = x at *
        generalize strV ((dl.take i).filter fun y => !decide (y = z)) = xs at *
        go_wp2_with (first
          | (at_builtin
             go_must (refine wpList_append_any _ rfl (.tmp 34) (.tmp 42) _ rfl W.heap.size 9 i0 _ 1 16 Tryz.underlying24 hi0 hz0 hz1 hz2 rfl (by omega) (.slice A' m cap') m xs rfl HRW.out _ (some ⟨wr.heap.size, 0, none⟩) 1 1 [.string x] rfl HNW.out (by simp [Value.oneCell']) (by simp only [maxLen]; omega) (by omega) HSZ.out ?_)
             intro v1 w5 hown1 hg1 _
             obtain ⟨A2, cap2, hv2, HM2, HO2, HB2⟩ := HAP.out _ _ hown1 hg1
             subst hv2
             clear hown1 hg1))
        go_roundw
        case rel => exact ⟨i + 1, m + 1, A2, cap2, by omega, rfl, by go_num, HM2, HO2, HB2⟩
        case measure => simp [intOf]; omega
    · obtain rfl : i = dl.length := by omega
      have hge : ¬ (dl.length : Int) < dl.length := by omega
      have hmb := HLen.out _ hile
      rw [hm.out] at hmb
      have hm2 := hm.out
      have hO2 := hO.out
      rw [List.take_length] at hm2 hO2
      cases v with
      | false =>
        have e : drainL dl z false = dl.filter fun y => !decide (y = z) := by unfold drainL; simp
        rw [e, hm2] at HFin
        have hfz := HFin.out wr A' cap' hb.out hO2
        obtain ⟨_, f3, hQ⟩ := hfz
        have HQ := Lib.hid hQ
        clear hQ hm hO hb hcx hO2 HFin e
        go_wp2_with fail
        go_ret
        exact HQ.out
      | true =>
        have e : drainL dl z true = (dl.filter fun y => !decide (y = z)) ++ [z] := by unfold drainL; simp
        have hbA := (Below.refl wr.heap.size wr).alloc (Nat.le_refl _) (.cells #[.string z] 9)
        have HRW : Hid ((wr.alloc (.cells #[.string z] 9)).ownsRow W.heap.size 9 1 (.slice A' m cap') m (strV (dl.filter fun y => !decide (y = z)))) := Lib.hid (own_below hO2 hbA)
        have HNW : Hid (Reads (wr.alloc (.cells #[.string z] 9)) (wr.alloc (.cells #[.string z] 9)).heap.size 1 (some ⟨wr.heap.size, 0, none⟩) 1 [.string z]) := Lib.hid (blk_reads (Blk.new wr 9 [Value.string z].toArray))
        have HSZ : Hid (W.heap.size ≤ (wr.alloc (.cells #[.string z] 9)).heap.size) := Lib.hid (Nat.le_trans hb.out.size hbA.size)
        have el : (drainL dl z true).length = m + 1 := by rw [e]; simp [hm2]
        rw [el] at HFin
        have HAP : Hid (∀ v' W', W'.ownsRow W.heap.size 9 1 v' (m + 1) (strV (dl.filter fun y => !decide (y = z)) ++ [.string z]) → (wr.alloc (.cells #[.string z] 9)).grownBy W' (Value.slice A' m cap').ownBlock → ∃ A2 cap2, v' = .slice A2 (m + 1) cap2 ∧ W'.cell? ⟨p.mb, 3, none⟩ = some (.slice A dl.length cap) ∧ W'.frozen? ⟨p.mb, 3, none⟩ = false ∧ Hid (RefDrainB B p c (n + 1) (drainS s z true) W (.returned (.int .i64 0)) (W'.setCell ⟨p.mb, 3, none⟩ (.slice A2 (m + 1) cap2)))) := Lib.hid fun v' W' h1 h2 => by
          obtain ⟨A2, cap2, rfl, _⟩ := own_slice h1
          obtain ⟨q1, q2, q3⟩ := HFin.out W' A2 cap2 (below_app (below_two hb.out hbA) HRW.out h2) (by rw [e]; simpa [strV] using h1)
          exact ⟨A2, cap2, rfl, q1, q2, Lib.hid q3⟩
        clear hm hO hb hcx hO2 HFin e el hbA
        generalize strV (dl.filter fun y => !decide (y = z)) = xs at *
        go_wp2_with (first
          | (at_builtin
             go_must (refine wpList_append_any _ rfl (.tmp 45) (.tmp 47) _ rfl W.heap.size 9 i0 _ 1 16 Tryz.underlying24 hi0 hz0 hz1 hz2 rfl (by omega) (.slice A' m cap') m xs rfl HRW.out _ (some ⟨wr.heap.size, 0, none⟩) 1 1 [.string z] rfl HNW.out (by simp [Value.oneCell']) (by simp only [maxLen]; omega) (by omega) HSZ.out ?_)
             intro v1 w5 hown1 hg1 _
             obtain ⟨A2, cap2, hv2, c3b, f3b, HQ⟩ := HAP.out _ _ hown1 hg1
             subst hv2
             clear hown1 hg1))
        go_ret
        exact HQ.out
end
end Go.Proofs.YteilefpjfbholaaGreatDoor

namespace Go.Proofs.YteilefpjfbholaaGreatDoor
open Go.RowKit

set_option maxRecDepth 100000 in
set_option maxHeartbeats 8000000 in
/-- Flows are added from a row that lies behind. -/
theorem ref_add_okR {B Bx mp time last : Nat} {L xs : List Fl} {sv : Value} {A : Option Addr} {cap : Nat} (now : Nat) (w : World) (h : RFs w B mp time last L sv) (hB : B ≤ w.heap.size) (hx : Reads w Bx 3 A xs.length (flsC xs)) (hBx : Bx ≤ w.heap.size) (hxr : ∀ W, Turn [mp] w W → Reads W Bx 3 A xs.length (flsC xs)) (hxl : xs.length ≤ 1000) (hs : ∀ x ∈ xs, x.host.size ≤ maxLen) (htl : ∀ x ∈ xs, -9223372036854775808 ≤ x.til ∧ x.til ≤ 9223372036854775807) (h1 : last ≤ now) (h2 : now ≤ 1099511627776) (hbad : ∀ x ∈ xs, isName x.host = true) :
    Calls Tryz.prog 148 #[.pointer (some ⟨mp, 0, none⟩), .slice A xs.length cap, .int .i64 (now : Int)] w (RefAdded B mp time now L xs w) := by
  have hb0 : Below w.heap.size w (w.alloc (.cells #[.int .i64 0, .int .i64 0] 87)) := (Below.refl _ _).alloc (Nat.le_refl _) _
  have hF0 := h.below hb0
  have HT := Lib.hid (ref_tick (now : Int) _ hF0)
  have ht0 : tickE last (now : Int) = 0 := by unfold tickE; rw [if_neg (by omega), if_neg (by omega)]
  rw [ht0] at HT
  have hB0 := Blk.new w 87 #[.int .i64 0, .int .i64 0]
  have hmp := h.blk.lt
  have HBR := Lib.hid (fun W (hW : Turn [mp] (w.alloc (.cells #[.int .i64 0, .int .i64 0] 87)) W) => hW.blk hB0 (by simp; omega))
  have HTW := Lib.hid (fun W (hW : Turn [mp] (w.alloc (.cells #[.int .i64 0, .int .i64 0] 87)) W) => ((Turn.of_below hb0).then hW : Turn [mp] w W))
  have c1 : (w.alloc (.cells #[.int .i64 0, .int .i64 0] 87)).cell? ⟨mp, 1, none⟩ = some (.int .i64 (last : Int)) := hF0.blk.cell 1
  have f1 := hF0.blk.frozen 1
  have HTK := Lib.hid (hF0.tick now)
  have HXR := Lib.hid hxr
  have HX := Lib.hid (hx.below (hb0.mono hBx))
  have HS := Lib.hid hs
  have HTL := Lib.hid htl
  have HNM := Lib.hid hbad
  have HSZ : Hid (∀ W, Turn [mp] w W → B ≤ W.heap.size) := Lib.hid fun W hW => Nat.le_trans hB hW.size
  have hL := h.len
  clear h ht0 hb0 hB0 hx hxr hs htl hbad hF0 hB
  go_enter Tryz.func148, Tryz.ntmps148
  go_wp2_with fail
  generalize hW0 : w.alloc (.cells #[.int .i64 0, .int .i64 0] 87) = W0 at *
  refine HT.out.mono ?_
  rintro e w1 ⟨rfl, rfl⟩
  clear hW0 HT
  go_wp2_with fail
  go_loop [9, 10] (fun iv bv => ∃ i : Nat, i ≤ xs.length ∧ iv = .int .i64 (i : Int)) (fun iv _ => xs.length + 1 - (intOf iv).toNat)
  case atStart => exact ⟨0, Nat.zero_le _, rfl⟩
  case round =>
    obtain ⟨i, hi, rfl⟩ := hrel
    by_cases hil : i < xs.length
    · have hil2 : (i : Int) < xs.length := by omega
      obtain ⟨ad, rfl, a0, a1, a2⟩ := cellsA HX.out hil
      clear a0 a2
      have HN := Lib.hid (ref_name xs[i].host _ W0 (HS.out xs[i] (List.getElem_mem _)) (HNM.out xs[i] (List.getElem_mem _)))
      generalize xs[i].host = hh at *
      go_wp2_with fail
      refine HN.out.mono ?_
      rintro e w2 ⟨rfl, rfl⟩
      go_wp2
      go_round
      case rel => exact ⟨i + 1, by omega, by go_num⟩
      case measure => simp [intOf]; omega
    · obtain rfl : i = xs.length := by omega
      have hge : ¬ (xs.length : Int) < xs.length := by omega
      clear HX HNM HS
      go_wp2_with fail
      obtain ⟨hF2, hT2⟩ := HTK.out
      have HF2 := Lib.hid hF2
      have HT2 := Lib.hid hT2
      clear hF2 hT2 HTK c1 f1
      generalize W0.setCell ⟨mp, 1, none⟩ (.int .i64 (now : Int)) = W1 at *
      go_loopw [11, 12] (fun nv iv wi => ∃ (i n : Nat) (sv' : Value), i ≤ xs.length ∧ nv = .int .i64 (n : Int) ∧ iv = .int .i64 (i : Int) ∧ Hid (n + L.length = (addF now L (xs.take i)).length) ∧ Hid (RFs wi B mp time now (addF now L (xs.take i)) sv') ∧ Hid (Turn [mp] W0 wi)) (fun _ iv _ => xs.length + 1 - (intOf iv).toNat)
      case atStart => exact ⟨0, 0, sv, Nat.zero_le _, rfl, rfl, Lib.hid (by simp [addF]), Lib.hid HF2.out, HT2⟩
      case round =>
        obtain ⟨i, n, sv', hi, rfl, rfl, hn, hF, hT⟩ := hrel
        have hnl : n ≤ 200 := by have := hn.out; have := hF.out.len; omega
        by_cases hil : i < xs.length
        · have hil2 : (i : Int) < xs.length := by omega
          have HTi := Lib.hid (HTW.out _ hT.out)
          obtain ⟨ad, rfl, a0, a1, a2⟩ := cellsA (HXR.out _ HTi.out) hil
          have HFD := Lib.hid (ref_find xs[i].key _ hF.out)
          obtain ⟨hb1, hb2⟩ := HTL.out _ (List.getElem_mem hil)
          have HSTEP := Lib.hid (addF_take (now := (now : Int)) (L := L) i hil)
          have hway := add_way (now := now) (L1 := addF now L (xs.take i)) (x := xs[i])
          obtain ⟨A1, cap1, hsv, _, _⟩ := hF.out.form
          subst hsv
          have c2 : wr.cell? ⟨mp, 2, none⟩ = some (.slice A1 (addF now L (xs.take i)).length cap1) := hF.out.blk.cell 2
          have HLAY : Hid (¬ 200 ≤ (addF now L (xs.take i)).length → findF (addF now L (xs.take i)) xs[i].key = none → Calls Tryz.prog 187 #[.pointer (some ⟨mp, 0, none⟩), flV xs[i]] wr (RefDrop B mp time now (insF xs[i] (addF now L (xs.take i))) wr)) := Lib.hid fun h3 h4 => ref_lay xs[i] _ hF.out (HSZ.out _ HTi.out) (by omega) (findF_none h4)
          have HKEEP : Hid (add1 now (addF now L (xs.take i)) xs[i] = addF now L (xs.take i) → Hid (n + L.length = (addF now L (xs.take (i + 1))).length) ∧ Hid (RFs wr B mp time now (addF now L (xs.take (i + 1))) (.slice A1 (addF now L (xs.take i)).length cap1))) := Lib.hid fun h3 => by
            rw [HSTEP.out, h3]
            exact ⟨hn, hF⟩
          unfold flV at HLAY
          have HPUT : Hid (add1 now (addF now L (xs.take i)) xs[i] = insF xs[i] (addF now L (xs.take i)) → ∀ W sv2, RFs W B mp time now (insF xs[i] (addF now L (xs.take i))) sv2 → Turn [mp] wr W → Hid (n + 1 + L.length = (addF now L (xs.take (i + 1))).length) ∧ Hid (RFs W B mp time now (addF now L (xs.take (i + 1))) sv2) ∧ Hid (Turn [mp] W0 W)) := Lib.hid fun h3 W sv2 h4 h5 => by
            rw [HSTEP.out, h3]
            exact ⟨Lib.hid (by rw [insF_length]; have := hn.out; omega), Lib.hid h4, Lib.hid (hT.out.then h5)⟩
          clear HSTEP hF hn HF2 HT2
          generalize addF now L (xs.take i) = L1 at *
          generalize xs[i] = x at *
          generalize posF L1 x.key = pk at *
          rcases hway with ⟨⟨j, rfl⟩, hk⟩ | ⟨rfl, d1, hk⟩ | ⟨rfl, d1, d2, hk⟩ | ⟨rfl, d1, d2, d3, hk⟩ | ⟨rfl, d1, d2, d3, d4, hk⟩
          · obtain ⟨k1, k2⟩ := HKEEP.out hk
            clear HKEEP HPUT HLAY hk HTL
            have q1 : decide ((j : Int) ≥ 0) = true := by simp
            go_wp2_with fail
            refine HFD.out.mono ?_
            rintro e w3 ⟨rfl, rfl⟩
            go_wp2
            go_roundw
            case rel => exact ⟨i + 1, n, _, by omega, rfl, by go_num, k1, k2, hT⟩
            case measure => simp [intOf]; omega
          · obtain ⟨k1, k2⟩ := HKEEP.out hk
            clear HKEEP HPUT HLAY hk HTL
            go_wp2_with fail
            refine HFD.out.mono ?_
            rintro e w3 ⟨rfl, rfl⟩
            go_wp2
            go_roundw
            case rel => exact ⟨i + 1, n, _, by omega, rfl, by go_num, k1, k2, hT⟩
            case measure => simp [intOf]; omega
          · obtain ⟨k1, k2⟩ := HKEEP.out hk
            have hwr : IntKind.i64.wrap (x.til - (now : Int)) = x.til - now := IntWalk.i64_in _ (by simp at d1; omega)
            clear HKEEP HPUT HLAY hk HTL
            go_wp2_with fail
            refine HFD.out.mono ?_
            rintro e w3 ⟨rfl, rfl⟩
            go_wp2
            go_roundw
            case rel => exact ⟨i + 1, n, _, by omega, rfl, by go_num, k1, k2, hT⟩
            case measure => simp [intOf]; omega
          · obtain ⟨k1, k2⟩ := HKEEP.out hk
            have hwr : IntKind.i64.wrap (x.til - (now : Int)) = x.til - now := IntWalk.i64_in _ (by simp at d1; omega)
            clear HKEEP HPUT HLAY hk HTL
            go_wp2_with fail
            refine HFD.out.mono ?_
            rintro e w3 ⟨rfl, rfl⟩
            go_wp2
            go_roundw
            case rel => exact ⟨i + 1, n, _, by omega, rfl, by go_num, k1, k2, hT⟩
            case measure => simp [intOf]; omega
          · have hwr : IntKind.i64.wrap (x.til - (now : Int)) = x.til - now := IntWalk.i64_in _ (by simp at d1; omega)
            have HL2 := Lib.hid (HLAY.out d3 d4)
            have HP2 := Lib.hid (HPUT.out hk)
            clear HKEEP HPUT HLAY hk HTL d4
            go_wp2_with fail
            refine HFD.out.mono ?_
            rintro e w3 ⟨rfl, rfl⟩
            go_wp2_with fail
            refine HL2.out.mono ?_
            rintro e w4 ⟨rfl, sv2, hF4, hT4⟩
            obtain ⟨k1, k2, k3⟩ := HP2.out w4 sv2 hF4 hT4
            clear hF4 hT4
            go_wp2
            go_roundw
            case rel => exact ⟨i + 1, n + 1, _, by omega, by go_num, by go_num, k1, k2, k3⟩
            case measure => simp [intOf]; omega
        · obtain rfl : i = xs.length := by omega
          have hge2 : ¬ (xs.length : Int) < xs.length := by omega
          rw [List.take_length] at hn hF
          have HEND : Hid (∀ W2, Below wr.heap.size wr W2 → Blk W2 w.heap.size 87 #[.int .i64 0, .int .i64 0] ∧ RefAdded B mp time now L xs w (.returned (.tuple #[.int .i64 (n : Int), .agg #[.int .i64 0, .int .i64 (-1)]])) ((W2.setCell ⟨w.heap.size, 0, none⟩ (.int .i64 0)).setCell ⟨w.heap.size, 1, none⟩ (.int .i64 (-1)))) := Lib.hid fun W2 hb => by
            have hT2 := hT.out.thenB hb
            have hF2 := hF.out.below hb
            have hB2 := HBR.out _ hT2
            have e : n = (addF now L xs).length - L.length := by have := hn.out; omega
            have hTs : Turn [w.heap.size] W2 ((W2.setCell ⟨w.heap.size, 0, none⟩ (.int .i64 0)).setCell ⟨w.heap.size, 1, none⟩ (.int .i64 (-1))) := ((Turn.refl [w.heap.size] W2).setCell (p := ⟨w.heap.size, 0, none⟩) (.inl (by simp)) _).setCell (p := ⟨w.heap.size, 1, none⟩) (.inl (by simp)) _
            refine ⟨hB2, by rw [e], sv', hF2.turn hTs (by simp; omega) (fun g hg => by rw [List.mem_singleton] at hg; subst hg; exact notRow_blk hB2 (by decide)), ?_⟩
            exact (HTW.out _ hT2).trans hTs fun c hc => .inr (by rw [List.mem_singleton] at hc; omega)
          clear hn hF HF2 HT2
          go_wp2_with fail
          refine (fine_any wr).mono ?_
          rintro e w3 ⟨rfl, hb3⟩
          obtain ⟨hB3, hP3⟩ := HEND.out _ hb3
          have HP3 := Lib.hid hP3
          have r0 : w3.cell? ⟨w.heap.size, 0, none⟩ = some (.int .i64 0) := hB3.cell 0
          have r1 : w3.cell? ⟨w.heap.size, 1, none⟩ = some (.int .i64 0) := hB3.cell 1
          have f0 := hB3.frozen 0
          have f1 := hB3.frozen 1
          have HBf := Lib.hid ((hB3.set_ 0 (.int .i64 0)).set_ 1 (.int .i64 (-1)))
          clear hB3 hP3 hb3
          go_wp2
          refine bodyPost_ret (results_tmp_cell (P := Tryz.prog) rfl _ _ w.heap.size _ _ (0, 0) _ rfl HBf.out Tryz.underlying87 rfl (by kernel_rfl)) rfl ?_
          exact HP3.out
section
variable {W : World} {B n : Nat} {p : RBp} {c : BCfg} {s : BS}
theorem filterF_take_succ {L : List Fl} {i : Nat} (hi : i < L.length) (q : Fl → Bool) : (L.take (i + 1)).filter q = if q L[i] = true then (L.take i).filter q ++ [L[i]] else (L.take i).filter q := by
  rw [List.take_succ_eq_append_getElem hi, List.filter_append, List.filter_cons]
  split
  · simp
  · simp
theorem flC_reads (w : World) (x : Fl) : Reads (w.alloc (.cells #[.int .u64 (x.key : Int), .string x.host, .int .i64 x.til] 43)) (w.alloc (.cells #[.int .u64 (x.key : Int), .string x.host, .int .i64 x.til] 43)).heap.size 3 (some ⟨w.heap.size, 0, none⟩) 1 (flC x) :=
  ⟨rfl, fun _ => ⟨_, rfl, by simp, fl_cell1 w x⟩⟩
theorem Turn.ownReads {bs : List Nat} {w w' : World} {b size n cap : Nat} {e : TypeId} {A : Option Addr} {xs : List Value} (ht : Turn bs w w') (ho : w.ownsRow b e size (.slice A n cap) n xs) (hg : ∀ g, (Value.slice A n cap).ownBlock = some g → g ∉ bs) : Reads w' w.heap.size size A n xs := by
  refine ⟨ho.1, fun hn => ?_⟩
  obtain ⟨g, cap', hv, _, hlt⟩ := ho.form hn
  have hA : A = some ⟨g, 0, none⟩ := by injection hv
  subst hA
  exact ⟨_, rfl, hlt, (ht.own ho hg).cells (g := g) rfl⟩
/-- All but the epoch is behind Add. -/
def RefAddB (B : Nat) (p : RBp) (c : BCfg) (n : Nat) (s' : BS) (W wr : World) (e : Ending) (w' : World) : Prop :=
  ∃ k : Nat, e = .returned (.tuple #[.int .i64 (k : Int), .agg #[.int .i64 0, .int .i64 (-1)]]) ∧ RepTo B p c n s' W w' ∧ (∀ g t cs, Blk wr g t cs → W.heap.size ≤ g → Blk w' g t cs) ∧ wr.heap.size ≤ w'.heap.size
theorem refAddB (now m : Nat) (F : List Fl) (A : Option Addr) (cap : Nat) (wr : World) (h : RepB W B p c n s) (hB : B ≤ W.heap.size) (hb : Below W.heap.size W wr) (hm : F.length = m) (hm2 : F.length ≤ 1000) (ho : wr.ownsRow B 43 3 (.slice A m cap) m (flsC F)) (hF : ∀ x ∈ F, FlOk x ∧ x.host.size ≤ maxLen) (h1 : s.fs.1 ≤ now) (h2 : now ≤ 1000000) :
    Calls Tryz.prog 148 #[.pointer (some ⟨p.mf, 0, none⟩), .slice A m cap, .int .i64 (now : Int)] wr (RefAddB B p c n { s with fs := (now, addF now s.fs.2 F) } W wr) := by
  subst hm
  have h' := h.below hb
  have hne : ∀ g, (Value.slice A F.length cap).ownBlock = some g → g ∉ [p.mf] := fun g hg hm => by
    obtain ⟨cs, hC⟩ := own_isBlk ho hg
    exact hC.ne_ h'.f.blk (by decide) (List.mem_singleton.1 hm)
  have hR := ref_add_okR (B := B) (Bx := wr.heap.size) (cap := cap) now wr h'.f (Nat.le_trans hB hb.size) (Reads.of_own ho) (Nat.le_refl _) (fun W' hW => hW.ownReads ho hne) hm2 (fun x hx => (hF x hx).2) (fun x hx => by have := (hF x hx).1.2; omega) h1 (by omega) (fun x hx => (hF x hx).1.1)
  refine hR.mono fun e w' ⟨a, sv', hf, ht⟩ => ⟨_, a, RepTo.link (s' := { s with fs := (now, addF now s.fs.2 F) }) (p1 := p) ⟨rfl, rfl, rfl⟩ (Turn.of_below hb) (fun b hb' => .inl hb') (h'.turnF (fs' := (now, addF now s.fs.2 F)) hf ht), fun g t cs hC hg => ht.blk hC fun hm => ?_, ht.size⟩
  have h3 := (h.f.blk.lt)
  rw [List.mem_singleton] at hm
  omega
/-- What lies there when Import goes on behind CarryOf. -/
structure ImpIn (W W0 : World) (p : RBp) (s : BS) : Prop where
  cs : ∀ w2, Below W0.heap.size W0 w2 → w2.cell? ⟨p.mb, 0, none⟩ = some (.pointer (some ⟨p.mh, 0, none⟩)) ∧ w2.cell? ⟨p.mb, 1, none⟩ = some (.pointer (some ⟨p.mf, 0, none⟩)) ∧ w2.cell? ⟨p.mb, 4, none⟩ = some (.int .i64 (s.epoch : Int))
  up : ∀ w2 x, Below W0.heap.size W0 w2 → Calls Tryz.prog 144 #[.pointer (some ⟨p.mh, 0, none⟩), .string x] w2 fun e w' => e = .returned (.bool (upOf s.st x)) ∧ w2 = w'
  b0 : ∀ w2, Below W0.heap.size W0 w2 → Blk w2 W.heap.size 87 #[.int .i64 0, .int .i64 0]
  lt : W.heap.size < W0.heap.size
  bl : ∀ w2, Below W0.heap.size W0 w2 → Below W.heap.size W w2
theorem impIn_of (h : RepB W B p c n s) : ImpIn W (W.alloc (.cells #[.int .i64 0, .int .i64 0] 87)) p s := by
  have hb0 : Below W.heap.size W (W.alloc (.cells #[.int .i64 0, .int .i64 0] 87)) := (Below.refl _ _).alloc (Nat.le_refl _) _
  have hB0 := Blk.new W 87 #[.int .i64 0, .int .i64 0]
  have bl : ∀ w2, Below (W.alloc (.cells #[.int .i64 0, .int .i64 0] 87)).heap.size (W.alloc (.cells #[.int .i64 0, .int .i64 0] 87)) w2 → Below W.heap.size W w2 := fun w2 hb => below_two hb0 hb
  refine ⟨fun w2 hb => ?_, fun w2 x hb => (h.below (bl w2 hb)).isUp x, fun w2 hb => hB0.below hb hB0.lt, hB0.lt, bl⟩
  obtain ⟨a, b, _, _, d⟩ := (h.below (bl w2 hb)).cells
  exact ⟨a, b, d⟩
def RefImpB (B : Nat) (p : RBp) (c : BCfg) (n : Nat) (s' : BS) (W : World) (e : Ending) (w' : World) : Prop :=
  ∃ k : Nat, e = .returned (.tuple #[.int .i64 (k : Int), .agg #[.int .i64 0, .int .i64 (-1)]]) ∧ RepTo B p c n s' W w'
def RefImpOld (B : Nat) (p : RBp) (c : BCfg) (n : Nat) (s' : BS) (W : World) (e : Ending) (w' : World) : Prop :=
  e = .returned (.tuple #[.int .i64 0, .agg #[.int .i64 8, .int .i64 (-1)]]) ∧ RepTo B p c n s' W w'
/-- A fault's block is none of a balance's. -/
theorem RepB.fault {w w' : World} {g : Nat} {cs : Array Value} (h : RepB w B p c n s) (hG : Blk w g 87 cs) (ht : Turn [g] w w') : RepB w' B p c n s := by
  obtain ⟨rs, h1, h2⟩ := h.h
  obtain ⟨dl, d1, d2, d3⟩ := h.d
  have hm : ∀ b, b ∈ [g] → b = g := fun b hb => List.mem_singleton.1 hb
  refine ⟨ht.blk h.blk fun hb => h.blk.ne_ hG (by decide) (hm _ hb), ⟨rs, h1.turn ht fun b hb hb2 => h1.notIn hG (by decide) (by decide) (by decide) (hm _ hb2 ▸ hb), h2⟩, h.f.away ht (fun hb => h.f.blk.ne_ hG (by decide) (hm _ hb)) fun g' hg hb => ?_, ⟨dl, ht.own d1 fun g' hg hb => ?_, d2, d3⟩, h.b⟩
  · obtain ⟨cs', hB⟩ := own_isBlk h.f.row hg
    exact hB.ne_ hG (by decide) (hm _ hb)
  · obtain ⟨cs', hB⟩ := own_isBlk d1 hg
    exact hB.ne_ hG (by decide) (hm _ hb)
theorem RepTo.fault {w w' : World} {g : Nat} {cs : Array Value} (h : RepTo B p c n s W w) (hG : Blk w g 87 cs) (hg : W.heap.size ≤ g) (ht : Turn [g] w w') : RepTo B p c n s W w' := by
  obtain ⟨p1, r1, e1, t1, b1⟩ := h
  exact ⟨p1, r1.fault hG ht, e1, t1.trans ht (fun c hc => .inr (by rw [List.mem_singleton] at hc; omega)), b1⟩
abbrev imp6 (w5 : World) (g : Nat) : World := (w5.setCell ⟨g, 0, none⟩ (.int .i64 0)).setCell ⟨g, 1, none⟩ (.int .i64 (-1))
/-- What Import's end reads and leaves. -/
def ImpEnd (W w5 : World) (p : RBp) (g ep0 ep : Nat) (Q : Ending → World → Prop) (k : Nat) : Prop :=
  w5.cell? ⟨g, 0, none⟩ = some (.int .i64 0) ∧ w5.cell? ⟨g, 1, none⟩ = some (.int .i64 (-1)) ∧ w5.frozen? ⟨g, 0, none⟩ = false ∧ w5.frozen? ⟨g, 1, none⟩ = false ∧
  ((w5.setCell ⟨g, 0, none⟩ (.int .i64 0)).setCell ⟨g, 1, none⟩ (.int .i64 (-1))).cell? ⟨g, 0, none⟩ = some (.int .i64 0) ∧
  ((w5.setCell ⟨g, 0, none⟩ (.int .i64 0)).setCell ⟨g, 1, none⟩ (.int .i64 (-1))).cell? ⟨p.mb, 4, none⟩ = some (.int .i64 (ep0 : Int)) ∧
  ((w5.setCell ⟨g, 0, none⟩ (.int .i64 0)).setCell ⟨g, 1, none⟩ (.int .i64 (-1))).frozen? ⟨p.mb, 4, none⟩ = false ∧
  (((w5.setCell ⟨g, 0, none⟩ (.int .i64 0)).setCell ⟨g, 1, none⟩ (.int .i64 (-1))).setCell ⟨p.mb, 4, none⟩ (.int .i64 (ep : Int))).cell? ⟨g, 0, none⟩ = some (.int .i64 0) ∧
  (((w5.setCell ⟨g, 0, none⟩ (.int .i64 0)).setCell ⟨g, 1, none⟩ (.int .i64 (-1))).setCell ⟨p.mb, 4, none⟩ (.int .i64 (ep : Int))).cell? ⟨g, 1, none⟩ = some (.int .i64 (-1)) ∧
  (((w5.setCell ⟨g, 0, none⟩ (.int .i64 0)).setCell ⟨g, 1, none⟩ (.int .i64 (-1))).setCell ⟨p.mb, 4, none⟩ (.int .i64 (ep : Int))).cell? ⟨W.heap.size, 0, none⟩ = some (.int .i64 0) ∧
  (((w5.setCell ⟨g, 0, none⟩ (.int .i64 0)).setCell ⟨g, 1, none⟩ (.int .i64 (-1))).setCell ⟨p.mb, 4, none⟩ (.int .i64 (ep : Int))).cell? ⟨W.heap.size, 1, none⟩ = some (.int .i64 0) ∧
  (((w5.setCell ⟨g, 0, none⟩ (.int .i64 0)).setCell ⟨g, 1, none⟩ (.int .i64 (-1))).setCell ⟨p.mb, 4, none⟩ (.int .i64 (ep : Int))).frozen? ⟨W.heap.size, 0, none⟩ = false ∧
  (((w5.setCell ⟨g, 0, none⟩ (.int .i64 0)).setCell ⟨g, 1, none⟩ (.int .i64 (-1))).setCell ⟨p.mb, 4, none⟩ (.int .i64 (ep : Int))).frozen? ⟨W.heap.size, 1, none⟩ = false ∧
  (Blk ((((imp6 w5 g).setCell ⟨p.mb, 4, none⟩ (.int .i64 (ep : Int))).drew.setCell ⟨W.heap.size, 0, none⟩ (.int .i64 0)).setCell ⟨W.heap.size, 1, none⟩ (.int .i64 (-1))) W.heap.size 87 #[.int .i64 0, .int .i64 (-1)]) ∧
  Q (.returned (.tuple #[.int .i64 (k : Int), .agg #[.int .i64 0, .int .i64 (-1)]])) ((((imp6 w5 g).setCell ⟨p.mb, 4, none⟩ (.int .i64 (ep : Int))).drew.setCell ⟨W.heap.size, 0, none⟩ (.int .i64 0)).setCell ⟨W.heap.size, 1, none⟩ (.int .i64 (-1)))
theorem impEnd_of {s1 : BS} {w5 : World} {g ep k : Nat} (h : RepTo B p c n s1 W w5) (b0 : Blk w5 W.heap.size 87 #[.int .i64 0, .int .i64 0]) (b1 : Blk w5 g 87 #[.int .i64 0, .int .i64 (-1)]) (hg : W.heap.size < g) : ImpEnd W w5 p g s1.epoch ep (RefImpB B p c n { s1 with epoch := ep } W) k := by
  have ht6 : Turn [g] w5 (imp6 w5 g) := ((Turn.refl [g] w5).setCell (p := ⟨g, 0, none⟩) (.inl (by simp)) _).setCell (p := ⟨g, 1, none⟩) (.inl (by simp)) _
  have h6 := h.fault b1 (Nat.le_of_lt hg) ht6
  have b16 : Blk (imp6 w5 g) g 87 #[.int .i64 0, .int .i64 (-1)] := (b1.set_ 0 (.int .i64 0)).set_ 1 (.int .i64 (-1))
  have b06 : Blk (imp6 w5 g) W.heap.size 87 #[.int .i64 0, .int .i64 0] := ht6.blk b0 (by rw [List.mem_singleton]; omega)
  obtain ⟨p1, r1, e1, t1, bb⟩ := h6
  have hE := r1.turnE ep
  have c4 : (imp6 w5 g).cell? ⟨p1.mb, 4, none⟩ = some (.int .i64 (s1.epoch : Int)) := r1.cells.2.2.2.2
  have f4 : (imp6 w5 g).frozen? ⟨p1.mb, 4, none⟩ = false := r1.blk.frozen 4
  have n0 := b06.ne_ r1.blk (by decide)
  have n1 := b16.ne_ r1.blk (by decide)
  have ht7 : Turn [p1.mb] (imp6 w5 g) ((imp6 w5 g).setCell ⟨p1.mb, 4, none⟩ (.int .i64 (ep : Int))) := (Turn.refl [p1.mb] _).setCell (p := ⟨p1.mb, 4, none⟩) (.inl (by simp)) _
  have b07 := ht7.blk b06 (by rw [List.mem_singleton]; exact n0)
  have b17 := ht7.blk b16 (by rw [List.mem_singleton]; exact n1)
  have hE2 := RepTo.link e1 t1 bb hE
  rw [e1.1] at c4 f4 hE2 b07 b17
  have b07d : Blk ((imp6 w5 g).setCell ⟨p.mb, 4, none⟩ (.int .i64 (ep : Int))).drew W.heap.size 87 #[.int .i64 0, .int .i64 0] := b07
  refine ⟨b1.cell 0, b1.cell 1, b1.frozen 0, b1.frozen 1, b16.cell 0, c4, f4, b17.cell 0, b17.cell 1, b07.cell 0, b07.cell 1, b07.frozen 0, b07.frozen 1, (b07d.set_ 0 (.int .i64 0)).set_ 1 (.int .i64 (-1)), k, rfl, ?_⟩
  exact (hE2.below (bl_drew (Below.refl _ _))).fault b07d (Nat.le_refl _) (((Turn.refl [W.heap.size] _).setCell (p := ⟨W.heap.size, 0, none⟩) (.inl (by simp)) _).setCell (p := ⟨W.heap.size, 1, none⟩) (.inl (by simp)) _)
theorem carryOf_text (ep : Nat) (L : List Fl) (w : World) (hck : checkOf (ep : Int) L = none) (hu : ∀ x ∈ L, U64 x.key) :
    Calls Tryz.prog 147 #[.string ⟨(textOf (ep : Int) L).toArray⟩] w fun e w' => ∃ (A : Option Addr) (cap : Nat), e = .returned (.tuple #[.int .i64 (ep : Int), .slice A L.length cap, .agg #[.int .i64 0, .int .i64 (-1)]]) ∧ Reads w' w'.heap.size 3 A L.length (flsC L) ∧ Below w.heap.size w w' := by
  have h := carryOf_any ⟨(textOf (ep : Int) L).toArray⟩ w
  have hr : readOf (⟨(textOf (ep : Int) L).toArray⟩ : ByteArray).data.toList = .good ep L := read_text hck hu
  rw [hr] at h
  exact h.mono fun e w' ⟨v, a, b, d⟩ => by
    obtain ⟨A, cap, rfl, hrd, _⟩ := own_slice b
    exact ⟨A, cap, a, hrd, d⟩
set_option maxRecDepth 100000 in
set_option maxHeartbeats 2000000 in
/-- What is carried over is older. -/
theorem refB_importOld (ep now : Nat) (L : List Fl) (h : RepB W B p c n s) (hck : checkOf (ep : Int) L = none) (hu : ∀ x ∈ L, U64 x.key) (hlt : ep < s.epoch) :
    Calls Tryz.prog 104 #[.pointer (some ⟨p.mb, 0, none⟩), .string ⟨(textOf (ep : Int) L).toArray⟩, .int .i64 (now : Int)] W (RefImpOld B p c n s W) := by
  have HI := impIn_of h
  have HC := Lib.hid (carryOf_text ep L (W.alloc (.cells #[.int .i64 0, .int .i64 0] 87)) hck hu)
  have HF : Hid (∀ w', Below W.heap.size W w' → RefImpOld B p c n s W (.returned (.tuple #[.int .i64 0, .agg #[.int .i64 8, .int .i64 (-1)]])) w') := Lib.hid fun w' hb => ⟨rfl, h.to_below hb⟩
  generalize hQ : RefImpOld B p c n s W = Q at *
  generalize textOf (ep : Int) L = tx at *
  clear h hck hu hQ
  go_enter Tryz.func104, Tryz.ntmps104
  go_wp2_with fail
  generalize hW0 : W.alloc (.cells #[.int .i64 0, .int .i64 0] 87) = W0 at *
  refine HC.out.mono ?_
  rintro e w1 ⟨A, cap, rfl, _, hb1⟩
  have hb2 := below_two hb1 ((Below.refl w1.heap.size w1).alloc (Nat.le_refl _) (.cells #[.int .i64 0, .int .i64 (-1)] 87))
  obtain ⟨_, _, c4⟩ := HI.cs _ hb2
  have HB2 := Lib.hid hb2
  clear hb1 hb2 hW0 HC
  have hlt2 : (ep : Int) < (s.epoch : Int) := by omega
  go_wp2_with fail
  refine (bare_any _ _).mono ?_
  rintro e w3 ⟨rfl, hb3⟩
  have hb03 := below_two HB2.out hb3
  have hBk := HI.b0 _ hb03
  have r0 : w3.cell? ⟨W.heap.size, 0, none⟩ = some (.int .i64 0) := hBk.cell 0
  have r1 : w3.cell? ⟨W.heap.size, 1, none⟩ = some (.int .i64 0) := hBk.cell 1
  have f0 := hBk.frozen 0
  have f1 := hBk.frozen 1
  have HBf := Lib.hid ((hBk.set_ 0 (.int .i64 8)).set_ 1 (.int .i64 (-1)))
  have HF3 := Lib.hid (HF.out _ (((HI.bl _ hb03).setCell (p := ⟨W.heap.size, 0, none⟩) (Nat.le_refl _) (.int .i64 8)).setCell (p := ⟨W.heap.size, 1, none⟩) (Nat.le_refl _) (.int .i64 (-1))))
  clear hBk hb3 hb03
  go_wp2
  refine bodyPost_ret (results_tmp_cell (P := Tryz.prog) rfl _ _ W.heap.size _ _ (0, 0) _ rfl HBf.out Tryz.underlying87 rfl (by kernel_rfl)) rfl ?_
  exact HF3.out
set_option maxRecDepth 100000 in
set_option maxHeartbeats 4000000 in
theorem refB_import (ep now : Nat) (L : List Fl) (h : RepB W B p c n s) (hB : B ≤ W.heap.size) (hck : checkOf (ep : Int) L = none) (hu : ∀ x ∈ L, U64 x.key) (hz : ∀ x ∈ L, x.host.size ≤ maxLen) (hle : s.epoch ≤ ep) (h1 : s.fs.1 ≤ now) (h2 : now ≤ 1000000) :
    Calls Tryz.prog 104 #[.pointer (some ⟨p.mb, 0, none⟩), .string ⟨(textOf (ep : Int) L).toArray⟩, .int .i64 (now : Int)] W (RefImpB B p c n { s with fs := (now, addF now s.fs.2 (L.filter fun z => upOf s.st z.host)), epoch := ep } W) := by
  obtain ⟨i0, hi0, hz0, hz1, hz2⟩ := info_parts info_flow
  have HI := impIn_of h
  have hko := checkOf_none hck
  have hn2 := hko.n
  have hep : (ep : Int) ≤ 1099511627776 := hko.e1
  have HC := Lib.hid (carryOf_text ep L (W.alloc (.cells #[.int .i64 0, .int .i64 0] 87)) hck hu)
  have HADD : Hid (∀ (m : Nat) (A : Option Addr) (cap : Nat) (wr : World), Below W.heap.size W wr → (L.filter fun z => upOf s.st z.host).length = m → wr.ownsRow W.heap.size 43 3 (.slice A m cap) m (flsC (L.filter fun z => upOf s.st z.host)) → Calls Tryz.prog 148 #[.pointer (some ⟨p.mf, 0, none⟩), .slice A m cap, .int .i64 (now : Int)] wr (RefAddB B p c n { s with fs := (now, addF now s.fs.2 (L.filter fun z => upOf s.st z.host)) } W wr)) := Lib.hid fun m A cap wr hb hm ho => refAddB now m _ A cap wr h hB hb hm (by have := List.length_filter_le (fun z : Fl => upOf s.st z.host) L; omega) (own_base ho hB) (fun x hx => ⟨hko.l x (List.mem_filter.1 hx).1, hz x (List.mem_filter.1 hx).1⟩) h1 h2
  have HE : Hid (∀ (k g : Nat) w5, RepTo B p c n { s with fs := (now, addF now s.fs.2 (L.filter fun z => upOf s.st z.host)) } W w5 → Blk w5 W.heap.size 87 #[.int .i64 0, .int .i64 0] → Blk w5 g 87 #[.int .i64 0, .int .i64 (-1)] → W.heap.size < g → ImpEnd W w5 p g s.epoch ep (RefImpB B p c n { s with fs := (now, addF now s.fs.2 (L.filter fun z => upOf s.st z.host)), epoch := ep } W) k) := Lib.hid fun k g w5 h5 b0 b1 hg => impEnd_of h5 b0 b1 hg
  generalize hQ : RefImpB B p c n { s with fs := (now, addF now s.fs.2 (L.filter fun z => upOf s.st z.host)), epoch := ep } W = Q at *
  generalize textOf (ep : Int) L = tx at *
  clear h hB hck hu hQ hko hz h1
  go_enter Tryz.func104, Tryz.ntmps104
  go_wp2_with fail
  generalize hW0 : W.alloc (.cells #[.int .i64 0, .int .i64 0] 87) = W0 at *
  refine HC.out.mono ?_
  rintro e w1 ⟨A, cap, rfl, hrd, hb1⟩
  have hb12 := ((Below.refl w1.heap.size w1).alloc (Nat.le_refl _) (.cells #[.int .i64 0, .int .i64 (-1)] 87))
  have hb2 := below_two hb1 hb12
  obtain ⟨_, _, c4⟩ := HI.cs _ hb2
  have HB2 := Lib.hid hb2
  have HBL := Lib.hid (Blk.new w1 87 #[.int .i64 0, .int .i64 (-1)])
  have HRD := Lib.hid ((hrd.below hb12).more hb12.size)
  have hG : W.heap.size < w1.heap.size := Nat.lt_of_lt_of_le HI.lt hb1.size
  clear hb1 hb2 hW0 HC hrd hb12
  have hlt2 : ¬ (ep : Int) < (s.epoch : Int) := by omega
  have hlt3 : ¬ ep < s.epoch := by omega
  clear hle
  go_wp2_with fail
  clear hlt2 hlt3
  generalize hW2 : w1.alloc (.cells #[.int .i64 0, .int .i64 (-1)] 87) = W2 at *
  generalize w1.heap.size = g at *
  clear hW2 c4
  go_loopw [11, 12, 13] (fun lv iv _ wr => ∃ (i m : Nat) (A' : Option Addr) (cap' : Nat), i ≤ L.length ∧ m ≤ i ∧ lv = .slice A' m cap' ∧ iv = .int .i64 (i : Int) ∧ Hid (((L.take i).filter fun z => upOf s.st z.host).length = m) ∧ Hid (wr.ownsRow W2.heap.size 43 3 (.slice A' m cap') m (flsC ((L.take i).filter fun z => upOf s.st z.host))) ∧ Hid (Below W2.heap.size W2 wr)) (fun _ iv _ _ => L.length + 1 - (intOf iv).toNat)
  case atStart => exact ⟨0, 0, none, 0, Nat.zero_le _, Nat.le_refl _, rfl, rfl, Lib.hid rfl, Lib.hid (World.ownsRow_nil _ _ _ _), Lib.hid (Below.refl _ _)⟩
  case round =>
    obtain ⟨i, m, A', cap', hile, hmi, rfl, rfl, hm, hO, hb⟩ := hrel
    have hb0 := below_two HB2.out hb.out
    obtain ⟨c0, c1, _⟩ := HI.cs _ hb0
    by_cases hil : i < L.length
    · have hil2 : (i : Int) < L.length := by omega
      have HU := Lib.hid (HI.up wr.drew L[i].host (bl_drew hb0))
      obtain ⟨ad, hAd, a0, a1, a2⟩ := cellsA (HRD.out.below hb.out) hil
      subst hAd
      have c0d : wr.drew.cell? ⟨p.mb, 0, none⟩ = some (.pointer (some ⟨p.mh, 0, none⟩)) := c0
      have a0d : wr.drew.cell? (ad.add (i * 3)) = some (.int .u64 (L[i].key : Int)) := a0
      have a1d : wr.drew.cell? ⟨(ad.add (i * 3)).block, (ad.add (i * 3)).off + 1, none⟩ = some (.string L[i].host) := a1
      have a2d : wr.drew.cell? ⟨(ad.add (i * 3)).block, (ad.add (i * 3)).off + 2, none⟩ = some (.int .i64 L[i].til) := a2
      have hst := filterF_take_succ hil (fun z => upOf s.st z.host)
      by_cases hup : upOf s.st L[i].host = true
      · rw [if_pos hup] at hst
        have hbA := (Below.refl wr.drew.heap.size wr.drew).alloc (Nat.le_refl _) (.cells #[.int .u64 (L[i].key : Int), .string L[i].host, .int .i64 L[i].til] 43)
        have HRW := Lib.hid (own_below (own_below hO.out (bl_drew (Below.refl _ _))) hbA)
        have HNW := Lib.hid (flC_reads wr.drew L[i])
        have HSZ := Lib.hid (Nat.le_trans hb.out.size hbA.size)
        have HAP : Hid (∀ v' W', W'.ownsRow W2.heap.size 43 3 v' (m + 1) (flsC ((L.take i).filter fun z => upOf s.st z.host) ++ flC L[i]) → (wr.drew.alloc (.cells #[.int .u64 (L[i].key : Int), .string L[i].host, .int .i64 L[i].til] 43)).grownBy W' (Value.slice A' m cap').ownBlock → ∃ A2 cap2, v' = .slice A2 (m + 1) cap2 ∧ Hid (((L.take (i + 1)).filter fun z => upOf s.st z.host).length = m + 1) ∧ Hid (W'.ownsRow W2.heap.size 43 3 (.slice A2 (m + 1) cap2) (m + 1) (flsC ((L.take (i + 1)).filter fun z => upOf s.st z.host))) ∧ Hid (Below W2.heap.size W2 W')) := Lib.hid fun v' W' h1 h2 => by
          obtain ⟨A2, cap2, rfl, _⟩ := own_slice h1
          refine ⟨A2, cap2, rfl, Lib.hid (by rw [hst]; simp [hm.out]), Lib.hid ?_, Lib.hid (below_app (below_two (bl_drew hb.out) hbA) HRW.out h2)⟩
          rw [hst, flsC_append]
          simpa [flsC] using h1
        rw [hup] at HU
        have HOC := Lib.hid (flC_oneCell L[i])
        clear hst hup hm hO hb hb0 hbA a0 a2 c1
        generalize hfx : flC L[i] = fx at *
        clear hfx
        generalize L[i].key = key at *
        generalize L[i].host = host at *
        generalize L[i].til = til at *
        generalize flsC ((L.take i).filter fun z => upOf s.st z.host) = xs at *
        go_wp2_with fail
        go_region_held3 (fun w' => w'.cell? ⟨p.mb, 0, none⟩ = some (.pointer (some ⟨p.mh, 0, none⟩)) ∧ w'.cell? ⟨(ad.add (i * 3)).block, (ad.add (i * 3)).off + 1, none⟩ = some (.string host)) (first | exact ⟨c0d, a1d⟩ | go_keep) (first
          | (go_at_call 144
             refine HU.out.mono ?_
             rintro e w5 ⟨rfl, rfl⟩))
        all_goals
          go_wp2_with (first
            | (at_builtin
               go_must (refine wpList_append_any _ rfl (.tmp 49) (.tmp 54) _ rfl W2.heap.size 43 i0 _ 3 32 Tryz.underlying40 hi0 hz0 hz1 hz2 rfl (by omega) (.slice A' m cap') m xs rfl HRW.out _ (some ⟨wr.heap.size, 0, none⟩) 1 1 fx rfl HNW.out HOC.out (by simp only [maxLen]; omega) (by omega) HSZ.out ?_)
               intro v1 w6 hown1 hg1 _
               obtain ⟨A2, cap2, hv2, HM2, HO2, HB3⟩ := HAP.out _ _ hown1 hg1
               subst hv2
               clear hown1 hg1))
          go_roundw
          case rel => exact ⟨i + 1, m + 1, A2, cap2, by omega, by omega, rfl, by go_num, HM2, HO2, HB3⟩
          case measure => simp [intOf]; omega
      · rw [if_neg hup] at hst
        rw [Bool.eq_false_iff.2 hup] at HU
        have HM2 : Hid (((L.take (i + 1)).filter fun z => upOf s.st z.host).length = m) := Lib.hid (by rw [hst]; exact hm.out)
        have HO2 : Hid (wr.drew.ownsRow W2.heap.size 43 3 (.slice A' m cap') m (flsC ((L.take (i + 1)).filter fun z => upOf s.st z.host))) := Lib.hid (by rw [hst]; exact own_below hO.out (bl_drew (Below.refl _ _)))
        have HB4 := Lib.hid (bl_drew hb.out)
        clear hst hup hm hO hb hb0 a0 a2 c1 a0d a2d
        generalize L[i].host = host at *
        go_wp2_with fail
        go_region_held3 (fun w' => w'.cell? ⟨p.mb, 0, none⟩ = some (.pointer (some ⟨p.mh, 0, none⟩)) ∧ w'.cell? ⟨(ad.add (i * 3)).block, (ad.add (i * 3)).off + 1, none⟩ = some (.string host)) (first | exact ⟨c0d, a1d⟩ | go_keep) (first
          | (go_at_call 144
             refine HU.out.mono ?_
             rintro e w5 ⟨rfl, rfl⟩))
        all_goals
          go_wp2_with fail
          go_roundw
          case rel => exact ⟨i + 1, m, A', cap', by omega, by omega, rfl, by go_num, HM2, HO2, HB4⟩
          case measure => simp [intOf]; omega
    · obtain rfl : i = L.length := by omega
      have hge : ¬ (L.length : Int) < L.length := by omega
      have hm2 := hm.out
      have hO2 := hO.out
      rw [List.take_length] at hm2 hO2
      have hW2 := Nat.le_trans (Nat.le_of_lt hG) (Nat.le_of_lt HBL.out.lt)
      have HA := Lib.hid (HADD.out m A' cap' wr (HI.bl _ hb0) hm2 (own_base hO2 hW2))
      unfold RefAddB at HA
      have HBG := Lib.hid (HI.b0 _ hb0)
      have HBH := Lib.hid (HBL.out.below hb.out HBL.out.lt)
      clear hm hO hb hm2 hO2 HADD hb0 hW2
      go_wp2_with fail
      refine HA.out.mono ?_
      rintro e w5 ⟨k, rfl, h5, hbk, _⟩
      obtain ⟨gc0, gc1, g0, g1, q0, c4, f4, r0, r1, r2, r3, f0, f1, hbf, hfin⟩ := HE.out k g w5 h5 (hbk _ _ _ HBG.out (Nat.le_refl _)) (hbk _ _ _ HBH.out (Nat.le_of_lt hG)) hG
      have HFin := Lib.hid hfin
      have HBf := Lib.hid hbf
      clear h5 hbk hfin hbf HA HBG HBH HE
      go_wp2_with fail
      go_region
      all_goals
        go_wp2
        refine bodyPost_ret (results_tmp_cell (P := Tryz.prog) rfl _ _ W.heap.size _ _ (0, 0) _ rfl HBf.out Tryz.underlying87 rfl (by kernel_rfl)) rfl ?_
        exact HFin.out
end
end Go.Proofs.YteilefpjfbholaaGreatDoor

namespace Go.Proofs.YteilefpjfbholaaGreatDoor
open Go.RowKit

def RefPickB (B : Nat) (p : RBp) (c : BCfg) (n : Nat) (r : (ByteArray × Bool × Nat) × BS) (W : World) (e : Ending) (w' : World) : Prop :=
  e = .returned (.tuple #[.string r.1.1, .bool r.1.2.1, .int .i64 (r.1.2.2 : Int)]) ∧ RepTo B p c n r.2 W w'
section
variable {W : World} {B n : Nat} {p : RBp} {c : BCfg} {s : BS}
/-- Behind Get: what a pick goes on with. -/
structure PickIn (B : Nat) (p : RBp) (c : BCfg) (n : Nat) (s1 : BS) (key now : Nat) (W w1 : World) : Prop where
  cs : ∀ w2, Below w1.heap.size w1 w2 → w2.cell? ⟨p.mb, 0, none⟩ = some (.pointer (some ⟨p.mh, 0, none⟩)) ∧ w2.cell? ⟨p.mb, 1, none⟩ = some (.pointer (some ⟨p.mf, 0, none⟩)) ∧ w2.cell? ⟨p.mb, 2, none⟩ = some (.int .i64 (c.size : Int))
  up : ∀ w2 x, Below w1.heap.size w1 w2 → Calls Tryz.prog 144 #[.pointer (some ⟨p.mh, 0, none⟩), .string x] w2 fun e w' => e = .returned (.bool (upOf s1.st x)) ∧ w2 = w'
  ups : ∀ w2, Below w1.heap.size w1 w2 → Calls Tryz.prog 27 #[.pointer (some ⟨p.mh, 0, none⟩)] w2 (TextsPost (ups s1.st) w2)
  dr : ∃ (dl : List ByteArray) (A : Option Addr) (cap : Nat), (∀ x, s1.dr x = has dl x) ∧ ∀ w2, Below w1.heap.size w1 w2 → w2.cell? ⟨p.mb, 3, none⟩ = some (.slice A dl.length cap) ∧ ∀ x, Calls Tryz.prog 65 #[.slice A dl.length cap, .string x] w2 fun e w' => e = .returned (.int .i64 (idx dl x)) ∧ w2 = w'
  put : ∀ w2 x, Below w1.heap.size w1 w2 → isName x = true → x.size ≤ maxLen → Calls Tryz.prog 151 #[.pointer (some ⟨p.mf, 0, none⟩), .int .u64 (key : Int), .string x, .int .i64 (now : Int)] w2 fun e w' => e = .returned (.int .i64 0) ∧ RepTo B p c n { s1 with fs := (now, putF s1.fs.2 ⟨key, x, (now : Int) + c.time⟩) } W w'
  back : ∀ w2, Below w1.heap.size w1 w2 → RepTo B p c n s1 W w2
theorem pickIn_of {s1 : BS} {key now : Nat} {w1 : World} (h : RepTo B p c n s1 W w1) (hB : B ≤ W.heap.size) (hr : Rise s1.fs.2) (hl : s1.fs.1 ≤ now) (hn : now ≤ 1000000) (ht : c.time ≤ 1000) (hnn : n ≤ 900) : PickIn B p c n s1 key now W w1 := by
  obtain ⟨p1, r1, e1, t1, b1⟩ := h
  have hB1 := Nat.le_trans hB t1.size
  obtain ⟨dl, d1, d2, d3⟩ := r1.d
  obtain ⟨A, cap, hdv, hrd, _⟩ := own_slice d1
  refine ⟨fun w2 hb => ?_, fun w2 x hb => ?_, fun w2 hb => ?_, ⟨dl, A, cap, fun x => ?_, fun w2 hb => ⟨?_, fun x => ?_⟩⟩, fun w2 x hb hx hz => ?_, fun w2 hb => RepTo.link e1 t1 b1 (r1.to_below hb)⟩
  · obtain ⟨a, b, d, _⟩ := (r1.below hb).cells
    rw [e1.1] at a b d
    rw [e1.2.1] at a
    rw [e1.2.2] at b
    exact ⟨a, b, d⟩
  · have := (r1.below hb).isUp x
    rw [e1.2.1] at this
    exact this
  · obtain ⟨rs, hR, hM⟩ := (r1.below hb).h
    have := refUps w2 hR (by have := hM.le; have := hM.len; omega)
    rw [← hM.ups] at this
    rw [e1.2.1] at this
    exact this
  · rw [Bool.eq_iff_iff, d3 x, has_iff]
  · obtain ⟨_, _, _, a, _⟩ := (r1.below hb).cells
    rw [e1.1, hdv] at a
    exact a
  · exact index_any A cap w2.heap.size dl x w2 ((hrd.below hb).more hb.size) (by unfold maxLen; omega)
  · have r2 := r1.below hb
    have := ref_put_ok key x now w2 r2.f hr (Nat.le_trans hB1 hb.size) hz hx hl (by omega) (by omega)
    rw [e1.2.2] at this
    refine this.mono fun e w' ⟨a, fv', hf, ht⟩ => ⟨a, RepTo.link e1 (t1.thenB hb) (fun b hb' => b1 b hb') (r2.turnF (fs' := (now, putF s1.fs.2 ⟨key, x, (now : Int) + c.time⟩)) (by rw [e1.2.2]; exact hf) (by rw [e1.2.2]; exact ht))⟩
theorem refGetB (key now : Nat) (h : RepB W B p c n s) (hr : Rise s.fs.2) (h1 : s.fs.1 ≤ now) (h2 : now ≤ 1000000) :
    Calls Tryz.prog 150 #[.pointer (some ⟨p.mf, 0, none⟩), .int .u64 (key : Int), .int .i64 (now : Int)] W fun e w' => e = .returned (gotN (getF s.fs.2 key now) 0) ∧ RepTo B p c n { s with fs := (now, s.fs.2) } W w' :=
  (ref_get_ok key now W h.f hr h1 (by omega)).mono fun e w' ⟨a, fv', hf, ht⟩ => ⟨by rw [a]; unfold gotR gotN; cases getF s.fs.2 key now <;> rfl, h.turnF (fs' := (now, s.fs.2)) hf ht⟩
end
section
variable {W : World} {B n : Nat} {p : RBp} {c : BCfg} {s : BS}
set_option maxRecDepth 100000 in
set_option maxHeartbeats 2000000 in
/-- The key's host is kept. -/
theorem refPick_kept (key now : Nat) (x : ByteArray) (h : RepB W B p c n s) (hB : B ≤ W.heap.size) (hO : BOk c) (hs : hosts s.st = c.hosts) (hr : Rise s.fs.2) (h1 : s.fs.1 ≤ now) (h2 : now ≤ 1000000) (hn : n ≤ 900) (hg : getF s.fs.2 key now = some x) (hu : upOf s.st x = true) :
    Calls Tryz.prog 106 #[.pointer (some ⟨p.mb, 0, none⟩), .int .u64 (key : Int), .int .i64 (now : Int)] W (RefPickB B p c n ((x, true, 0), { s with fs := (now, putF s.fs.2 ⟨key, x, (now : Int) + c.time⟩) }) W) := by
  have HG := Lib.hid (refGetB key now h hr h1 h2)
  rw [hg] at HG
  have hx : x ∈ c.hosts := by have := upOf_mem hu; rw [hs] at this; exact this
  have hxn := (hostsFault_none.1 hO.hf).2.1 x hx
  have hxz := (hosts_fit hO.hf).2 x hx
  have HIn : Hid (∀ w1, RepTo B p c n { s with fs := (now, s.fs.2) } W w1 → PickIn B p c n { s with fs := (now, s.fs.2) } key now W w1) := Lib.hid fun w1 h' => pickIn_of h' hB hr (Nat.le_refl _) h2 hO.t2 hn
  have c1 := h.cells.2.1
  have HF : Hid (∀ w', RepTo B p c n { s with fs := (now, putF s.fs.2 ⟨key, x, (now : Int) + c.time⟩) } W w' → RefPickB B p c n ((x, true, 0), { s with fs := (now, putF s.fs.2 ⟨key, x, (now : Int) + c.time⟩) }) W (.returned (.tuple #[.string x, .bool true, .int .i64 0])) w') := Lib.hid fun w' h => ⟨rfl, h⟩
  generalize hQ : RefPickB B p c n ((x, true, 0), { s with fs := (now, putF s.fs.2 ⟨key, x, (now : Int) + c.time⟩) }) W = Q at *
  clear h hB hO hs hr h1 h2 hg hx
  subst hQ
  unfold gotN at HG
  dsimp only [Option.getD_some, Option.isSome_some] at HG
  go_enter Tryz.func106, Tryz.ntmps106
  go_wp2_with fail
  refine HG.out.mono ?_
  rintro e w1 ⟨rfl, h1⟩
  have HI := HIn.out w1 h1
  obtain ⟨a0, a1, a2⟩ := HI.cs w1 (Below.refl _ _)
  have HU := Lib.hid (HI.up w1 x (Below.refl _ _))
  rw [show upOf ({ s with fs := (now, s.fs.2) } : BS).st x = true from hu] at HU
  have HP := Lib.hid (HI.put w1 x (Below.refl _ _) hxn hxz)
  clear HI h1 HIn HG
  go_wp2_with fail
  refine HU.out.mono ?_
  rintro e w2 ⟨rfl, rfl⟩
  go_wp2_with fail
  refine HP.out.mono ?_
  rintro e w3 ⟨rfl, h3⟩
  have HF3 := Lib.hid (HF.out w3 h3)
  clear h3 HP HF HU
  go_wp2_with fail
  go_ret3
  exact HF3.out
/-- What a key's number comes to in a table of those that are open. -/
theorem spot_of (key size : Nat) {l : List ByteArray} (h0 : l ≠ []) (hf : tableFault l (size : Int) = none) (hU : U64 key) :
    ∃ T j k : Nat, Hid (l[k]? = some (hostAt l size (Mx.turn key % size))) ∧ j < size ∧ k < l.length ∧ U64 T ∧ ((T : Int).tmod (size : Int) = (j : Int)) ∧ ((T : Int) % (size : Int) = (j : Int)) ∧ Hid ((slotsI l size)[j]? = some (k : Int)) ∧ Hid (∀ w : World, Calls Tryz.prog 30 #[.int .u64 (key : Int)] w fun e w' => e = .returned (.int .u64 (T : Int)) ∧ w = w') := by
  obtain ⟨_, _, m, hm, hm2, hm5, hd⟩ := tableFault_none hf
  obtain rfl : size = m := by omega
  have hj : Mx.turn key % size < size := Nat.mod_lt _ (by omega)
  obtain ⟨k, hk1, hk2, hk3⟩ := slots_host (List.length_pos_iff.2 h0) hm2 hd hj
  exact ⟨Mx.turn key, Mx.turn key % size, k, Lib.hid hk3, hj, hk2, Mx.turn_lt key, by rw [Int.ofNat_tmod], by omega, Lib.hid hk1, Lib.hid fun w => turnOf_any key w hU⟩
theorem pick_ways (o : Option ByteArray) (f : ByteArray → Bool) (h : ∀ x, o = some x → f x = false) : o.isSome = false ∨ (o.isSome = true ∧ f (o.getD ⟨#[]⟩) = false) := by
  cases o with
  | none => exact .inl rfl
  | some x => exact .inr ⟨rfl, h x rfl⟩
def pickNew (c : BCfg) (s : BS) (key now : Nat) : (ByteArray × Bool × Nat) × BS :=
  if openOf s = [] then ((⟨#[]⟩, false, 5), { s with fs := (now, s.fs.2) })
  else ((hostAt (openOf s) c.size (Mx.turn key % c.size), false, 0), { s with fs := (now, putF s.fs.2 ⟨key, hostAt (openOf s) c.size (Mx.turn key % c.size), (now : Int) + c.time⟩) })
set_option maxRecDepth 100000 in
set_option maxHeartbeats 4000000 in
/-- Another host is asked for. -/
theorem refPick_new (key now : Nat) (h : RepB W B p c n s) (hB : B ≤ W.heap.size) (hO : BOk c) (hs : hosts s.st = c.hosts) (hr : Rise s.fs.2) (h1 : s.fs.1 ≤ now) (h2 : now ≤ 1000000) (hn : n ≤ 900) (hU : U64 key) (hg : ∀ x, getF s.fs.2 key now = some x → upOf s.st x = false) :
    Calls Tryz.prog 106 #[.pointer (some ⟨p.mb, 0, none⟩), .int .u64 (key : Int), .int .i64 (now : Int)] W (RefPickB B p c n (pickNew c s key now) W) := by
  obtain ⟨i0, hi0, hz0, hz1, hz2⟩ := info_parts info_str
  have HG := Lib.hid (refGetB key now h hr h1 h2)
  have hways := pick_ways (getF s.fs.2 key now) (upOf s.st) hg
  have HIn : Hid (∀ w1, RepTo B p c n { s with fs := (now, s.fs.2) } W w1 → PickIn B p c n { s with fs := (now, s.fs.2) } key now W w1) := Lib.hid fun w1 h' => pickIn_of h' hB hr (Nat.le_refl _) h2 hO.t2 hn
  have c1 := h.cells.2.1
  have hup12 : (ups s.st).length ≤ 1000 := by
    have h3 := (ups_sub s.st).length_le
    have h4 := h.len
    rw [hosts_len] at h3
    omega
  have hopen : openOf s = (ups s.st).filter fun y => !s.dr y := rfl
  have hsub : (openOf s).Sublist c.hosts := by
    rw [← hs]
    unfold openOf
    exact (List.filter_sublist).trans (ups_sub s.st)
  have HEmp : Hid (∀ w', openOf s = [] → RepTo B p c n { s with fs := (now, s.fs.2) } W w' → RefPickB B p c n (pickNew c s key now) W (.returned (.tuple #[.string ⟨#[]⟩, .bool false, .int .i64 5])) w') := Lib.hid fun w' h0 h => by
    unfold pickNew
    rw [if_pos h0]
    exact ⟨rfl, h⟩
  have HFull : Hid (∀ w' x, openOf s ≠ [] → x = hostAt (openOf s) c.size (Mx.turn key % c.size) → RepTo B p c n { s with fs := (now, putF s.fs.2 ⟨key, x, (now : Int) + c.time⟩) } W w' → RefPickB B p c n (pickNew c s key now) W (.returned (.tuple #[.string x, .bool false, .int .i64 0])) w') := Lib.hid fun w' x h0 hx h => by
    unfold pickNew
    rw [if_neg h0, ← hx]
    exact ⟨rfl, h⟩
  have HTab : Hid (openOf s ≠ [] → ∀ W' A c', TxIn W' A c' (openOf s) → Calls Tryz.prog 37 #[.slice A (openOf s).length c', .int .i64 (c.size : Int)] W' (IntsPost (slotsI (openOf s) c.size) W')) := Lib.hid fun h0 W' A c' hT => (make_yes (fun _ => ⟨0, 0, none⟩) (openOf s) c.size (sub_table hO.tf hsub (List.length_pos_iff.2 h0))).ref W' A c' hT
  have HSp : Hid (openOf s ≠ [] → ∃ T j k : Nat, Hid ((openOf s)[k]? = some (hostAt (openOf s) c.size (Mx.turn key % c.size))) ∧ j < c.size ∧ k < (openOf s).length ∧ U64 T ∧ ((T : Int).tmod (c.size : Int) = (j : Int)) ∧ ((T : Int) % (c.size : Int) = (j : Int)) ∧ Hid ((slotsI (openOf s) c.size)[j]? = some (k : Int)) ∧ Hid (∀ w : World, Calls Tryz.prog 30 #[.int .u64 (key : Int)] w fun e w' => e = .returned (.int .u64 (T : Int)) ∧ w = w')) := Lib.hid fun h0 => spot_of key c.size h0 (sub_table hO.tf hsub (List.length_pos_iff.2 h0)) hU
  have HNm : Hid (∀ x ∈ openOf s, isName x = true ∧ x.size ≤ maxLen) := Lib.hid fun x hx => ⟨(hostsFault_none.1 hO.hf).2.1 x (hsub.subset hx), (hosts_fit hO.hf).2 x (hsub.subset hx)⟩
  have hsz : 2 ≤ c.size ∧ c.size ≤ 503 := by
    obtain ⟨_, _, m, hm, hm2, hm5, _⟩ := tableFault_none hO.tf
    omega
  have HQ : Hid (RefPickB B p c n (pickNew c s key now) W = RefPickB B p c n (pickNew c s key now) W) := Lib.hid rfl
  obtain ⟨pn, hpn⟩ : ∃ pn, pn = pickNew c s key now := ⟨_, rfl⟩
  rw [← hpn] at HEmp HFull ⊢
  clear h hB hO hs hr h1 h2 hU hg hsub HQ hpn
  unfold gotN at HG
  generalize (getF s.fs.2 key now).isSome = b0 at *
  generalize (getF s.fs.2 key now).getD ⟨#[]⟩ = s0 at *
  have HOp := Lib.hid hopen
  clear hopen
  go_enter Tryz.func106, Tryz.ntmps106
  go_wp2_with fail
  refine HG.out.mono ?_
  rintro e w1 ⟨rfl, h1⟩
  have HI := Lib.hid (HIn.out w1 h1)
  obtain ⟨a0, a1, a2⟩ := HI.out.cs w1 (Below.refl _ _)
  have HU := Lib.hid (HI.out.up w1 s0 (Below.refl _ _))
  have HUps := Lib.hid (HI.out.ups w1 (Below.refl _ _))
  unfold TextsPost at HUps
  have hst : ({ s with fs := (now, s.fs.2) } : BS).st = s.st := rfl
  rw [hst] at HU HUps
  clear h1 HIn HG c1 hst
  generalize upOf s.st s0 = u0 at *
  rcases hways with rfl | ⟨rfl, rfl⟩
  all_goals
    go_wp2_with fail
    refine HU.out.mono ?_
    rintro e w2 ⟨rfl, rfl⟩
    go_wp2_with fail
    refine HUps.out.mono ?_
    rintro e w3 ⟨A3, c3, rfl, ho3, hb3⟩
    have HO3 := Lib.hid ho3
    have HB3 := Lib.hid hb3
    clear ho3 hb3 HUps HU a0 a1 a2
    go_wp2_with fail
    obtain ⟨dl, Ad, cd, hdr, hdc⟩ := HI.out.dr
    have HDC := Lib.hid hdc
    have HDR := Lib.hid hdr
    clear hdc hdr
    go_loopw [13, 15] (fun lv iv wr => ∃ (i m : Nat) (A' : Option Addr) (cap' : Nat), i ≤ (ups s.st).length ∧ m ≤ i ∧ lv = .slice A' m cap' ∧ iv = .int .i64 (i : Int) ∧ Hid ((((ups s.st).take i).filter fun y => !s.dr y).length = m) ∧ Hid (wr.ownsRow w3.heap.size 9 1 (.slice A' m cap') m (strV (((ups s.st).take i).filter fun y => !s.dr y))) ∧ Hid (Below w3.heap.size w3 wr)) (fun _ iv _ => (ups s.st).length + 1 - (intOf iv).toNat)
    case atStart => exact ⟨0, 0, none, 0, Nat.zero_le _, Nat.le_refl _, rfl, rfl, Lib.hid rfl, Lib.hid (World.ownsRow_nil _ _ _ _), Lib.hid (Below.refl _ _)⟩
    case round =>
      obtain ⟨i, m, A', cap', hile, hmi, rfl, rfl, hm, hO, hb⟩ := hrel
      have hbw := below_two HB3.out hb.out
      by_cases hil : i < (ups s.st).length
      · have hil2 : (i : Int) < (ups s.st).length := by omega
        obtain ⟨cd3, hix⟩ := HDC.out wr.drew (bl_drew hbw)
        have HIX := Lib.hid (hix (ups s.st)[i])
        obtain ⟨ad, u, hA, hbl, hu, hc⟩ := ((Reads.of_own HO3.out).below hb.out).at_ hil
        subst hA
        have cx : wr.cell? (ad.add i) = some (.string (ups s.st)[i]) := by rw [hc, ← hu]; simp [strV, hil]
        have cxd : wr.drew.cell? (ad.add i) = some (.string (ups s.st)[i]) := cx
        have hst := filter_take_succ hil (fun y => !s.dr y)
        have hdrx := HDR.out (ups s.st)[i]
        have hdrx2 : s.dr (ups s.st)[i] = has dl (ups s.st)[i] := hdrx
        clear hix hu hc hdrx
        by_cases hin : s.dr (ups s.st)[i] = true
        · rw [if_neg (by simp [hin])] at hst
          have hidx : decide (idx dl (ups s.st)[i] < 0) = false := by
            have h3 := idx_nonneg dl (ups s.st)[i]
            rw [← hdrx2, hin] at h3
            simp only [decide_eq_true_eq] at h3
            simp; omega
          have HM2 : Hid ((((ups s.st).take (i + 1)).filter fun y => !s.dr y).length = m) := Lib.hid (by rw [hst]; exact hm.out)
          have HO2 : Hid (wr.drew.ownsRow w3.heap.size 9 1 (.slice A' m cap') m (strV (((ups s.st).take (i + 1)).filter fun y => !s.dr y))) := Lib.hid (by rw [hst]; exact own_below hO.out (bl_drew (Below.refl _ _)))
          have HB4 := Lib.hid (bl_drew hb.out)
          clear hst hin hdrx2 hm hO hb hbw hbl
          generalize (ups s.st)[i] = x at *
          generalize idx dl x = ix at *
          go_wp2_with fail
          go_region_held3 (fun w' => w'.cell? ⟨p.mb, 3, none⟩ = some (.slice Ad dl.length cd) ∧ w'.cell? (ad.add i) = some (.string x)) (first | exact ⟨cd3, cxd⟩ | go_keep) (first
            | (go_at_call 65
               refine HIX.out.mono ?_
               rintro e w5 ⟨rfl, rfl⟩))
          all_goals
            go_wp2_with fail
            go_roundw
            case rel => exact ⟨i + 1, m, A', cap', by omega, by omega, rfl, by go_num, HM2, HO2, HB4⟩
            case measure => simp [intOf]; omega
        · rw [if_pos (by simp [hin])] at hst
          have hidx : decide (idx dl (ups s.st)[i] < 0) = true := by
            have h3 := idx_nonneg dl (ups s.st)[i]
            rw [← hdrx2, Bool.eq_false_iff.2 hin] at h3
            simp only [decide_eq_false_iff_not] at h3
            simp; omega
          have hbA := (Below.refl wr.drew.heap.size wr.drew).alloc (Nat.le_refl _) (.cells #[.string (ups s.st)[i]] 9)
          have HRW : Hid ((wr.drew.alloc (.cells #[.string (ups s.st)[i]] 9)).ownsRow w3.heap.size 9 1 (.slice A' m cap') m (strV (((ups s.st).take i).filter fun y => !s.dr y))) := Lib.hid (own_below (own_below hO.out (bl_drew (Below.refl _ _))) hbA)
          have HNW : Hid (Reads (wr.drew.alloc (.cells #[.string (ups s.st)[i]] 9)) (wr.drew.alloc (.cells #[.string (ups s.st)[i]] 9)).heap.size 1 (some ⟨wr.heap.size, 0, none⟩) 1 [.string (ups s.st)[i]]) := Lib.hid (blk_reads (Blk.new wr.drew 9 [Value.string (ups s.st)[i]].toArray))
          have HSZ : Hid (w3.heap.size ≤ (wr.drew.alloc (.cells #[.string (ups s.st)[i]] 9)).heap.size) := Lib.hid (Nat.le_trans hb.out.size hbA.size)
          have HAP : Hid (∀ v' W', W'.ownsRow w3.heap.size 9 1 v' (m + 1) (strV (((ups s.st).take i).filter fun y => !s.dr y) ++ [.string (ups s.st)[i]]) → (wr.drew.alloc (.cells #[.string (ups s.st)[i]] 9)).grownBy W' (Value.slice A' m cap').ownBlock → ∃ A2 cap2, v' = .slice A2 (m + 1) cap2 ∧ Hid ((((ups s.st).take (i + 1)).filter fun y => !s.dr y).length = m + 1) ∧ Hid (W'.ownsRow w3.heap.size 9 1 (.slice A2 (m + 1) cap2) (m + 1) (strV (((ups s.st).take (i + 1)).filter fun y => !s.dr y))) ∧ Hid (Below w3.heap.size w3 W')) := Lib.hid fun v' W' h1 h2 => by
            obtain ⟨A2, cap2, rfl, _⟩ := own_slice h1
            refine ⟨A2, cap2, rfl, Lib.hid (by rw [hst]; simp [hm.out]), Lib.hid ?_, Lib.hid (below_app (below_two (bl_drew hb.out) hbA) HRW.out h2)⟩
            rw [hst]
            simpa [strV] using h1
          clear hst hin hdrx2 hm hO hb hbw hbl hbA
          generalize (ups s.st)[i] = x at *
          generalize idx dl x = ix at *
          generalize strV (((ups s.st).take i).filter fun y => !s.dr y) = xs at *
          go_wp2_with fail
          go_region_held3 (fun w' => w'.cell? ⟨p.mb, 3, none⟩ = some (.slice Ad dl.length cd) ∧ w'.cell? (ad.add i) = some (.string x)) (first | exact ⟨cd3, cxd⟩ | go_keep) (first
            | (go_at_call 65
               refine HIX.out.mono ?_
               rintro e w5 ⟨rfl, rfl⟩))
          all_goals
            go_wp2_with (first
              | (at_builtin
                 go_must (refine wpList_append_any _ rfl (.tmp 71) (.tmp 76) _ rfl w3.heap.size 9 i0 _ 1 16 Tryz.underlying24 hi0 hz0 hz1 hz2 rfl (by omega) (.slice A' m cap') m xs rfl HRW.out _ (some ⟨wr.heap.size, 0, none⟩) 1 1 [.string x] rfl HNW.out (by simp [Value.oneCell']) (by simp only [maxLen]; omega) (by omega) HSZ.out ?_)
                 intro v1 w6 hown1 hg1 _
                 obtain ⟨A2, cap2, hv2, HM2, HO2, HB2⟩ := HAP.out _ _ hown1 hg1
                 subst hv2
                 clear hown1 hg1))
            go_roundw
            case rel => exact ⟨i + 1, m + 1, A2, cap2, by omega, by omega, rfl, by go_num, HM2, HO2, HB2⟩
            case measure => simp [intOf]; omega
      · obtain rfl : i = (ups s.st).length := by omega
        have hge : ¬ ((ups s.st).length : Int) < (ups s.st).length := by omega
        have hm2 := hm.out
        have hO2 := hO.out
        rw [List.take_length, ← HOp.out] at hm2 hO2
        obtain ⟨a0, a1, a2⟩ := HI.out.cs wr hbw
        by_cases h0 : openOf s = []
        · have hm0 : m = 0 := by rw [← hm2, h0]; rfl
          subst hm0
          have HF := Lib.hid (HEmp.out wr h0 (HI.out.back wr hbw))
          clear hm hO hb hm2 hO2 HEmp HFull hbw h0
          go_wp2_with fail
          go_ret3
          exact HF.out
        · subst hm2
          obtain ⟨T, j, k, hkx, hj, hk, hT, htm, hte, hjx, HTO⟩ := HSp.out h0
          have hxs := slotsI_length (openOf s) c.size
          have hl0 : 0 < (openOf s).length := List.length_pos_iff.2 h0
          have hm0 : ((((openOf s).length : Nat) : Int) == 0) = false := beq_eq_false_iff_ne.2 (by omega)
          have hm00 : ((openOf s).length == 0) = false := beq_eq_false_iff_ne.2 (by omega)
          have hkn : (openOf s)[k]? = some (openOf s)[k] := List.getElem?_eq_getElem hk
          have hxe : (openOf s)[k] = hostAt (openOf s) c.size (Mx.turn key % c.size) := by have := hkx.out; rw [hkn] at this; exact Option.some.inj this
          have hnm := HNm.out _ (List.getElem_mem hk)
          have HTA := Lib.hid (HTab.out h0 wr A' cap' ⟨Reads.of_own hO2, own_ncap2 hO2, by unfold maxLen; omega, fun x hx => (HNm.out x hx).2⟩)
          unfold IntsPost at HTA
          rw [hxs] at HTA
          have HFx := Lib.hid (fun w' (hh : RepTo B p c n { s with fs := (now, putF s.fs.2 ⟨key, (openOf s)[k], (now : Int) + c.time⟩) } W w') => HFull.out w' (openOf s)[k] h0 hxe hh)
          have HRo := Lib.hid (fun w' (hb : Below wr.heap.size wr w') => (show ∃ ad, A' = some ad ∧ w'.cell? (ad.add k) = some (.string (openOf s)[k]) from by
            obtain ⟨ad, u, hA, hbl, hu, hc⟩ := (Reads.of_own hO2).at_ hk
            refine ⟨ad, hA, ?_⟩
            rw [hb.cell (by rw [block_of_add]; exact hbl), hc, ← hu]
            simp [strV, hk]))
          have HPut := Lib.hid (fun w2 (hb : Below w1.heap.size w1 w2) => HI.out.put w2 (openOf s)[k] hb hnm.1 hnm.2)
          have HC := Lib.hid (fun w2 (hb : Below w1.heap.size w1 w2) => HI.out.cs w2 hb)
          have HBW := Lib.hid hbw
          have hwz : IntKind.u64.wrap (c.size : Int) = (c.size : Int) := by rw [IntKind.wrap_u64]; omega
          have hwj : IntKind.i64.wrap (j : Int) = (j : Int) := IntWalk.i64_in _ (by omega)
          have hsz0 : ¬ (c.size : Int) = 0 := by omega
          have hj2 : (j : Int) < c.size := by omega
          have hk2 : (k : Int) < ((openOf s).length : Int) := by omega
          clear hm hO hb hO2 HEmp HFull hbw h0 hkx hkn hxe hnm HTab HSp HNm HI HDC HDR HOp
          generalize (openOf s)[k] = x at *
          generalize hSl : slotsI (openOf s) c.size = xs at *
          generalize (openOf s).length = ol at *
          have hz0 : 0 ≤ (c.size : Int) := by omega
          have hsb : ((c.size : Int) == 0) = false := beq_eq_false_iff_ne.2 hsz0
          have hsb2 : (c.size == 0) = false := beq_eq_false_iff_ne.2 (by omega)
          have hsz1 : ¬ c.size = 0 := by omega
          generalize c.size = cz at *
          go_wp2_with fail
          refine HTA.out.mono ?_
          rintro e w8 ⟨A8, c8, rfl, hr8, hb8⟩
          have hrj : ∃ ad8, A8 = some ad8 ∧ ∀ w', Below w8.heap.size w8 w' → w'.cell? (ad8.add j) = some (.int .i64 (k : Int)) := by
            obtain ⟨ad8, u, hA, hbl, hu, hc⟩ := hr8.at_ hj
            refine ⟨ad8, hA, fun w' hb => ?_⟩
            rw [hb.cell (by rw [block_of_add]; exact hbl), hc, ← hu, List.getElem?_map, hjx.out]
            rfl
          obtain ⟨ad8, rfl, hc8⟩ := hrj
          obtain ⟨ado, rfl, hco⟩ := HRo.out w8 hb8
          have hbw8 := below_two HBW.out hb8
          have cz2 := (HC.out w8.drew (bl_drew hbw8)).2.2
          have c8d := hc8 w8.drew (bl_drew (Below.refl _ _))
          have cod : w8.drew.cell? (ado.add k) = some (.string x) := hco
          have HT8 := Lib.hid (HTO.out w8.drew)
          have HPP := Lib.hid (HPut.out w8.drew (bl_drew hbw8))
          have HCC := Lib.hid (HC.out w8.drew (bl_drew hbw8))
          clear hr8 hb8 hc8 hco hbw8 HTA HRo HTO HPut HC HBW
          go_wp2_with fail
          go_region_held3 (fun w' => w'.cell? ⟨p.mb, 2, none⟩ = some (.int .i64 (cz : Int)) ∧ w'.cell? (ad8.add j) = some (.int .i64 (k : Int)) ∧ w'.cell? (ado.add k) = some (.string x)) (first | exact ⟨cz2, c8d, cod⟩ | go_keep) (first
            | (go_at_call 30
               refine HT8.out.mono ?_
               rintro e w9 ⟨rfl, rfl⟩))
          all_goals
            obtain ⟨b0', b1', b2'⟩ := HCC.out
            clear cz2 c8d cod
            go_wp2_with fail
            refine HPP.out.mono ?_
            rintro e w10 ⟨rfl, h10⟩
            have HFF := Lib.hid (HFx.out w10 h10)
            clear h10
            go_wp2_with fail
            go_ret3
            exact HFF.out
theorem refB_pick (key now : Nat) (h : RepB W B p c n s) (hB : B ≤ W.heap.size) (hO : BOk c) (hs : hosts s.st = c.hosts) (hr : Rise s.fs.2) (h1 : s.fs.1 ≤ now) (h2 : now ≤ 1000000) (hn : n ≤ 900) (hU : U64 key) :
    Calls Tryz.prog 106 #[.pointer (some ⟨p.mb, 0, none⟩), .int .u64 (key : Int), .int .i64 (now : Int)] W (RefPickB B p c n (pickS c s key now) W) := by
  unfold pickS
  rw [if_pos (tick_zero h1 (by omega)), Int.toNat_natCast]
  cases hk : keptOf s key now with
  | some x =>
    unfold keptOf at hk
    cases hg : getF s.fs.2 key now with
    | none => rw [hg] at hk; cases hk
    | some u =>
      rw [hg] at hk
      dsimp only at hk
      split at hk
      · obtain rfl := Option.some.inj hk
        exact refPick_kept key now u h hB hO hs hr h1 h2 hn hg (by assumption)
      · cases hk
  | none =>
    refine refPick_new key now h hB hO hs hr h1 h2 hn hU fun x hx => ?_
    unfold keptOf at hk
    rw [hx] at hk
    dsimp only at hk
    split at hk
    · cases hk
    · exact Bool.eq_false_iff.2 (by assumption)
end
end Go.Proofs.YteilefpjfbholaaGreatDoor

namespace Go.Proofs.YteilefpjfbholaaGreatDoor
open Go.RowKit

theorem info_balp : (Tryz.prog.info? 65).map (fun i => (i.zero, i.size, i.bytes)) = some (some (.pointer none), 1, 8) := by kernel_rfl
def NewRefB (c : BCfg) (w : World) (e : Ending) (w' : World) : Prop := ∃ p : RBp, e = .returned (.pointer (some ⟨p.mb, 0, none⟩)) ∧ RepB w' w.heap.size p c 0 (newS c) ∧ Below w.heap.size w w'
set_option maxHeartbeats 1000000 in
theorem refNewB (c : BCfg) (A : Option Addr) (cp Bx : Nat) (w : World) (hr : Reads w Bx 1 A c.hosts.length (strV c.hosts)) (hB : Bx ≤ w.heap.size) (hl : c.hosts.length ≤ 12) :
    Calls Tryz.prog 58 #[.slice A c.hosts.length cp, .int .i64 (c.size : Int), .int .i64 (c.time : Int), .int .i64 (c.fall : Int), .int .i64 (c.rise : Int)] w (NewRefB c w) := by
  have HN : Hid (Calls Tryz.prog 101 #[.slice A c.hosts.length cp, .int .i64 (c.fall : Int), .int .i64 (c.rise : Int)] w fun e w' => ∃ mp sv vs, e = .returned (.pointer (some ⟨mp, 0, none⟩)) ∧ RefH w' w.heap.size mp c.fall c.rise (rfresh c.hosts) sv vs ∧ Below w.heap.size w w') := Lib.hid (refNew A cp Bx c.hosts c.fall c.rise w hr hB hl)
  have HF : Hid (∀ (mp : Nat) sv vs w1, RefH w1 w.heap.size mp c.fall c.rise (rfresh c.hosts) sv vs → Below w.heap.size w w1 → NewRefB c w (.returned (.pointer (some ⟨w1.heap.size + 1, 0, none⟩))) ((w1.alloc (.cells #[.int .i64 (c.time : Int), .int .i64 0, nilS] 70)).alloc (.cells #[.pointer (some ⟨mp, 0, none⟩), .pointer (some ⟨w1.heap.size, 0, none⟩), .int .i64 (c.size : Int), nilS, .int .i64 0] 64))) := Lib.hid fun mp sv vs w1 hR hb => by
    have b1 : Below w1.heap.size w1 (w1.alloc (.cells #[.int .i64 (c.time : Int), .int .i64 0, nilS] 70)) := (Below.refl _ _).alloc (Nat.le_refl _) _
    have e1 : (w1.alloc (.cells #[.int .i64 (c.time : Int), .int .i64 0, nilS] 70)).heap.size = w1.heap.size + 1 := by simp
    have b2 : Below (w1.alloc (.cells #[.int .i64 (c.time : Int), .int .i64 0, nilS] 70)).heap.size (w1.alloc (.cells #[.int .i64 (c.time : Int), .int .i64 0, nilS] 70)) _ := (Below.refl _ _).alloc (Nat.le_refl _) (.cells #[.pointer (some ⟨mp, 0, none⟩), .pointer (some ⟨w1.heap.size, 0, none⟩), .int .i64 (c.size : Int), nilS, .int .i64 0] 64)
    have b12 := below_two b1 b2
    have hF := Blk.new w1 70 #[.int .i64 (c.time : Int), .int .i64 0, nilS]
    have hBl := Blk.new (w1.alloc (.cells #[.int .i64 (c.time : Int), .int .i64 0, nilS] 70)) 64 #[.pointer (some ⟨mp, 0, none⟩), .pointer (some ⟨w1.heap.size, 0, none⟩), .int .i64 (c.size : Int), nilS, .int .i64 0]
    rw [e1] at hBl
    have hs := hb.size
    refine ⟨⟨w1.heap.size + 1, mp, w1.heap.size, sv, vs, nilS, nilS⟩, rfl, ⟨hBl, ⟨rfresh c.hosts, hR.below b12, Mt.fresh _ hl⟩, ⟨hF.below b2 hF.lt, World.ownsRow_nil _ _ _ _, Nat.zero_le _, hs⟩, ⟨[], World.ownsRow_nil _ _ _ _, Nat.le_refl _, fun x => by simp [newS]⟩, by show w.heap.size ≤ w1.heap.size + 1; omega⟩, below_two hb b12⟩
  clear hr hB hl
  go_enter Tryz.func58, Tryz.ntmps58
  go_wp2_with fail
  refine HN.out.mono ?_
  rintro e w1 ⟨mp, sv, vs, rfl, hR, hb⟩
  have HQ := Lib.hid (HF.out mp sv vs w1 hR hb)
  clear hR hb HN HF
  go_wp2
  go_ret
  exact HQ.out
section
variable {w w' W W' : World} {B B' n : Nat} {p q : RBp} {c : BCfg} {s : BS}
theorem RepB.base (h : RepB w B p c n s) (hB : B' ≤ B) : RepB w B' p c n s := by
  obtain ⟨rs, h1, h2⟩ := h.h
  obtain ⟨dl, d1, d2, d3⟩ := h.d
  exact ⟨h.blk, ⟨rs, ⟨h1.blk, own_base h1.own hB, h1.len, fun i v r a b => own_base (h1.at_ i v r a b) hB, h1.apart, Nat.le_trans hB h1.base⟩, h2⟩, ⟨h.f.blk, own_base h.f.row hB, h.f.len, Nat.le_trans hB h.f.base⟩, ⟨dl, own_base d1 hB, d2, d3⟩, Nat.le_trans hB h.b⟩
/-- What is none of a balance's turns. -/
theorem RepB.turnT {bs : List Nat} (h : RepB w B p c n s) (ht : Turn bs w w') (hG : ∀ g ∈ bs, ∃ t cs, Blk w g t cs ∧ (t = 65 ∨ t = 68 ∨ t = 87 ∨ t = 3)) : RepB w' B p c n s := by
  obtain ⟨rs, h1, h2⟩ := h.h
  obtain ⟨dl, d1, d2, d3⟩ := h.d
  have hne : ∀ g t cs, Blk w g t cs → (t = 64 ∨ t = 70 ∨ t = 43 ∨ t = 9) → g ∉ bs := fun g t cs hC hk hm => by
    obtain ⟨t2, cs2, hD, hk2⟩ := hG g hm
    refine hC.ne_ hD ?_ rfl
    rcases hk with rfl | rfl | rfl | rfl <;> rcases hk2 with rfl | rfl | rfl | rfl <;> decide
  have hnh : ∀ b ∈ hbs p.mh p.sv p.vs, b ∉ bs := fun b hb hm => by
    obtain ⟨t2, cs2, hD, hk2⟩ := hG b hm
    refine h1.notIn hD ?_ ?_ ?_ hb <;> rcases hk2 with rfl | rfl | rfl | rfl <;> decide
  refine ⟨ht.blk h.blk (hne _ _ _ h.blk (.inl rfl)), ⟨rs, h1.turn ht hnh, h2⟩, h.f.away ht (hne _ _ _ h.f.blk (.inr (.inl rfl))) fun g' hg => ?_, ⟨dl, ht.own d1 fun g' hg => ?_, d2, d3⟩, h.b⟩
  · obtain ⟨cs', hB⟩ := own_isBlk h.f.row hg
    exact hne _ _ _ hB (.inr (.inr (.inl rfl)))
  · obtain ⟨cs', hB⟩ := own_isBlk d1 hg
    exact hne _ _ _ hB (.inr (.inr (.inr rfl)))
end
/-- Two balances of the reference, and the tick. -/
structure DuoR (w : World) (B dp : Nat) (v : Value) (p q : RBp) (n now : Nat) (st : BS × BS) : Prop where
  blk : Blk w dp 68 #[v, .int .i64 (now : Int)]
  row : w.ownsRow B 65 1 v 2 [.pointer (some ⟨p.mb, 0, none⟩), .pointer (some ⟨q.mb, 0, none⟩)]
  x : RepB w B p c22 n st.1
  y : RepB w B q c22 n st.2
  ap : ∀ b ∈ p.ws, b ∉ q.ws
  b : B ≤ dp
def NewDuoR (W : World) (e : Ending) (w' : World) : Prop := ∃ dp v p q, e = .returned (.pointer (some ⟨dp, 0, none⟩)) ∧ DuoR w' W.heap.size dp v p q 0 0 (newS c22, newS c22) ∧ Below W.heap.size W w'
/-- What the loop of NewDuo has made. -/
structure Half (W w : World) (v : Value) (k : Nat) (ps : List RBp) : Prop where
  blk : Blk w W.heap.size 68 #[v, .int .i64 0]
  row : w.ownsRow W.heap.size 65 1 v k (ps.map fun p => .pointer (some ⟨p.mb, 0, none⟩))
  len : ps.length = k
  r : ∀ p ∈ ps, RepB w W.heap.size p c22 0 (newS c22)
  ap : ∀ i j (hi : i < ps.length) (hj : j < ps.length), i < j → ∀ b ∈ ps[i].ws, b ∉ ps[j].ws
  b : Below W.heap.size W w
theorem halfEnd {W w : World} {v : Value} {ps : List RBp} (h : Half W w v 2 ps) : NewDuoR W (.returned (.pointer (some ⟨W.heap.size, 0, none⟩))) w := by
  obtain ⟨b, r, l, rr, ap, bb⟩ := h
  match ps, l with
  | [p, q], _ =>
    exact ⟨W.heap.size, v, p, q, rfl, ⟨b, r, rr p (by simp), rr q (by simp), ap 0 1 (by simp) (by simp) (by omega), Nat.le_refl _⟩, bb⟩
/-- One more balance, laid behind. -/
theorem Half.step {W w w3 w4 : World} {A : Option Addr} {cap k : Nat} {ps : List RBp} {p : RBp} (h : Half W w (.slice A k cap) k ps) (hb : Below w.heap.size w w3) (hr : RepB w3 w.heap.size p c22 0 (newS c22)) {v' : Value} (ho : w4.ownsRow W.heap.size 65 1 v' (k + 1) (ps.map (fun p => .pointer (some ⟨p.mb, 0, none⟩)) ++ [.pointer (some ⟨p.mb, 0, none⟩)])) (hg : (w3.alloc (.cells #[.pointer (some ⟨p.mb, 0, none⟩)] 65)).grownBy w4 (Value.slice A k cap).ownBlock) :
    Hid (Half W (w4.setCell ⟨W.heap.size, 0, none⟩ v') v' (k + 1) (ps ++ [p])) ∧ w4.cell? ⟨W.heap.size, 0, none⟩ = some (.slice A k cap) ∧ w4.frozen? ⟨W.heap.size, 0, none⟩ = false := by
  have hbA : Below w3.heap.size w3 (w3.alloc (.cells #[.pointer (some ⟨p.mb, 0, none⟩)] 65)) := (Below.refl _ _).alloc (Nat.le_refl _) _
  have hb2 := below_two hb hbA
  have hrow := own_below h.row hb2
  have hg' := Turn.of_grown (bs := (Value.slice A k cap).ownBlock.toList) hg (fun g e => by rw [e]; simp)
  have hbl : Blk w4 W.heap.size 68 #[.slice A k cap, .int .i64 0] := hg'.blk (h.blk.below hb2 h.blk.lt) fun hm => by
    have hm' : (Value.slice A k cap).ownBlock = some W.heap.size := by simpa using hm
    obtain ⟨cs, hC⟩ := own_isBlk hrow hm'
    exact hC.ne_ (h.blk.below hb2 h.blk.lt) (by decide) rfl
  have ht : Turn [W.heap.size] w4 (w4.setCell ⟨W.heap.size, 0, none⟩ v') := (Turn.refl _ _).setCell (p := ⟨W.heap.size, 0, none⟩) (.inl (by simp)) _
  have hkeep : ∀ q, RepB w3 W.heap.size q c22 0 (newS c22) → RepB (w4.setCell ⟨W.heap.size, 0, none⟩ v') W.heap.size q c22 0 (newS c22) := fun q hq => by
    refine ((hq.below hbA).turnT hg' fun g hm => ?_).turnT ht fun g hm => ?_
    · obtain ⟨cs, hC⟩ := own_isBlk hrow (by simpa using hm)
      exact ⟨_, cs, hC, .inl rfl⟩
    · rw [List.mem_singleton] at hm
      subst hm
      exact ⟨_, _, hbl, .inr (.inl rfl)⟩
  refine ⟨Lib.hid ⟨hbl.set_ 0 v', ht.own (by rw [List.map_append]; exact ho) fun g hg hm => ?_, by rw [List.length_append, h.len]; rfl, fun q hq => ?_, ?_, ?_⟩, hbl.cell 0, hbl.frozen 0⟩
  · obtain ⟨cs, hC⟩ := own_isBlk ho hg
    exact hC.ne_ hbl (by decide) (List.mem_singleton.1 hm)
  · rcases List.mem_append.1 hq with hq | hq
    · exact hkeep q ((h.r q hq).below hb)
    · rw [List.mem_singleton] at hq
      subst hq
      exact hkeep q (hr.base h.b.size)
  · intro i j hi hj hij b hbi
    rw [List.length_append, List.length_singleton] at hj
    have hil : i < ps.length := by omega
    rw [List.getElem_append_left hil] at hbi
    by_cases hjl : j < ps.length
    · rw [List.getElem_append_left hjl]
      exact h.ap i j hil hjl hij b hbi
    · have hje : j = ps.length := by omega
      subst hje
      rw [List.getElem_append_right (Nat.le_refl _)]
      simp only [Nat.sub_self, List.getElem_cons_zero]
      intro hm
      have h1 := (h.r _ (List.getElem_mem hil)).wsLt b hbi
      have h2 := hr.wsLt b hm
      omega
  · exact (below_app (below_two h.b hb2) hrow hg).setCell (p := ⟨W.heap.size, 0, none⟩) (Nat.le_refl _) _
theorem half0 (W : World) : Half W (W.alloc (.cells #[.slice none 0 0, .int .i64 0] 68)) (.slice none 0 0) 0 [] :=
  ⟨Blk.new _ _ _, World.ownsRow_nil _ _ _ _, rfl, fun p hp => by simp at hp, fun i j hi => by simp at hi, (Below.refl _ _).alloc (Nat.le_refl _) _⟩
theorem hostsNewB (w : World) : Calls Tryz.prog 58 #[.slice (some ⟨w.heap.size, 0, none⟩) 4 4, .int .i64 31, .int .i64 20, .int .i64 2, .int .i64 2] (w.alloc (.cells #[.string ⟨#[97]⟩, .string ⟨#[98]⟩, .string ⟨#[99]⟩, .string ⟨#[100]⟩] 9)) fun e w' => ∃ p : RBp, e = .returned (.pointer (some ⟨p.mb, 0, none⟩)) ∧ RepB w' w.heap.size p c22 0 (newS c22) ∧ Below w.heap.size w w' := by
  have hb : Below w.heap.size w (w.alloc (.cells #[.string ⟨#[97]⟩, .string ⟨#[98]⟩, .string ⟨#[99]⟩, .string ⟨#[100]⟩] 9)) := (Below.refl _ _).alloc (Nat.le_refl _) _
  have hT := txIn_lit (w := w) (l := c22.hosts) (by decide) (by decide +kernel)
  exact (refNewB c22 (some ⟨w.heap.size, 0, none⟩) 4 _ _ hT.r (Nat.le_refl _) (by decide)).mono fun e w' ⟨p, a, b, d⟩ => ⟨p, a, b.base hb.size, below_two hb d⟩
set_option maxRecDepth 100000 in
set_option maxHeartbeats 2000000 in
theorem refNewDuo (W : World) : Calls Tryz.prog 23 #[] W (NewDuoR W) := by
  obtain ⟨i0, hi0, hz0, hz1, hz2⟩ := info_parts info_balp
  have HS := Lib.hid (half0 W)
  have HE := Lib.hid (fun (w : World) v ps => halfEnd (W := W) (w := w) (v := v) (ps := ps))
  go_enter Tryz.func23, Tryz.ntmps23
  go_wp2_with fail
  generalize hW0 : W.alloc (.cells #[.slice none 0 0, .int .i64 0] 68) = W0 at *
  clear hW0
  go_loopw [2] (fun iv wr => ∃ (k : Nat) (A : Option Addr) (cap : Nat) (ps : List RBp), k ≤ 2 ∧ iv = .int .i64 (k : Int) ∧ Hid (Half W wr (.slice A k cap) k ps)) (fun iv _ => 3 - (intOf iv).toNat)
  case atStart => exact ⟨0, none, 0, [], by omega, rfl, HS⟩
  case round =>
    obtain ⟨k, A, cap, ps, hk, rfl, hH⟩ := hrel
    by_cases hlt : k < 2
    · have hlt2 : (k : Int) < 2 := by omega
      have HC : Hid (∀ w', Below wr.heap.size wr w' → w'.cell? ⟨W.heap.size, 0, none⟩ = some (.slice A k cap) ∧ w'.ownsRow W.heap.size 65 1 (.slice A k cap) k (ps.map fun p => .pointer (some ⟨p.mb, 0, none⟩))) := Lib.hid fun w' hb => ⟨(hH.out.blk.below hb hH.out.blk.lt).cell 0, own_below hH.out.row hb⟩
      have HN : Hid (Calls Tryz.prog 58 #[.slice (some ⟨wr.heap.size, 0, none⟩) 4 4, .int .i64 31, .int .i64 20, .int .i64 2, .int .i64 2] (wr.alloc (.cells #[.string ⟨#[97]⟩, .string ⟨#[98]⟩, .string ⟨#[99]⟩, .string ⟨#[100]⟩] 9)).drew fun e w' => ∃ p : RBp, e = .returned (.pointer (some ⟨p.mb, 0, none⟩)) ∧ RepB w' wr.heap.size p c22 0 (newS c22) ∧ Below wr.heap.size wr.drew w') := Lib.hid (hostsNewB wr.drew)
      have HST : Hid (∀ (w3 w4 : World) (p : RBp) v', Below wr.heap.size wr w3 → RepB w3 wr.heap.size p c22 0 (newS c22) → w4.ownsRow W.heap.size 65 1 v' (k + 1) (ps.map (fun p => .pointer (some ⟨p.mb, 0, none⟩)) ++ [.pointer (some ⟨p.mb, 0, none⟩)]) → (w3.alloc (.cells #[.pointer (some ⟨p.mb, 0, none⟩)] 65)).grownBy w4 (Value.slice A k cap).ownBlock → Hid (Half W (w4.setCell ⟨W.heap.size, 0, none⟩ v') v' (k + 1) (ps ++ [p])) ∧ w4.cell? ⟨W.heap.size, 0, none⟩ = some (.slice A k cap) ∧ w4.frozen? ⟨W.heap.size, 0, none⟩ = false) := Lib.hid fun w3 w4 p v' h1 h2 h3 h4 => hH.out.step h1 h2 h3 h4
      have hRef := Below.refl wr.heap.size wr
      have HSZ := Lib.hid hH.out.b.size
      have c0 : wr.drew.cell? ⟨W.heap.size, 0, none⟩ = some (.slice A k cap) := (HC.out _ (bl_drew hRef)).1
      have c0a : (wr.alloc (.cells #[.string ⟨#[97]⟩, .string ⟨#[98]⟩, .string ⟨#[99]⟩, .string ⟨#[100]⟩] 9)).drew.cell? ⟨W.heap.size, 0, none⟩ = some (.slice A k cap) := (HC.out _ (bl_drew (hRef.alloc (Nat.le_refl _) (.cells #[.string ⟨#[97]⟩, .string ⟨#[98]⟩, .string ⟨#[99]⟩, .string ⟨#[100]⟩] 9)))).1
      clear hH HS HE
      generalize hxs : ps.map (fun p => (Value.pointer (some ⟨p.mb, 0, none⟩))) = xs at *
      go_wp2_with fail
      go_region_law (first
        | (go_simp
           go_at_call 58
           refine HN.out.mono ?_
           rintro e w3 ⟨p, rfl, hr3, hb3⟩
           have hb3 := bl_undrew hb3
           have hbA := below_two hb3 ((Below.refl w3.heap.size w3).alloc (Nat.le_refl _) (.cells #[.pointer (some ⟨p.mb, 0, none⟩)] 65))
           have c3 := (HC.out _ hb3).1
           have c3a := (HC.out _ hbA).1
           have c3 := (HC.out _ hb3).1
           have c3a := (HC.out _ hbA).1
           have HW := Lib.hid (HC.out _ hbA).2
           have HR2 := Lib.hid (blk_reads (Blk.new w3 65 [Value.pointer (some ⟨p.mb, 0, none⟩)].toArray))
           have HBW := Lib.hid (Nat.le_trans HSZ.out hbA.size)
           have HS3 := Lib.hid (fun w4 v' => HST.out w3 w4 p v' hb3 hr3))
        | (refine step_append_any _ rfl (.tmp 13) (.tmp 16) _ rfl W.heap.size 65 i0 _ 1 8 Tryz.underlying66 hi0 hz0 hz1 hz2 rfl (by omega) (.slice A k cap) k _ (by simp [Act.eval]) HW.out _ (some ⟨w3.heap.size, 0, none⟩) 1 1 _ (by simp [Act.eval]) HR2.out (by simp [Value.oneCell']) (by simp only [maxLen]; omega) (by omega) HBW.out ?_
           intro v4 w4 hown4 hgrow4 _
           obtain ⟨HP, cc, cf⟩ := HS3.out w4 v4 hown4 hgrow4
           obtain ⟨A4, cap4, hv4, _⟩ := own_slice hown4
           subst hv4))
      all_goals
        go_wp2
        go_roundw
        case rel => exact ⟨k + 1, A4, cap4, ps ++ [p], by omega, by go_num, HP⟩
        case measure => simp [intOf]; omega
    · obtain rfl : k = 2 := by omega
      have HQ := Lib.hid (HE.out wr _ ps hH.out)
      clear hH HE HS
      go_wp2
      go_ret
      exact HQ.out
end Go.Proofs.YteilefpjfbholaaGreatDoor
