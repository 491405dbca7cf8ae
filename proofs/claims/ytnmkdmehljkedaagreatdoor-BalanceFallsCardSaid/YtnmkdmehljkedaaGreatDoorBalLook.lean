/-
  A balance's Look.
-/
import Derived.Test.YtnmkdmehljkedaaGreatDoorBalNow
namespace Go.Proofs.YtnmkdmehljkedaaGreatDoor
open Go.RowKit

/-- The states behind a look, and whether the host turned. -/
def lookR1 (c : BCfg) (s : BS) (x : ByteArray) (well : Bool) : List St × Bool := lookAll s.st (idx (hosts s.st) x) fun q => lookSt c.fall c.rise q well
def lookB (c : BCfg) (s : BS) (x : ByteArray) (well : Bool) : (Bool × Nat) × BS :=
  (((lookR1 c s x well).2, remCode (hosts s.st) x), if (lookR1 c s x well).2 = true ∧ well = false then { s with st := (lookR1 c s x well).1, fs := (dropS s.fs x).2 } else { s with st := (lookR1 c s x well).1 })
theorem lookSt_lk {fall rise : Nat} {q : St} {well : Bool} (h1 : fall ≤ 10) (h2 : rise ≤ 10) (hq : q.looks < 10) : (lookSt fall rise q well).1.looks < 10 := by
  unfold lookSt
  split
  · show 0 < 10; omega
  · split
    · split
      · show q.looks + 1 < 10; omega
      · show 0 < 10; omega
    · split
      · show q.looks + 1 < 10; omega
      · show 0 < 10; omega
theorem lookSt_host {fall rise : Nat} {q : St} {well : Bool} : (lookSt fall rise q well).1.host = q.host := by
  unfold lookSt
  split
  · rfl
  · split
    · split <;> rfl
    · split <;> rfl
theorem set_same_host {st : List St} {k : Nat} {q q' : St} (hq : st[k]? = some q) (hh : q'.host = q.host) : hosts (st.set k q') = hosts st := by
  unfold hosts
  rw [List.map_set, hh]
  have hk : k < st.length := (List.getElem?_eq_some_iff.1 hq).1
  have : (st.map (·.host))[k]? = some q.host := by rw [List.getElem?_map, hq]; rfl
  apply List.ext_getElem?
  intro i
  rw [List.getElem?_set]
  split
  · rename_i hi
    subst hi
    rw [this, if_pos (by simpa using hk)]
  · rfl
theorem lookR1_facts {c : BCfg} {s : BS} {x : ByteArray} {well : Bool} (h1 : c.fall ≤ 10) (h2 : c.rise ≤ 10) (hl : ∀ q ∈ s.st, q.looks < 10) : hosts (lookR1 c s x well).1 = hosts s.st ∧ ∀ q ∈ (lookR1 c s x well).1, q.looks < 10 := by
  unfold lookR1 lookAll
  split
  · exact ⟨rfl, hl⟩
  · split
    · rename_i q hq
      refine ⟨set_same_host hq lookSt_host, fun r hr => ?_⟩
      rcases List.mem_or_eq_of_mem_set hr with hr | rfl
      · exact hl r hr
      · exact lookSt_lk h1 h2 (hl q (List.mem_of_getElem? hq))
    · exact ⟨rfl, hl⟩
section
variable {ea : Nat → Addr} {w W W' : World} {lo hi : Nat} {p : BPl} {c : BCfg} {s s' : BS}
theorem BalAt.turnH {st' : List St} (h : BalAt w lo p c s) (hh : HealthR W' lo p.hp c.fall c.rise st' p.sv p.ps) (ht : Turn p.ps w W') (hs : hosts st' = hosts s.st) (hl : ∀ x ∈ st', x.looks < 10) : BalAt W' lo p c { s with st := st' } := by
  obtain ⟨es, cl, hm⟩ := h.f.map.heap
  obtain ⟨es2, cl2, hd⟩ := h.d.heap
  have hn : ∀ {g t cs}, Blk w g t cs → t ≠ 63 → g ∉ p.ps := fun {g t cs} hb hne hg => by
    obtain ⟨x, hx⟩ := h.pbs hg
    exact hb.ne_ hx hne rfl
  have hnm : ∀ {g es cl}, w.heap[g]? = some (.map es cl) → g ∉ p.ps := fun {g es cl} hm hg => by
    obtain ⟨x, hx⟩ := h.pbs hg
    exact blk_not_map hm hx rfl
  refine ⟨ht.blk h.blk (hn h.blk (by decide)), ht.own h.row fun g hg hgp => ?_, hh, h.f.turn ht (hn h.f.blk (by decide)) (hnm hm), h.d.turn ht (hnm hd), h.ne, hs.trans h.same, hl, h.ab⟩
  obtain ⟨x, hx⟩ := h.pbs hgp
  exact own_blk_ne h.row hx (by decide) hg
def LookAs (ea : Nat → Addr) (w : World) (lo hi : Nat) (p : BPl) (c : BCfg) (r : (Bool × Nat) × BS) (W : World) (e : Ending) (w' : World) : Prop :=
  e = .returned (.tuple #[.bool r.1.1, errZ ea r.1.2]) ∧ BNow ea w w' lo hi p c r.2 ∧ Turn p.bs W w'
set_option maxRecDepth 100000 in
set_option maxHeartbeats 1000000 in
theorem bn_look (x : ByteArray) (well : Bool) (h : BNow ea w W lo hi p c s) (hO : BOk c) :
    Calls Tryz.prog 7 #[.pointer (some ⟨p.bp, 0, none⟩), .string x, .bool well] W (LookAs ea w lo hi p c (lookB c s x well) W) := by
  have hlk := h.b.lk
  obtain ⟨hf1, hf2⟩ := lookR1_facts (c := c) (s := s) (x := x) (well := well) hO.f2 hO.r2 hlk
  have HL := Lib.hid (look_op ea x well W h.b.h h.e.t.c5 (fun q hq => Nat.lt_of_lt_of_le (hlk q hq) (by omega)))
  have hps : ∀ b ∈ p.ps, b ∈ p.bs := fun b hb => by unfold BPl.bs; simp [hb]
  have hL1 : Hid (Calls Tryz.prog 19 #[.pointer (some ⟨p.hp, 0, none⟩), .string x, .bool well] W fun e w' => e = .returned (.tuple #[.bool (lookR1 c s x well).2, errZ ea (remCode (hosts s.st) x)]) ∧ BNow ea w w' lo hi p c { s with st := (lookR1 c s x well).1 } ∧ Turn p.bs W w') := Lib.hid (HL.out.mono fun e w' ⟨a, b, t⟩ => by
    refine ⟨?_, h.turn (h.b.turnH b t hf1 hf2) t hps, t.more hps⟩
    rw [a]
    unfold errZ errB remCode
    split <;> rfl)
  have hD1 : Hid (∀ w1, BNow ea w w1 lo hi p c { s with st := (lookR1 c s x well).1 } → Turn p.bs W w1 → Calls Tryz.prog 20 #[.pointer (some ⟨p.fp, 0, none⟩), .string x] w1 fun e w' => ∃ n : Nat, e = .returned (.int .i64 (n : Int)) ∧ BNow ea w w' lo hi p c { s with st := (lookR1 c s x well).1, fs := (dropS s.fs x).2 } ∧ Turn p.bs W w') := Lib.hid fun w1 h1 t1 => by
    refine (drop_all (s := s.fs) x h1.b.f).mono fun e w' ⟨a, b, t⟩ => ⟨_, a, h1.turn (h1.b.turnF b t) t p.fm, t1.then (t.more p.fm)⟩
  have c0 : W.cell? ⟨p.bp, 0, none⟩ = some (.pointer (some ⟨p.hp, 0, none⟩)) := h.b.blk.cell 0
  have HP : Hid (∀ e w', (e = .returned (.tuple #[.bool (lookR1 c s x well).2, errZ ea (remCode (hosts s.st) x)]) ∧ BNow ea w w' lo hi p c (if (lookR1 c s x well).2 = true ∧ well = false then { s with st := (lookR1 c s x well).1, fs := (dropS s.fs x).2 } else { s with st := (lookR1 c s x well).1 }) ∧ Turn p.bs W w') → LookAs ea w lo hi p c (lookB c s x well) W e w') := Lib.hid fun e w' hh => hh
  generalize hLB : lookB c s x well = LB at *
  clear hLB
  generalize lookR1 c s x well = r at *
  generalize errZ ea (remCode (hosts s.st) x) = ev at *
  obtain ⟨st', tb⟩ := r
  dsimp only at hL1 hD1 HP
  clear HL h hf1 hf2 hlk hps
  cases tb <;> cases well
  case true.false =>
    go_enter Tryz.func7, Tryz.ntmps7
    go_wp2_with fail
    refine hL1.out.mono ?_
    rintro e w1 ⟨rfl, hB1, ht1⟩
    have c3 : w1.cell? ⟨p.bp, 3, none⟩ = some (.pointer (some ⟨p.fp, 0, none⟩)) := hB1.b.blk.cell 3
    have HD2 := Lib.hid (hD1.out w1 hB1 ht1)
    clear hB1 ht1 hL1 hD1
    go_wp2_with fail
    refine HD2.out.mono ?_
    rintro e w2 ⟨n, rfl, hB2, ht2⟩
    have HF := Lib.hid (HP.out _ _ ⟨rfl, by rw [if_pos (by simp)]; exact hB2, ht2⟩)
    clear hB2 ht2 HP
    go_wp2
    go_ret2
    exact HF.out
  all_goals
    go_enter Tryz.func7, Tryz.ntmps7
    go_wp2_with fail
    refine hL1.out.mono ?_
    rintro e w1 ⟨rfl, hB1, ht1⟩
    have HF := Lib.hid (HP.out _ _ ⟨rfl, by rw [if_neg (by simp)]; exact hB1, ht1⟩)
    clear hB1 ht1 hL1 hD1 HP
    go_wp2
    go_ret2
    exact HF.out
end
end Go.Proofs.YtnmkdmehljkedaaGreatDoor
