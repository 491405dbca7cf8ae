/-
  The reference's One at any number, and Run.
-/
import Derived.Test.YteilefpjfbholaaGreatDoorRefOne
import Derived.Test.YteilefpjfbholaaGreatDoorPlayed
namespace Go.Proofs.YteilefpjfbholaaGreatDoor
open Go.RowKit

section
variable {W W' : World} {B dp n n' : Nat} {v : Value} {p q : RBp} {r : Nat × DS}
theorem OneR.more {e : Ending} (h : OneR B dp v n r W e W') (hn : n ≤ n') : OneR B dp v n' r W e W' := by
  obtain ⟨a, p', q', hD, hT⟩ := h
  exact ⟨a, p', q', ⟨hD.blk, hD.row, hD.x.more hn, hD.y.more hn, hD.ap, hD.b⟩, hT⟩
theorem refOne_any {x : Nat} {d : DS} (hx : x ≤ 9223372036854775807) (h : DuoR W B dp v p q n d.2 d.1) (hB : B ≤ W.heap.size) (hn : n ≤ 900) (hs1 : hosts d.1.1.st = c22.hosts) (hs2 : hosts d.1.2.st = c22.hosts) {k : Nat} (i1 : BInv k d.2 d.1.1) (i2 : BInv k d.2 d.1.2) (hk : k ≤ 100000) (hnow : d.2 ≤ 1000000) (hu1 : ∀ y ∈ d.1.1.fs.2, U64 y.key) (hu2 : ∀ y ∈ d.1.2.fs.2, U64 y.key) :
    Calls Tryz.prog 59 #[.pointer (some ⟨dp, 0, none⟩), .int .i64 (x : Int)] W (OneR B dp v (n + 1) (oneS x d) W) := by
  by_cases h3 : x % 8 = 3
  · exact refOne_look hx h hB hn h3
  by_cases h4 : x % 8 = 4
  · exact refOne_drain hx h hB hn hs1 hs2 h4
  by_cases h5 : x % 8 = 5
  · exact refOne_tick hx h hnow h5
  by_cases h6 : x % 8 = 6
  · exact (refOne_over hx h hB i1 i2 hk hnow hu1 hu2 h6).mono fun _ _ a => a.more (Nat.le_succ n)
  by_cases h7 : x % 8 = 7
  · exact (refOne_both hx h hB hn hs1 hs2 i1 i2 hnow h7).mono fun _ _ a => a.more (Nat.le_succ n)
  exact refOne_pick hx h hB hn hs1 hs2 i1 i2 hnow ⟨h3, h4, h5, h6, h7⟩
end
/-- What stands in a duo behind so many numbers, in plain words. -/
structure DInv (k : Nat) (d : DS) : Prop where
  h1 : hosts d.1.1.st = c22.hosts
  h2 : hosts d.1.2.st = c22.hosts
  i1 : BInv k d.2 d.1.1
  i2 : BInv k d.2 d.1.2
  nw : d.2 ≤ 8 * k
  u1 : ∀ y ∈ d.1.1.fs.2, U64 y.key
  u2 : ∀ y ∈ d.1.2.fs.2, U64 y.key
theorem look_hosts (c : BCfg) (s : BS) (z : ByteArray) (b : Bool) : hosts (lookB c s z b).2.st = hosts s.st := by
  have h : hosts (lookR1 c s z b).1 = hosts s.st := by
    unfold lookR1 lookAll
    split
    · rfl
    · split
      · rename_i q hq
        exact set_same_host hq lookSt_host
      · rfl
  unfold lookB
  dsimp only
  split
  · exact h
  · exact h
theorem pick_hosts (c : BCfg) (s : BS) (k : Nat) (now : Int) : (pickS c s k now).2.st = s.st := by
  unfold pickS
  split
  · split
    · rfl
    · split <;> rfl
  · rfl
theorem pick_keys {c : BCfg} {s : BS} {k : Nat} {now : Int} (hU : U64 k) (h : ∀ y ∈ s.fs.2, U64 y.key) : ∀ y ∈ (pickS c s k now).2.fs.2, U64 y.key := by
  intro y hy
  unfold pickS at hy
  split at hy
  · split at hy
    · rcases putF_memG hy with rfl | hy
      · exact hU
      · exact h y hy
    · split at hy
      · exact h y hy
      · rcases putF_memG hy with rfl | hy
        · exact hU
        · exact h y hy
  · exact h y hy
theorem look_keys {c : BCfg} {s : BS} {z : ByteArray} {b : Bool} (h : ∀ y ∈ s.fs.2, U64 y.key) : ∀ y ∈ (lookB c s z b).2.fs.2, U64 y.key := by
  intro y hy
  unfold lookB at hy
  dsimp only at hy
  split at hy
  · exact h y (List.mem_filter.1 hy).1
  · exact h y hy
theorem over_keys {x y : BS} {now : Nat} (hx : ∀ z ∈ x.fs.2, U64 z.key) (hy : ∀ z ∈ y.fs.2, U64 z.key) : (∀ z ∈ (overS x y now).2.1.fs.2, U64 z.key) ∧ ∀ z ∈ (overS x y now).2.2.fs.2, U64 z.key := by
  unfold overS
  split
  · exact ⟨hx, hy⟩
  · refine ⟨hx, fun z hz => ?_⟩
    rcases addF_mem _ _ hz with hz | hz
    · exact hy z hz
    · exact hx z (List.mem_filter.1 hz).1
theorem over_hosts (x y : BS) (now : Nat) : (overS x y now).2.1.st = x.st ∧ (overS x y now).2.2.st = y.st := by
  unfold overS
  split <;> exact ⟨rfl, rfl⟩
structure AInv (k now : Nat) (x : BS) : Prop where
  h : hosts x.st = c22.hosts
  i : BInv k now x
  u : ∀ y ∈ x.fs.2, U64 y.key
theorem act_inv {k now v : Nat} {x y : BS} (hx : AInv k now x) (hy : AInv k now y) (hn : now ≤ 1000000) (hv : v ≤ 9223372036854775807) : AInv (k + 1) now (actXY v x y now).2.1 ∧ AInv (k + 1) now (actXY v x y now).2.2 := by
  have hy' : AInv (k + 1) now y := ⟨hy.h, hy.i.more (Nat.le_succ k) (Nat.le_refl _), hy.u⟩
  unfold actXY
  split
  · exact ⟨⟨(look_hosts _ _ _ _).trans hx.h, (hx.i.look _ _).more (Nat.le_succ k) (Nat.le_refl _), look_keys hx.u⟩, hy'⟩
  · split
    · exact ⟨⟨hx.h, hx.i.drain _ _, hx.u⟩, hy'⟩
    · split
      · have ho := over_hosts x y now
        have hk := over_keys (now := now) hx.u hy.u
        have hi := hx.i.over hy.i
        exact ⟨⟨by rw [ho.1]; exact hx.h, hi.1, hk.1⟩, ⟨by rw [ho.2]; exact hy.h, hi.2, hk.2⟩⟩
      · exact ⟨⟨by rw [pick_hosts]; exact hx.h, (hx.i.pick hx.h hn _).1.more (Nat.le_succ k) (Nat.le_refl _), pick_keys (by unfold U64; omega) hx.u⟩, hy'⟩
theorem DInv.one {k v : Nat} {d : DS} (h : DInv k d) (hk : k ≤ 100000) (hv : v ≤ 9223372036854775807) : DInv (k + 1) (oneS v d).2 := by
  have hn : d.2 ≤ 1000000 := by have := h.nw; omega
  have hU0 : U64 0 := by unfold U64; decide
  have hx : AInv k d.2 d.1.1 := ⟨h.h1, h.i1, h.u1⟩
  have hy : AInv k d.2 d.1.2 := ⟨h.h2, h.i2, h.u2⟩
  unfold oneS
  split
  · have hm : v / 8 % 8 < 8 := Nat.mod_lt _ (by omega)
    have hnw := h.nw
    exact ⟨h.h1, h.h2, h.i1.more (Nat.le_succ k) (Nat.le_add_right _ _), h.i2.more (Nat.le_succ k) (Nat.le_add_right _ _), by show d.2 + (1 + v / 8 % 8) ≤ 8 * (k + 1); omega, h.u1, h.u2⟩
  · split
    · unfold bothS
      exact ⟨by show hosts (pickS c22 d.1.1 0 d.2).2.st = _; rw [pick_hosts]; exact h.h1, by show hosts (pickS c22 d.1.2 0 d.2).2.st = _; rw [pick_hosts]; exact h.h2, (h.i1.pick h.h1 hn _).1.more (Nat.le_succ k) (Nat.le_refl _), (h.i2.pick h.h2 hn _).1.more (Nat.le_succ k) (Nat.le_refl _), by show d.2 ≤ 8 * (k + 1); have := h.nw; omega, pick_keys hU0 h.u1, pick_keys hU0 h.u2⟩
    · have hnw : d.2 ≤ 8 * (k + 1) := by have := h.nw; omega
      split
      · obtain ⟨a, b⟩ := act_inv (v := v) hy hx hn hv
        exact ⟨b.h, a.h, b.i, a.i, hnw, b.u, a.u⟩
      · obtain ⟨a, b⟩ := act_inv (v := v) hx hy hn hv
        exact ⟨a.h, b.h, a.i, b.i, hnw, a.u, b.u⟩
theorem DInv.more {k k' : Nat} {d : DS} (h : DInv k d) (hk : k ≤ k') : DInv k' d :=
  ⟨h.h1, h.h2, h.i1.more hk (Nat.le_refl _), h.i2.more hk (Nat.le_refl _), by have := h.nw; omega, h.u1, h.u2⟩
theorem DInv.new : DInv 0 ((newS c22, newS c22), 0) :=
  ⟨rfl, rfl, BInv.new, BInv.new, Nat.le_refl _, fun y hy => by simp [newS] at hy, fun y hy => by simp [newS] at hy⟩
section
variable {W W' W1 : World} {B dp n n' now : Nat} {v : Value} {p q : RBp} {st : BS × BS}
/-- Rows of numbers may turn. -/
theorem DuoR.turnI {bs : List Nat} (h : DuoR W B dp v p q n now st) (ht : Turn bs W W') (hG : ∀ g ∈ bs, ∃ cs, Blk W g 3 cs) : DuoR W' B dp v p q n now st := by
  have hG2 : ∀ g ∈ bs, ∃ t cs, Blk W g t cs ∧ (t = 65 ∨ t = 68 ∨ t = 87 ∨ t = 3) := fun g hg => by
    obtain ⟨cs, hC⟩ := hG g hg
    exact ⟨_, cs, hC, .inr (.inr (.inr rfl))⟩
  refine ⟨ht.blk h.blk fun hm => ?_, ht.own h.row fun g hg hm => ?_, h.x.turnT ht hG2, h.y.turnT ht hG2, h.ap, h.b⟩
  · obtain ⟨cs, hC⟩ := hG _ hm
    exact hC.ne_ h.blk (by decide) rfl
  · obtain ⟨cs, hC⟩ := hG _ hm
    obtain ⟨cs', hD⟩ := own_isBlk h.row hg
    exact hD.ne_ hC (by decide) rfl
theorem TurnR.beyondL {bs : List Nat} (h : TurnR B W W1) (ht : Turn bs W1 W') (hg : ∀ g ∈ bs, W.heap.size ≤ g) : TurnR B W W' := by
  obtain ⟨cs, h1, hs⟩ := h
  exact ⟨cs, h1.trans ht (fun c hc => .inr (hg c hc)), hs⟩
/-- What stands in a run of the reference. -/
structure RRn (W wr : World) (B dp : Nat) (v : Value) (p q : RBp) (i : Nat) (r : List Int × DS) (o : Value) : Prop where
  d : DuoR wr B dp v p q i r.2.2 r.2.1
  o : wr.ownsRow W.heap.size 3 1 o i (r.1.map intV)
  t : TurnR B W wr
  i : DInv i r.2
/-- What an answer c makes of a run's state. -/
def StepR (W : World) (B dp : Nat) (v : Value) (i : Nat) (xs : List Value) (A : Option Addr) (cap : Nat) (r' : List Int × DS) (c : Int) (w5 : World) : Prop :=
  (w5.alloc (.cells #[.int .i64 c] 3)).ownsRow W.heap.size 3 1 (.slice A i cap) i xs ∧ W.heap.size ≤ (w5.alloc (.cells #[.int .i64 c] 3)).heap.size ∧
  ∀ v' W', W'.ownsRow W.heap.size 3 1 v' (i + 1) (xs ++ [.int .i64 c]) → (w5.alloc (.cells #[.int .i64 c] 3)).grownBy W' (Value.slice A i cap).ownBlock →
    ∃ A2 cap2 p' q', v' = .slice A2 (i + 1) cap2 ∧ Hid (RRn W W' B dp v p' q' (i + 1) r' (.slice A2 (i + 1) cap2))
theorem stepR {wr w5 : World} {A : Option Addr} {cap i : Nat} {r : List Int × DS} {d' : DS} {c : Int} (h : RRn W wr B dp v p q i r (.slice A i cap)) (hd : ∃ p' q', DuoR w5 B dp v p' q' (i + 1) d'.2 d'.1) (ht : TurnR B wr w5) (hi : DInv (i + 1) d') :
    StepR W B dp v i (r.1.map intV) A cap (r.1 ++ [c], d') c w5 := by
  obtain ⟨p', q', hd⟩ := hd
  have hbA := (Below.refl w5.heap.size w5).alloc (Nat.le_refl _) (.cells #[.int .i64 c] 3)
  have ho := own_below (ht.own h.o) hbA
  have htt := (h.t.then ht).thenB hbA
  have hdd := hd.below hbA
  refine ⟨ho, ?_, fun v' W' h1 h2 => ?_⟩
  · obtain ⟨_, t1, _⟩ := htt
    exact t1.size
  · obtain ⟨A2, cap2, rfl, _⟩ := own_slice h1
    have htg : Turn (Value.slice A i cap).ownBlock.toList (w5.alloc (.cells #[.int .i64 c] 3)) W' := Turn.of_grown h2 fun g hg => by simpa using hg
    refine ⟨A2, cap2, p', q', rfl, Lib.hid ⟨hdd.turnI htg fun g hg => own_isBlk ho (by simpa using hg), ?_, htt.beyondL htg fun g hg => (ho.lt g (by simpa using hg)).1, hi⟩⟩
    rw [List.map_append]
    exact h1
/-- A number of a run. -/
theorem refStep {wr : World} {A : Option Addr} {cap i : Nat} {l : List Int} {d0 : DS} (h : RRn W wr B dp v p q i (runS (l.take i) d0) (.slice A i cap)) (hB : B ≤ W.heap.size) (hil : i < l.length) (hi : i ≤ 800) (hv : l[i] ≤ 9223372036854775807) :
    Calls Tryz.prog 59 #[.pointer (some ⟨dp, 0, none⟩), .int .i64 l[i]] wr fun e w5 => ∃ c : Int, e = .returned (.int .i64 c) ∧ StepR W B dp v i ((runS (l.take i) d0).1.map intV) A cap (runS (l.take (i + 1)) d0) c w5 := by
  have hsz : B ≤ wr.heap.size := by
    obtain ⟨_, t1, _⟩ := h.t
    exact Nat.le_trans hB t1.size
  by_cases hneg : l[i] < 0
  · refine (rone_neg l[i] hneg).mono fun e w5 ⟨a, b⟩ => ⟨-1, a, ?_⟩
    subst b
    rw [stepS_of hil hneg]
    exact stepR h ⟨p, q, h.d.blk, h.d.row, h.d.x.more (Nat.le_succ i), h.d.y.more (Nat.le_succ i), h.d.ap, h.d.b⟩ (TurnR.refl _ _) (h.i.more (Nat.le_succ i))
  · obtain ⟨x, hx⟩ := Int.eq_ofNat_of_zero_le (by omega : 0 ≤ l[i])
    rw [stepS_on hil hx, hx]
    have hx2 : x ≤ 9223372036854775807 := by omega
    have hnw := h.i.nw
    refine (refOne_any hx2 h.d hsz (by omega) h.i.h1 h.i.h2 h.i.i1 h.i.i2 (by omega) (by omega) h.i.u1 h.i.u2).mono fun e w5 ⟨a, p', q', hD, hT⟩ => ⟨_, a, ?_⟩
    exact stepR h ⟨p', q', hD⟩ hT (h.i.one (by omega) hx2)
def RunR (B dp : Nat) (v : Value) (m : Nat) (r : List Int × DS) (W : World) (e : Ending) (w' : World) : Prop :=
  ∃ A' cap, e = .returned (.slice A' m cap) ∧ w'.ownsRow W.heap.size 3 1 (.slice A' m cap) m (r.1.map intV) ∧ ∃ p q, DuoR w' B dp v p q m r.2.2 r.2.1 ∧ TurnR B W w'
set_option maxRecDepth 100000 in
set_option maxHeartbeats 2000000 in
theorem refRun {A : Option Addr} {ca : Nat} {l : List Int} (h : DuoR W B dp v p q 0 0 st) (hB : B ≤ W.heap.size) (hI : DInv 0 (st, 0)) (hl : l.length ≤ 800) (hv : ∀ x ∈ l, x ≤ 9223372036854775807)
    (hr : ∀ W', Below B W W' → Reads W' W'.heap.size 1 A l.length (l.map intV)) :
    Calls Tryz.prog 24 #[.pointer (some ⟨dp, 0, none⟩), .slice A l.length ca] W (RunR B dp v l.length (runS l (st, 0)) W) := by
  obtain ⟨i0, hi0, hz0, hz1, hz2⟩ := info_parts info_num
  have cl := h.blk.cell 1
  have fl := h.blk.frozen 1
  have HR0 : Hid (RRn W (W.setCell ⟨dp, 1, none⟩ (.int .i64 0)) B dp v p q 0 (runS (l.take 0) (st, 0)) (.slice none 0 0)) := Lib.hid (by
    have ht : Turn [dp] W (W.setCell ⟨dp, 1, none⟩ (.int .i64 0)) := (Turn.refl [dp] W).setCell (p := ⟨dp, 1, none⟩) (.inl (by simp)) _
    have hG : ∀ b ∈ [dp], ∃ t cs, Blk W b t cs ∧ (t = 65 ∨ t = 68 ∨ t = 87 ∨ t = 3) := fun b hb => by
      rw [List.mem_singleton] at hb
      subst hb
      exact ⟨_, _, h.blk, .inr (.inl rfl)⟩
    refine ⟨⟨h.blk.set_ 1 (.int .i64 0), ht.own h.row fun g hg hm => ?_, h.x.turnT ht hG, h.y.turnT ht hG, h.ap, h.b⟩, World.ownsRow_nil _ _ _ _, ⟨[dp], ht, fun b hb => ?_⟩, hI⟩
    · obtain ⟨cs, hC2⟩ := own_isBlk h.row hg
      exact hC2.ne_ h.blk (by decide) (List.mem_singleton.1 hm)
    · rw [List.mem_singleton] at hb
      subst hb
      exact ⟨h.b, fun t cs hC2 => ⟨fun e => hC2.ne_ h.blk (by rw [e]; decide) rfl, fun e => hC2.ne_ h.blk (by rw [e]; decide) rfl⟩⟩)
  have HRd := Lib.hid (fun W' (hb : Below B W W') i (hi : i < l.length) => (show ∃ ad, A = some ad ∧ W'.cell? (ad.add i) = some (.int .i64 l[i]) from by
    obtain ⟨ad, u, hA, _, hu, hc⟩ := (hr W' hb).at_ hi
    refine ⟨ad, hA, ?_⟩
    rw [hc, ← hu]
    simp [hi, intV]))
  have HS : Hid (∀ wr p q i A' cap (hil : i < l.length), RRn W wr B dp v p q i (runS (l.take i) (st, 0)) (.slice A' i cap) → Calls Tryz.prog 59 #[.pointer (some ⟨dp, 0, none⟩), .int .i64 l[i]] wr fun e w5 => ∃ c : Int, e = .returned (.int .i64 c) ∧ StepR W B dp v i ((runS (l.take i) (st, 0)).1.map intV) A' cap (runS (l.take (i + 1)) (st, 0)) c w5) := Lib.hid fun wr p q i A' cap hil hR => refStep hR hB hil (by omega) (hv _ (List.getElem_mem hil))
  have HBl : Hid (∀ wr, TurnR B W wr → Below B W wr) := Lib.hid fun wr h => h.below hB
  have HFin : Hid (∀ wr p q A' cap, RRn W wr B dp v p q l.length (runS (l.take l.length) (st, 0)) (.slice A' l.length cap) → RunR B dp v l.length (runS l (st, 0)) W (.returned (.slice A' l.length cap)) wr) := Lib.hid fun wr p q A' cap hR => by
    rw [List.take_length] at hR
    exact ⟨A', cap, rfl, hR.o, p, q, hR.d, hR.t⟩
  clear hr hv hI h hB
  go_enter Tryz.func24, Tryz.ntmps24
  go_wp2_with fail
  generalize W.setCell ⟨dp, 1, none⟩ (.int .i64 0) = W0 at *
  go_loopw [5, 6] (fun sv iv wr => ∃ (i : Nat) (A' : Option Addr) (cap : Nat) (p q : RBp), i ≤ l.length ∧ sv = .slice A' i cap ∧ iv = .int .i64 (i : Int) ∧ Hid (RRn W wr B dp v p q i (runS (l.take i) (st, 0)) (.slice A' i cap))) (fun _ iv _ => l.length + 1 - (intOf iv).toNat)
  case atStart => exact ⟨0, none, 0, p, q, Nat.zero_le _, rfl, rfl, HR0⟩
  case round =>
    obtain ⟨i, A', cap, p1, q1, hile, rfl, rfl, hR⟩ := hrel
    clear HR0
    by_cases hil : i < l.length
    · have hil2 : (i : Int) < l.length := by omega
      have hi3 : (i : Int) < 3000 := by omega
      obtain ⟨ad, rfl, ck⟩ := HRd.out wr (HBl.out wr hR.out.t) i hil
      have HO := Lib.hid (HS.out wr p1 q1 i A' cap hil hR.out)
      clear hR HS
      generalize l[i] = x at *
      generalize (runS (l.take i) (st, 0)).1.map intV = xs at *
      go_wp2_with fail
      refine HO.out.mono ?_
      rintro e w5 ⟨c, rfl, h5⟩
      obtain ⟨o5, n5, s5⟩ := h5
      have HRW := Lib.hid o5
      have HSZ := Lib.hid n5
      have HAP := Lib.hid s5
      have HNW : Hid (Reads (w5.alloc (.cells #[.int .i64 c] 3)) (w5.alloc (.cells #[.int .i64 c] 3)).heap.size 1 (some ⟨w5.heap.size, 0, none⟩) 1 [.int .i64 c]) := Lib.hid (blk_reads (Blk.new w5 3 [Value.int .i64 c].toArray))
      clear o5 n5 s5 HO
      go_wp2_with (first
        | (at_builtin
           go_must (refine wpList_append_any _ rfl (.tmp 27) (.tmp 29) _ rfl W.heap.size 3 i0 _ 1 8 Tryz.underlying51 hi0 hz0 hz1 hz2 rfl (by omega) (.slice A' i cap) i xs rfl HRW.out _ (some ⟨w5.heap.size, 0, none⟩) 1 1 [.int .i64 c] rfl HNW.out (by simp [Value.oneCell']) (by simp only [maxLen]; omega) (by omega) HSZ.out ?_)
           intro v1 w6 hown1 hg1 _
           obtain ⟨A2, cap2, p2, q2, hv2, HR2⟩ := HAP.out _ _ hown1 hg1
           subst hv2
           clear hown1 hg1))
      go_roundw
      case rel => exact ⟨i + 1, A2, cap2, p2, q2, by omega, rfl, by go_num, HR2⟩
      case measure => simp [intOf]; omega
    · obtain rfl : i = l.length := by omega
      have hge : ¬ (l.length : Int) < l.length := by omega
      have HF := Lib.hid (HFin.out _ _ _ _ _ hR.out)
      clear hR HFin HS
      go_wp2
      go_ret
      exact HF.out
end
end Go.Proofs.YteilefpjfbholaaGreatDoor
