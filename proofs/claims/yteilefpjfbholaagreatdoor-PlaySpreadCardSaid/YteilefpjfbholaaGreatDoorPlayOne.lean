/-
  Package play's one: what a number does to a duo.
-/
import Derived.Test.YteilefpjfbholaaGreatDoorPlayOver
import Derived.Test.YteilefpjfbholaaGreatDoorPlayWalk
namespace Go.Proofs.YteilefpjfbholaaGreatDoor
open Go.RowKit

set_option maxHeartbeats 1000000 in
theorem playHosts_any (w : World) : Calls Tryz.prog 55 #[] w fun e w' => e = .returned (.slice (some ⟨w.heap.size, 0, none⟩) 4 4) ∧ w' = w.alloc (.cells #[.string ⟨#[97]⟩, .string ⟨#[98]⟩, .string ⟨#[99]⟩, .string ⟨#[100]⟩] 9) := by
  go_enter Tryz.func55, Tryz.ntmps55
  go_wp2
  go_ret
  exact ⟨rfl, rfl⟩
theorem hostNo_at (q : Nat) : (#[Value.string ⟨#[97]⟩, .string ⟨#[98]⟩, .string ⟨#[99]⟩, .string ⟨#[100]⟩] : Array Value)[q / 2 % 4]? = some (.string (hostNo q)) := by
  unfold hostNo
  have h : q / 2 % 4 < 4 := Nat.mod_lt _ (by omega)
  generalize q / 2 % 4 = k at *
  match k, h with
  | 0, _ => rfl
  | 1, _ => rfl
  | 2, _ => rfl
  | 3, _ => rfl
theorem hostNo_mem (q : Nat) : hostNo q ∈ c22.hosts := by
  unfold hostNo
  have h : q / 2 % 4 < 4 := Nat.mod_lt _ (by omega)
  generalize q / 2 % 4 = k at *
  match k, h with
  | 0, _ => show sA ∈ [sA, sB, sC, sD]; simp
  | 1, _ => show sB ∈ [sA, sB, sC, sD]; simp
  | 2, _ => show sC ∈ [sA, sB, sC, sD]; simp
  | 3, _ => show sD ∈ [sA, sB, sC, sD]; simp
section
variable {ea : Nat → Addr} {w W W' : World} {lo hi lo2 hi2 k now : Nat} {p q : BPl} {c : BCfg} {s t : BS}
/-- A block of another type is none that a balance writes. -/
theorem BalAt.out {g : Nat} {ty : TypeId} {cs : Array Value} (h : BalAt W lo p c s) (hB : Blk W g ty cs) (h1 : ty ≠ 77) (h2 : ty ≠ 142) (h3 : ty ≠ 120) : g ∉ p.bs := by
  obtain ⟨es, cl, hm⟩ := h.f.map.heap
  obtain ⟨es2, cl2, hd⟩ := h.d.heap
  intro hb
  unfold BPl.bs at hb
  simp only [List.mem_cons] at hb
  rcases hb with rfl | rfl | rfl | rfl | hb
  · exact hB.ne_ h.blk h1 rfl
  · exact hB.ne_ h.f.blk h2 rfl
  · exact blk_not_map hm hB rfl
  · exact blk_not_map hd hB rfl
  · obtain ⟨x, hx⟩ := h.pbs hb
    exact hB.ne_ hx h3 rfl
/-- A duo. -/
structure DuoAt (ea : Nat → Addr) (w W : World) (dp lo hi lo2 hi2 : Nat) (p q : BPl) (k now : Nat) (s : BS × BS) : Prop where
  x : BNow ea w W lo hi p c22 s.1
  y : BNow ea w W lo2 hi2 q c22 s.2
  ap : Apart q p
  dk : Blk W dp 57 #[.pointer (some ⟨p.bp, 0, none⟩), .pointer (some ⟨q.bp, 0, none⟩)]
  ix : BInv k now s.1
  iy : BInv k now s.2
/-- What stands in a play. -/
structure Du (ea : Nat → Addr) (w W : World) (dp np lo hi lo2 hi2 : Nat) (p q : BPl) (k : Nat) (d : DS) : Prop where
  a : DuoAt ea w W dp lo hi lo2 hi2 p q k d.2 d.1
  nk : Blk W np 3 #[.int .i64 (d.2 : Int)]
  nw : d.2 ≤ 8 * k
  nf : w.heap.size ≤ np ∧ np ∉ p.all ∧ np ∉ q.all ∧ np ≠ dp
section
variable {dp np g k' now' : Nat} {d d' : DS} {st st' : BS × BS} {ty : TypeId} {cs : Array Value}
theorem DuoAt.below (h : DuoAt ea w W dp lo hi lo2 hi2 p q k now st) (hb : Below W.heap.size W W') : DuoAt ea w W' dp lo hi lo2 hi2 p q k now st :=
  ⟨h.x.below hb, h.y.below hb, h.ap, h.dk.below hb h.dk.lt, h.ix, h.iy⟩
theorem DuoAt.out (h : DuoAt ea w W dp lo hi lo2 hi2 p q k now st) (hB : Blk W g ty cs) (h1 : ty ≠ 77) (h2 : ty ≠ 142) (h3 : ty ≠ 120) : g ∉ p.bs ++ q.bs := by
  rw [List.mem_append]
  rintro (h4 | h4)
  · exact h.x.b.out hB h1 h2 h3 h4
  · exact h.y.b.out hB h1 h2 h3 h4
theorem DuoAt.turn (h : DuoAt ea w W dp lo hi lo2 hi2 p q k now st) (h1 : BNow ea w W' lo hi p c22 st'.1) (h2 : BNow ea w W' lo2 hi2 q c22 st'.2) (ht : Turn (p.bs ++ q.bs) W W') (i1 : BInv k' now' st'.1) (i2 : BInv k' now' st'.2) : DuoAt ea w W' dp lo hi lo2 hi2 p q k' now' st' :=
  ⟨h1, h2, h.ap, ht.blk h.dk (h.out h.dk (by decide) (by decide) (by decide)), i1, i2⟩
/-- What lies apart from a duo turns. -/
theorem DuoAt.far {bs : List Nat} (h : DuoAt ea w W dp lo hi lo2 hi2 p q k now st) (hE : ErrsB ea w) (ht : Turn bs W W') (hs : ∀ b ∈ bs, w.heap.size ≤ b ∧ b ∉ p.all ∧ b ∉ q.all ∧ b ≠ dp) : DuoAt ea w W' dp lo hi lo2 hi2 p q k now st :=
  ⟨h.x.far hE ht fun b hb => ⟨(hs b hb).1, (hs b hb).2.1⟩, h.y.far hE ht fun b hb => ⟨(hs b hb).1, (hs b hb).2.2.1⟩, h.ap, ht.blk h.dk fun hb => (hs _ hb).2.2.2 rfl, h.ix, h.iy⟩
theorem Du.below (h : Du ea w W dp np lo hi lo2 hi2 p q k d) (hb : Below W.heap.size W W') : Du ea w W' dp np lo hi lo2 hi2 p q k d := ⟨h.a.below hb, h.nk.below hb h.nk.lt, h.nw, h.nf⟩
theorem Du.turn (h : Du ea w W dp np lo hi lo2 hi2 p q k d) (h1 : BNow ea w W' lo hi p c22 d'.1.1) (h2 : BNow ea w W' lo2 hi2 q c22 d'.1.2) (ht : Turn (p.bs ++ q.bs) W W') (e : d'.2 = d.2) (i1 : BInv k' d'.2 d'.1.1) (i2 : BInv k' d'.2 d'.1.2) (hk : k ≤ k') : Du ea w W' dp np lo hi lo2 hi2 p q k' d' :=
  ⟨h.a.turn h1 h2 ht i1 i2, by rw [e]; exact ht.blk h.nk (h.a.out h.nk (by decide) (by decide) (by decide)), by rw [e]; have := h.nw; omega, h.nf⟩
end
def OnePost (ea : Nat → Addr) (w : World) (dp np lo hi lo2 hi2 : Nat) (p q : BPl) (k : Nat) (r : Nat × DS) (W : World) (e : Ending) (w' : World) : Prop :=
  e = .returned (errZ ea r.1) ∧ Du ea w w' dp np lo hi lo2 hi2 p q k r.2 ∧ Turn (np :: (p.bs ++ q.bs)) W w'
/-- What an act of one of two does to both. -/
structure TwoAt (ea : Nat → Addr) (w : World) (lo hi lo2 hi2 : Nat) (p q : BPl) (k now : Nat) (r : BS × BS) (W w' : World) : Prop where
  x : BNow ea w w' lo hi p c22 r.1
  y : BNow ea w w' lo2 hi2 q c22 r.2
  t : Turn (p.bs ++ q.bs) W w'
  ix : BInv k now r.1
  iy : BInv k now r.2
theorem TwoAt.swap (h : TwoAt ea w lo2 hi2 lo hi q p k now (t, s) W W') : TwoAt ea w lo hi lo2 hi2 p q k now (s, t) W W' :=
  ⟨h.y, h.x, h.t.more (fun b hb => by rw [List.mem_append] at hb ⊢; exact hb.symm), h.iy, h.ix⟩
theorem in_left (p q : BPl) : ∀ b ∈ p.bs, b ∈ p.bs ++ q.bs := fun _ hb => List.mem_append.2 (.inl hb)
theorem duo_look (z : ByteArray) (v : Bool) (h : BNow ea w W lo hi p c22 s) (h' : BNow ea w W lo2 hi2 q c22 t) (ha : Apart q p) (i1 : BInv k now s) (i2 : BInv k now t) :
    Calls Tryz.prog 12 #[.pointer (some ⟨p.bp, 0, none⟩), .string z, .bool v] W fun e w' => ∃ b : Bool, e = .returned (.tuple #[.bool b, errZ ea (lookB c22 s z v).1.2]) ∧ TwoAt ea w lo hi lo2 hi2 p q (k + 1) now ((lookB c22 s z v).2, t) W w' :=
  (bn_look z v h ok_22).mono fun _ _ ⟨a, b, tt⟩ => ⟨_, a, b, h'.stay b tt (fun _ hb => hb) ha, tt.more (in_left p q), (i1.look z v).more (Nat.le_succ k) (Nat.le_refl _), i2.more (Nat.le_succ k) (Nat.le_refl _)⟩
theorem duo_drain (z : ByteArray) (v : Bool) (hz : z ∈ c22.hosts) (h : BNow ea w W lo hi p c22 s) (h' : BNow ea w W lo2 hi2 q c22 t) (ha : Apart q p) (i1 : BInv k now s) (i2 : BInv k now t) (hk : k ≤ 100000) :
    Calls Tryz.prog 18 #[.pointer (some ⟨p.bp, 0, none⟩), .string z, .bool v] W fun e w' => e = .returned (errZ ea 0) ∧ TwoAt ea w lo hi lo2 hi2 p q (k + 1) now (drainS s z v, t) W w' :=
  have hd : ∀ b ∈ [p.db], b ∈ p.bs := fun b hb => by rw [List.mem_singleton] at hb; subst hb; simp [BPl.bs]
  (bn_drain z v h hz (hosts_small ok_22 z hz) (by have := i1.nd; omega)).mono fun _ _ ⟨a, b, tt⟩ => ⟨a, b, h'.stay b tt hd ha, (tt.more hd).more (in_left p q), i1.drain z v, i2.more (Nat.le_succ k) (Nat.le_refl _)⟩
theorem duo_over (h : BNow ea w W lo hi p c22 s) (h' : BNow ea w W lo2 hi2 q c22 t) (ha : Apart q p) (hW : CarW w) (hK : ErrsK ea w) (i1 : BInv k now s) (i2 : BInv k now t) (hk : k ≤ 100000) (hn : now ≤ 1000000) :
    Calls Tryz.prog 100 #[.pointer (some ⟨p.bp, 0, none⟩), .pointer (some ⟨q.bp, 0, none⟩), .int .i64 (now : Int)] W fun e w' => e = .returned (errZ ea (overS s t now).1) ∧ TwoAt ea w lo hi lo2 hi2 p q (k + 1) now (overS s t now).2 W w' :=
  (over_any h h' ha hW hK i1 i2 hk hn).mono fun _ _ ⟨a, b, c, tt⟩ => ⟨a, b, c, tt, (i1.over i2).1, (i1.over i2).2⟩
theorem duo_pick (key : Nat) {k' : Nat} (hkk : k ≤ k') (h : BNow ea w W lo hi p c22 s) (h' : BNow ea w W lo2 hi2 q c22 t) (ha : Apart q p) (hU : U64 key) (i1 : BInv k now s) (i2 : BInv k now t) (hn : now ≤ 1000000) :
    Calls Tryz.prog 11 #[.pointer (some ⟨p.bp, 0, none⟩), .int .u64 (key : Int), .int .i64 (now : Int)] W fun e w' => ∃ (x : ByteArray) (kept : Bool), e = .returned (.tuple #[.string x, .bool kept, errZ ea (pickS c22 s key now).1.2.2]) ∧ TwoAt ea w lo hi lo2 hi2 p q k' now ((pickS c22 s key now).2, t) W w' :=
  (bn_pickAny key now h ok_22 hU).mono fun _ _ ⟨a, b, tt⟩ => ⟨_, _, a, b, h'.stay b tt p.fm ha, (tt.more p.fm).more (in_left p q), (i1.pick h.b.same hn key).1.more hkk (Nat.le_refl _), i2.more hkk (Nat.le_refl _)⟩
section
variable {dp np v : Nat} {d : DS}
/-- How an act of one of two ends. -/
theorem Du.two (h : Du ea w W dp np lo hi lo2 hi2 p q k d) {r : BS × BS} (ht : TwoAt ea w lo hi lo2 hi2 p q (k + 1) d.2 r W W') : Du ea w W' dp np lo hi lo2 hi2 p q (k + 1) (r, d.2) ∧ Turn (np :: (p.bs ++ q.bs)) W W' :=
  ⟨h.turn ht.x ht.y ht.t rfl ht.ix ht.iy (Nat.le_succ k), ht.t.more fun _ hb => List.mem_cons_of_mem _ hb⟩
theorem Du.endA (h : Du ea w W dp np lo hi lo2 hi2 p q k d) (h5 : ¬ v % 8 = 5) (h7 : ¬ v % 8 = 7) (hq : ¬ v / 8 % 2 = 1) (ht : TwoAt ea w lo hi lo2 hi2 p q (k + 1) d.2 (actXY v d.1.1 d.1.2 d.2).2 W W') :
    OnePost ea w dp np lo hi lo2 hi2 p q (k + 1) (oneS v d) W (.returned (errZ ea (actXY v d.1.1 d.1.2 d.2).1)) W' := by
  have e : oneS v d = ((actXY v d.1.1 d.1.2 d.2).1, ((actXY v d.1.1 d.1.2 d.2).2, d.2)) := by unfold oneS; rw [if_neg h5, if_neg h7, if_neg hq]
  rw [e]
  exact ⟨rfl, h.two ht⟩
theorem Du.endB (h : Du ea w W dp np lo hi lo2 hi2 p q k d) (h5 : ¬ v % 8 = 5) (h7 : ¬ v % 8 = 7) (hq : v / 8 % 2 = 1) (ht : TwoAt ea w lo2 hi2 lo hi q p (k + 1) d.2 (actXY v d.1.2 d.1.1 d.2).2 W W') :
    OnePost ea w dp np lo hi lo2 hi2 p q (k + 1) (oneS v d) W (.returned (errZ ea (actXY v d.1.2 d.1.1 d.2).1)) W' := by
  have e : oneS v d = ((actXY v d.1.2 d.1.1 d.2).1, (((actXY v d.1.2 d.1.1 d.2).2.2, (actXY v d.1.2 d.1.1 d.2).2.1), d.2)) := by unfold oneS; rw [if_neg h5, if_neg h7, if_pos hq]
  rw [e]
  exact ⟨rfl, h.two (TwoAt.swap ht)⟩
/-- A tick. -/
theorem Du.tick (hE : ErrsB ea w) (h : Du ea w W dp np lo hi lo2 hi2 p q k d) (hb : Below W.heap.size W W') (h5 : v % 8 = 5) : OnePost ea w dp np lo hi lo2 hi2 p q (k + 1) (oneS v d) W (.returned .nilIface) (W'.setCell ⟨np, 0, none⟩ (.int .i64 ((d.2 : Int) + (1 + (v : Int) / 8 % 8)))) := by
  have e : oneS v d = (0, (d.1, d.2 + (1 + v / 8 % 8))) := by unfold oneS; rw [if_pos h5]
  have hc : ((d.2 : Int) + (1 + (v : Int) / 8 % 8)) = ((d.2 + (1 + v / 8 % 8) : Nat) : Int) := by omega
  have h' := h.below hb
  have ht : Turn [np] W' (W'.setCell ⟨np, 0, none⟩ (.int .i64 ((d.2 + (1 + v / 8 % 8) : Nat) : Int))) := (Turn.refl _ W').setCell (p := ⟨np, 0, none⟩) (.inl (by simp)) _
  have hD := h'.a.far hE ht (fun b hb => by rw [List.mem_singleton] at hb; subst hb; exact h.nf)
  have hm : v / 8 % 8 < 8 := Nat.mod_lt _ (by omega)
  have hn := h.nw
  rw [e, hc]
  exact ⟨rfl, ⟨⟨hD.x, hD.y, hD.ap, hD.dk, hD.ix.more (Nat.le_succ k) (Nat.le_add_right _ _), hD.iy.more (Nat.le_succ k) (Nat.le_add_right _ _)⟩, h'.nk.set_ 0 _, by show d.2 + (1 + v / 8 % 8) ≤ 8 * (k + 1); omega, h.nf⟩, (Turn.of_below hb : Turn (np :: (p.bs ++ q.bs)) W W').then (ht.more fun b hb => by rw [List.mem_singleton] at hb; subst hb; exact List.mem_cons_self)⟩
/-- Both pick. -/
theorem Du.both (h : Du ea w W dp np lo hi lo2 hi2 p q k d) (h7 : v % 8 = 7) {w1 : World} (h1 : TwoAt ea w lo hi lo2 hi2 p q k d.2 ((pickS c22 d.1.1 0 d.2).2, d.1.2) W w1) (h2 : TwoAt ea w lo2 hi2 lo hi q p (k + 1) d.2 ((pickS c22 d.1.2 0 d.2).2, (pickS c22 d.1.1 0 d.2).2) w1 W') :
    OnePost ea w dp np lo hi lo2 hi2 p q (k + 1) (oneS v d) W (.returned (errZ ea (if (pickS c22 d.1.1 0 d.2).1.2.2 = 0 then (pickS c22 d.1.2 0 d.2).1.2.2 else (pickS c22 d.1.1 0 d.2).1.2.2))) W' := by
  have e : oneS v d = bothS d := by unfold oneS; rw [if_neg (by omega), if_pos h7]
  rw [e]
  refine ⟨rfl, h.two (r := ((pickS c22 d.1.1 0 d.2).2, (pickS c22 d.1.2 0 d.2).2)) ⟨h2.y, h2.x, h1.t.then (h2.t.more fun b hb => by rw [List.mem_append] at hb ⊢; exact hb.symm), h2.iy, h2.ix⟩⟩
theorem TwoAt.from_ {k' now' : Nat} {r : BS × BS} {W1 : World} (h : TwoAt ea w lo hi lo2 hi2 p q k' now' r W1 W') (hb : Below W.heap.size W W1) : TwoAt ea w lo hi lo2 hi2 p q k' now' r W W' :=
  ⟨h.x, h.y, (Turn.of_below hb : Turn (p.bs ++ q.bs) W W1).then h.t, h.ix, h.iy⟩
theorem hosts_as (v : Nat) (W : World) : Calls Tryz.prog 55 #[] W (HostsAs (v / 8 / 2 % 4) (hostNo (v / 8)) W) :=
  (playHosts_any W).mono fun e w' ⟨a, b⟩ => ⟨a, by rw [b]; exact (Below.refl _ _).alloc (Nat.le_refl _) _, by rw [b]; exact ((Blk.new W 9 _).cell _).trans (hostNo_at (v / 8))⟩
theorem one_any (hv : v ≤ 9223372036854775807) (hE : ErrsB ea w) (hW : CarW w) (hK : ErrsK ea w) (h : Du ea w W dp np lo hi lo2 hi2 p q k d) (hk : k ≤ 100000) :
    Calls Tryz.prog 57 #[.pointer (some ⟨dp, 0, none⟩), .int .i64 (v : Int), .pointer (some ⟨np, 0, none⟩)] W (OnePost ea w dp np lo hi lo2 hi2 p q (k + 1) (oneS v d) W) := by
  have hP := Parts.of v
  have hC : DuoC dp np p.bp q.bp d.2 W := ⟨h.a.dk.cell 0, h.a.dk.cell 1, h.nk.cell 0⟩
  have HH := fun W' => hosts_as v W'
  have hn : d.2 ≤ 1000000 := by have := h.nw; omega
  by_cases h5 : v % 8 = 5
  · refine (one_tick hP hv h5 hn hC (fun W' hb => (h.nk.below hb h.nk.lt).frozen 0) HH).mono ?_
    rintro e w' ⟨rfl, W', hb, rfl⟩
    rw [show ((v / 8 : Nat) : Int) = (v : Int) / 8 by omega]
    exact h.tick hE hb h5
  by_cases h7 : v % 8 = 7
  · have hcase : (errZ ea (pickS c22 d.1.1 0 d.2).1.2.2 = .nilIface ∧ errZ ea (if (pickS c22 d.1.1 0 d.2).1.2.2 = 0 then (pickS c22 d.1.2 0 d.2).1.2.2 else (pickS c22 d.1.1 0 d.2).1.2.2) = errZ ea (pickS c22 d.1.2 0 d.2).1.2.2) ∨ (∃ t x, errZ ea (pickS c22 d.1.1 0 d.2).1.2.2 = .iface t x ∧ errZ ea (if (pickS c22 d.1.1 0 d.2).1.2.2 = 0 then (pickS c22 d.1.2 0 d.2).1.2.2 else (pickS c22 d.1.1 0 d.2).1.2.2) = errZ ea (pickS c22 d.1.1 0 d.2).1.2.2) := by
      by_cases h0 : (pickS c22 d.1.1 0 d.2).1.2.2 = 0
      · exact .inl ⟨by rw [h0]; rfl, by rw [if_pos h0]⟩
      · exact .inr ⟨_, _, by rw [errZ_some ea h0]; rfl, by rw [if_neg h0]⟩
    refine (one_both (Q := fun w' => OnePost ea w dp np lo hi lo2 hi2 p q (k + 1) (oneS v d) W (.returned (errZ ea (if (pickS c22 d.1.1 0 d.2).1.2.2 = 0 then (pickS c22 d.1.2 0 d.2).1.2.2 else (pickS c22 d.1.1 0 d.2).1.2.2))) w') hcase hP hv h7 hC HH (fun W1 hb => ?_)).mono fun e w' ⟨a, b⟩ => a ▸ b
    have hB := h.a.below hb
    refine (duo_pick 0 (Nat.le_refl k) hB.x hB.y hB.ap (by unfold U64; decide) hB.ix hB.iy hn).mono fun e w1 ⟨x, b, a, t⟩ => ⟨x, b, a, ?_, Lib.hid fun W2 hb2 => ?_⟩
    · have t' := t.from_ hb
      have hd := h.turn (d' := (((pickS c22 d.1.1 0 d.2).2, d.1.2), d.2)) t'.x t'.y t'.t rfl t'.ix t'.iy (Nat.le_refl k)
      exact ⟨hd.a.dk.cell 0, hd.a.dk.cell 1, hd.nk.cell 0⟩
    · have t' := t.from_ hb
      have hd := (h.turn (d' := (((pickS c22 d.1.1 0 d.2).2, d.1.2), d.2)) t'.x t'.y t'.t rfl t'.ix t'.iy (Nat.le_refl k)).below hb2
      refine (duo_pick 0 (Nat.le_succ k) hd.a.y hd.a.x hd.a.ap.symm (by unfold U64; decide) hd.a.iy hd.a.ix hn).mono fun e w2 ⟨x2, b2, a2, t2⟩ => ⟨x2, b2, a2, ?_, ?_⟩
      · have hd2 := hd.turn (d' := (((pickS c22 d.1.1 0 d.2).2, (pickS c22 d.1.2 0 d.2).2), d.2)) t2.y t2.x (t2.t.more fun b hb => by rw [List.mem_append] at hb ⊢; exact hb.symm) rfl t2.iy t2.ix (Nat.le_succ k)
        exact ⟨hd2.a.dk.cell 0, hd2.a.dk.cell 1, hd2.nk.cell 0⟩
      · exact h.both h7 t' (t2.from_ hb2)
  by_cases h3 : v % 8 = 3
  · have ea3 : ∀ x y : BS, actXY v x y d.2 = ((lookB c22 x (hostNo (v / 8)) (decide (v / 8 / 8 % 2 = 1))).1.2, ((lookB c22 x (hostNo (v / 8)) (decide (v / 8 / 8 % 2 = 1))).2, y)) := fun x y => by unfold actXY; rw [if_pos h3]
    by_cases hq : v / 8 % 2 = 1
    · refine (one_look (Q := fun w' => OnePost ea w dp np lo hi lo2 hi2 p q (k + 1) (oneS v d) W (.returned (errZ ea (actXY v d.1.2 d.1.1 d.2).1)) w') hP (.inl ⟨by simpa using hq, rfl, rfl⟩) hv h3 hC.c0 hC.c1 (fun W' hb => (hC.below hb).cn) HH (fun W1 hb => ?_)).mono fun e w' ⟨a, b⟩ => a ▸ b
      have hB := h.a.below hb
      refine (duo_look (hostNo (v / 8)) (decide (v / 8 / 8 % 2 = 1)) hB.y hB.x hB.ap.symm hB.iy hB.ix).mono fun e w2 ⟨b, a, t⟩ => ⟨b, ?_, h.endB h5 h7 hq ?_⟩
      · rw [a, ea3]
      · rw [ea3]; exact t.from_ hb
    · refine (one_look (Q := fun w' => OnePost ea w dp np lo hi lo2 hi2 p q (k + 1) (oneS v d) W (.returned (errZ ea (actXY v d.1.1 d.1.2 d.2).1)) w') hP (.inr ⟨by simpa using hq, rfl, rfl⟩) hv h3 hC.c0 hC.c1 (fun W' hb => (hC.below hb).cn) HH (fun W1 hb => ?_)).mono fun e w' ⟨a, b⟩ => a ▸ b
      have hB := h.a.below hb
      refine (duo_look (hostNo (v / 8)) (decide (v / 8 / 8 % 2 = 1)) hB.x hB.y hB.ap hB.ix hB.iy).mono fun e w2 ⟨b, a, t⟩ => ⟨b, ?_, h.endA h5 h7 hq ?_⟩
      · rw [a, ea3]
      · rw [ea3]; exact t.from_ hb
  by_cases h4 : v % 8 = 4
  · have ea4 : ∀ x y : BS, actXY v x y d.2 = (0, (drainS x (hostNo (v / 8)) (decide (v / 8 / 8 % 2 = 1)), y)) := fun x y => by unfold actXY; rw [if_neg h3, if_pos h4]
    by_cases hq : v / 8 % 2 = 1
    · refine (one_drain (Q := fun w' => OnePost ea w dp np lo hi lo2 hi2 p q (k + 1) (oneS v d) W (.returned (errZ ea (actXY v d.1.2 d.1.1 d.2).1)) w') hP (.inl ⟨by simpa using hq, rfl, rfl⟩) hv h4 hC.c0 hC.c1 (fun W' hb => (hC.below hb).cn) HH (fun W1 hb => ?_)).mono fun e w' ⟨a, b⟩ => a ▸ b
      have hB := h.a.below hb
      refine (duo_drain (hostNo (v / 8)) (decide (v / 8 / 8 % 2 = 1)) (hostNo_mem _) hB.y hB.x hB.ap.symm hB.iy hB.ix hk).mono fun e w2 ⟨a, t⟩ => ⟨?_, h.endB h5 h7 hq ?_⟩
      · rw [a, ea4]
      · rw [ea4]; exact t.from_ hb
    · refine (one_drain (Q := fun w' => OnePost ea w dp np lo hi lo2 hi2 p q (k + 1) (oneS v d) W (.returned (errZ ea (actXY v d.1.1 d.1.2 d.2).1)) w') hP (.inr ⟨by simpa using hq, rfl, rfl⟩) hv h4 hC.c0 hC.c1 (fun W' hb => (hC.below hb).cn) HH (fun W1 hb => ?_)).mono fun e w' ⟨a, b⟩ => a ▸ b
      have hB := h.a.below hb
      refine (duo_drain (hostNo (v / 8)) (decide (v / 8 / 8 % 2 = 1)) (hostNo_mem _) hB.x hB.y hB.ap hB.ix hB.iy hk).mono fun e w2 ⟨a, t⟩ => ⟨?_, h.endA h5 h7 hq ?_⟩
      · rw [a, ea4]
      · rw [ea4]; exact t.from_ hb
  by_cases h6 : v % 8 = 6
  · have ea6 : ∀ x y : BS, actXY v x y d.2 = overS x y d.2 := fun x y => by unfold actXY; rw [if_neg h3, if_neg h4, if_pos h6]
    by_cases hq : v / 8 % 2 = 1
    · refine (one_over (Q := fun w' => OnePost ea w dp np lo hi lo2 hi2 p q (k + 1) (oneS v d) W (.returned (errZ ea (actXY v d.1.2 d.1.1 d.2).1)) w') hP (.inl ⟨by simpa using hq, rfl, rfl⟩) hv h6 hC.c0 hC.c1 (fun W' hb => (hC.below hb).cn) HH (fun W1 hb => ?_)).mono fun e w' ⟨a, b⟩ => a ▸ b
      have hB := h.a.below hb
      refine (duo_over hB.y hB.x hB.ap.symm hW hK hB.iy hB.ix hk hn).mono fun e w2 ⟨a, t⟩ => ⟨?_, h.endB h5 h7 hq ?_⟩
      · rw [a, ea6]
      · rw [ea6]; exact t.from_ hb
    · refine (one_over (Q := fun w' => OnePost ea w dp np lo hi lo2 hi2 p q (k + 1) (oneS v d) W (.returned (errZ ea (actXY v d.1.1 d.1.2 d.2).1)) w') hP (.inr ⟨by simpa using hq, rfl, rfl⟩) hv h6 hC.c0 hC.c1 (fun W' hb => (hC.below hb).cn) HH (fun W1 hb => ?_)).mono fun e w' ⟨a, b⟩ => a ▸ b
      have hB := h.a.below hb
      refine (duo_over hB.x hB.y hB.ap hW hK hB.ix hB.iy hk hn).mono fun e w2 ⟨a, t⟩ => ⟨?_, h.endA h5 h7 hq ?_⟩
      · rw [a, ea6]
      · rw [ea6]; exact t.from_ hb
  have ea0 : ∀ x y : BS, actXY v x y d.2 = ((pickS c22 x (v / 8 / 2) d.2).1.2.2, ((pickS c22 x (v / 8 / 2) d.2).2, y)) := fun x y => by unfold actXY; rw [if_neg h3, if_neg h4, if_neg h6]
  have hU : U64 (v / 8 / 2) := by unfold U64; omega
  by_cases hq : v / 8 % 2 = 1
  · refine (one_pick (Q := fun w' => OnePost ea w dp np lo hi lo2 hi2 p q (k + 1) (oneS v d) W (.returned (errZ ea (actXY v d.1.2 d.1.1 d.2).1)) w') hP (.inl ⟨by simpa using hq, rfl, rfl⟩) hv ⟨h3, h4, h5, h6, h7⟩ hC.c0 hC.c1 (fun W' hb => (hC.below hb).cn) HH (fun W1 hb => ?_)).mono fun e w' ⟨a, b⟩ => a ▸ b
    have hB := h.a.below hb
    rw [show ((v / 8 : Nat) : Int) / 2 = ((v / 8 / 2 : Nat) : Int) by omega]
    refine (duo_pick (v / 8 / 2) (Nat.le_succ k) hB.y hB.x hB.ap.symm hU hB.iy hB.ix hn).mono fun e w2 ⟨x, b, a, t⟩ => ⟨x, b, ?_, h.endB h5 h7 hq ?_⟩
    · rw [a, ea0]
    · rw [ea0]; exact t.from_ hb
  · refine (one_pick (Q := fun w' => OnePost ea w dp np lo hi lo2 hi2 p q (k + 1) (oneS v d) W (.returned (errZ ea (actXY v d.1.1 d.1.2 d.2).1)) w') hP (.inr ⟨by simpa using hq, rfl, rfl⟩) hv ⟨h3, h4, h5, h6, h7⟩ hC.c0 hC.c1 (fun W' hb => (hC.below hb).cn) HH (fun W1 hb => ?_)).mono fun e w' ⟨a, b⟩ => a ▸ b
    have hB := h.a.below hb
    rw [show ((v / 8 : Nat) : Int) / 2 = ((v / 8 / 2 : Nat) : Int) by omega]
    refine (duo_pick (v / 8 / 2) (Nat.le_succ k) hB.x hB.y hB.ap hU hB.ix hB.iy hn).mono fun e w2 ⟨x, b, a, t⟩ => ⟨x, b, ?_, h.endA h5 h7 hq ?_⟩
    · rw [a, ea0]
    · rw [ea0]; exact t.from_ hb
end
end
end Go.Proofs.YteilefpjfbholaaGreatDoor
