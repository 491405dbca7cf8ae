/-
  A balance's Pick.
-/
import Derived.Test.YtnmkdmehljkedaaGreatDoorFresh
namespace Go.Proofs.YtnmkdmehljkedaaGreatDoor
open Go.RowKit

/-- The host that a key keeps. -/
def keptOf (s : BS) (k : Nat) (now : Int) : Option ByteArray := match getF s.fs.2 k now with
  | some x => if upOf s.st x = true then some x else none
  | none => none
def pickS (c : BCfg) (s : BS) (k : Nat) (now : Int) : (ByteArray × Bool × Nat) × BS :=
  if tickE s.fs.1 now = 0 then
    match keptOf s k now with
    | some x => ((x, true, 0), { s with fs := (now.toNat, putF s.fs.2 ⟨k, x, now + c.time⟩) })
    | none => if openOf s = [] then ((⟨#[]⟩, false, 5), { s with fs := (now.toNat, s.fs.2) })
      else ((hostAt (openOf s) c.size (Mx.turn k % c.size), false, 0), { s with fs := (now.toNat, putF s.fs.2 ⟨k, hostAt (openOf s) c.size (Mx.turn k % c.size), now + c.time⟩) })
  else ((⟨#[]⟩, false, tickE s.fs.1 now), s)
/-- The errors that a balance tells. -/
structure ErrsB (ea : Nat → Addr) (w : World) : Prop where
  t : ErrsT ea w
  f : ErrsF ea w
theorem ErrsB.below {ea : Nat → Addr} {w w' : World} (h : ErrsB ea w) (hb : Below w.heap.size w w') : ErrsB ea w' := ⟨h.t.below hb, h.f.below hb⟩
theorem BalAt.apart {w : World} {lo g : Nat} {p : BPl} {c : BCfg} {s : BS} {t : TypeId} {v : Value} (h : BalAt w lo p c s) (hc : w.cell? ⟨g, 0, none⟩ = some (.iface t v)) : g ∉ p.bs := by
  intro hg
  have hmap : ∀ {es} {cl}, w.heap[g]? = some (.map es cl) → False := fun {es cl} hm => by simp [World.cell?, hm] at hc
  unfold BPl.bs at hg
  simp only [List.mem_cons] at hg
  rcases hg with rfl | rfl | rfl | rfl | hg
  · have := h.blk.cell 0; rw [hc] at this; cases this
  · have := h.f.c0; rw [hc] at this; cases this
  · obtain ⟨es, cl, hm⟩ := h.f.map.heap; exact hmap hm
  · obtain ⟨es, cl, hm⟩ := h.d.heap; exact hmap hm
  · obtain ⟨x, hx⟩ := h.pbs hg
    have := hx.cell 0; rw [hc] at this; cases this
theorem ErrsB.turn {ea : Nat → Addr} {w w' : World} {lo : Nat} {p : BPl} {c : BCfg} {s : BS} {bs : List Nat} (hE : ErrsB ea w) (h : BalAt w lo p c s) (ht : Turn bs w w') (hs : ∀ b ∈ bs, b ∈ p.bs) : ErrsB ea w' := by
  have ht' := ht.more hs
  have hk : ∀ {g t v}, w.cell? ⟨g, 0, none⟩ = some (.iface t v) → w'.cell? ⟨g, 0, none⟩ = some (.iface t v) := fun hc => ht'.cell hc (h.apart hc)
  exact ⟨⟨⟨hk hE.t.e3.c2, hk hE.t.e3.c4, hk hE.t.e3.c6⟩, ⟨hk hE.t.z.c2, hk hE.t.z.c3⟩, hk hE.t.c5⟩, ⟨hk hE.f.c2, hk hE.f.c4, hk hE.f.c8⟩⟩
def PickPost (ea : Nat → Addr) (lo : Nat) (p : BPl) (c : BCfg) (r : (ByteArray × Bool × Nat) × BS) (w : World) (e : Ending) (w' : World) : Prop :=
  e = .returned (.tuple #[.string r.1.1, .bool r.1.2.1, errZ ea r.1.2.2]) ∧ BalAt w' lo p c r.2 ∧ Turn [p.fp, p.mb] w w'
theorem upOf_mem {st : List St} {x : ByteArray} (h : upOf st x = true) : x ∈ hosts st := by
  by_cases hm : x ∈ hosts st
  · exact hm
  · have hi : idx (hosts st) x = -1 := idx_miss fun t ht e => hm (by rw [e]; exact ht)
    unfold upOf at h
    rw [hi] at h
    cases h
theorem hostAt_mem {l : List ByteArray} {n i : Nat} (h0 : l ≠ []) (hf : tableFault l (n : Int) = none) (hi : i < n) : hostAt l n i ∈ l := by
  obtain ⟨_, _, m, hm, hm2, hm5, hd⟩ := tableFault_none hf
  obtain rfl : n = m := by omega
  obtain ⟨q, _, hq, hh⟩ := slots_host (List.length_pos_iff.2 h0) hm2 hd hi
  exact List.mem_of_getElem? hh
theorem getF_some {L : List Fl} {k : Nat} {now : Int} {x : ByteArray} (h : getF L k now = some x) : ∃ y ∈ L, y.key = k ∧ y.host = x ∧ now < y.til := by
  unfold getF at h
  cases hf : findF L k with
  | none => rw [hf] at h; cases h
  | some y =>
    rw [hf] at h
    dsimp only at h
    obtain ⟨h1, h2⟩ := findF_some hf
    split at h
    · cases h
    · exact ⟨y, h1, h2, Option.some.inj h, by omega⟩
set_option maxRecDepth 100000 in
set_option maxHeartbeats 1000000 in
theorem pick_tick (ea : Nat → Addr) {lo : Nat} {p : BPl} {c : BCfg} {s : BS} (k : Nat) (now : Int) (w : World) (hE : ErrsB ea w) (h : BalAt w lo p c s) (ht : tickE s.fs.1 now ≠ 0) :
    Calls Tryz.prog 6 #[.pointer (some ⟨p.bp, 0, none⟩), .int .u64 (k : Int), .int .i64 now] w (PickPost ea lo p c ((⟨#[]⟩, false, tickE s.fs.1 now), s) w) := by
  have HG := Lib.hid (get_bad ea k now w hE.f h.f ht)
  unfold GetErr errB at HG
  have c3 : w.cell? ⟨p.bp, 3, none⟩ = some (.pointer (some ⟨p.fp, 0, none⟩)) := h.blk.cell 3
  have HP : Hid (PickPost ea lo p c ((⟨#[]⟩, false, tickE s.fs.1 now), s) w (.returned (.tuple #[.string ⟨#[]⟩, .bool false, errB ea (tickE s.fs.1 now)])) w) := Lib.hid ⟨by dsimp only; rw [errZ_some ea ht], h, Turn.refl _ _⟩
  unfold errB at HP
  generalize tickE s.fs.1 now = te at *
  clear hE h ht
  go_enter Tryz.func6, Tryz.ntmps6
  go_wp2_with fail
  refine HG.out.mono ?_
  rintro e w1 ⟨rfl, rfl⟩
  go_wp2
  go_ret3
  exact HP.out
/-- What a walk of Pick has in hand at a right tick. -/
structure PickH (ea : Nat → Addr) (lo : Nat) (p : BPl) (c : BCfg) (s : BS) (k n : Nat) (so : ByteArray) (bo ub : Bool) (w : World) : Prop where
  g : Calls Tryz.prog 15 #[.pointer (some ⟨p.fp, 0, none⟩), .int .u64 (k : Int), .int .i64 (n : Int)] w fun e w' => e = .returned (.tuple #[.string so, .bool bo, .nilIface]) ∧ BalAt w' lo p c { s with fs := (n, s.fs.2) } ∧ Turn [p.fp, p.mb] w w'
  i : ∀ W, BalAt W lo p c { s with fs := (n, s.fs.2) } → Calls Tryz.prog 16 #[.pointer (some ⟨p.hp, 0, none⟩), .string so] W fun e w' => e = .returned (.bool ub) ∧ Below W.heap.size W w'
  u : ∀ W y, BalAt W lo p c { s with fs := (n, s.fs.2) } → isName y = true → y.size ≤ maxLen → Calls Tryz.prog 18 #[.pointer (some ⟨p.fp, 0, none⟩), .int .u64 (k : Int), .string y, .int .i64 (n : Int)] W fun e w' => e = .returned .nilIface ∧ BalAt w' lo p c { s with fs := (n, putF s.fs.2 ⟨k, y, (n : Int) + c.time⟩) } ∧ Turn [p.fp, p.mb] W w'
theorem pickH (ea : Nat → Addr) {lo : Nat} {p : BPl} {c : BCfg} {s : BS} (k n : Nat) (w : World) (h : BalAt w lo p c s) (hU : U64 k) (h1 : s.fs.1 ≤ n) (h2 : n ≤ 1099511627776) :
    PickH ea lo p c s k n ((getF s.fs.2 k n).getD ⟨#[]⟩) (getF s.fs.2 k n).isSome (upOf s.st ((getF s.fs.2 k n).getD ⟨#[]⟩)) w := by
  refine ⟨(get_ok k n w h.f hU h1 h2).mono fun e w' ⟨a, b, t⟩ => ?_, fun W hW => (is_op _ W hW.h).mono fun e w' hh => hh, fun W y hW hn hs => (put_ok k y n W hW.f hU hs hn (Nat.le_refl _) h2).mono fun e w' ⟨a, b, t⟩ => ⟨a, ?_, t⟩⟩
  · have ht : Turn [p.fp, p.mb] w w' := t.more (by simp)
    refine ⟨?_, h.turnF (fs' := (n, s.fs.2)) b ht, ht⟩
    rw [a]
    cases getF s.fs.2 k n <;> rfl
  · exact hW.turnF (fs' := (n, putF s.fs.2 ⟨k, y, (n : Int) + c.time⟩)) b t
set_option maxRecDepth 100000 in
set_option maxHeartbeats 1000000 in
theorem pick_kept (ea : Nat → Addr) {lo : Nat} {p : BPl} {c : BCfg} {s : BS} (k n : Nat) (so : ByteArray) (w : World) (h : BalAt w lo p c s) (H : PickH ea lo p c s k n so true true w) (hn : isName so = true) (hz : so.size ≤ maxLen) :
    Calls Tryz.prog 6 #[.pointer (some ⟨p.bp, 0, none⟩), .int .u64 (k : Int), .int .i64 (n : Int)] w (PickPost ea lo p c ((so, true, 0), { s with fs := (n, putF s.fs.2 ⟨k, so, (n : Int) + c.time⟩) }) w) := by
  have HG := Lib.hid H.g
  have HI := Lib.hid H.i
  have HU := Lib.hid (fun W hW => H.u W so hW hn hz)
  have c3 : w.cell? ⟨p.bp, 3, none⟩ = some (.pointer (some ⟨p.fp, 0, none⟩)) := h.blk.cell 3
  have HP : Hid (∀ w', BalAt w' lo p c { s with fs := (n, putF s.fs.2 ⟨k, so, (n : Int) + c.time⟩) } → Turn [p.fp, p.mb] w w' → PickPost ea lo p c ((so, true, 0), { s with fs := (n, putF s.fs.2 ⟨k, so, (n : Int) + c.time⟩) }) w (.returned (.tuple #[.string so, .bool true, .nilIface])) w') := Lib.hid fun w' a b => ⟨rfl, a, b⟩
  clear h H hn hz
  go_enter Tryz.func6, Tryz.ntmps6
  go_wp2_with fail
  refine HG.out.mono ?_
  rintro e w1 ⟨rfl, hB1, ht1⟩
  have d0 : w1.cell? ⟨p.bp, 0, none⟩ = some (.pointer (some ⟨p.hp, 0, none⟩)) := hB1.blk.cell 0
  have HI1 := Lib.hid (HI.out w1 hB1)
  have HB1 := Lib.hid hB1
  have HT1 := Lib.hid ht1
  clear hB1 ht1 c3 HI
  go_wp2_with fail
  refine HI1.out.mono ?_
  rintro e w2 ⟨rfl, hb2⟩
  have hB2 := HB1.out.below hb2
  have e3 : w2.cell? ⟨p.bp, 3, none⟩ = some (.pointer (some ⟨p.fp, 0, none⟩)) := hB2.blk.cell 3
  have HU2 := Lib.hid (HU.out w2 hB2)
  have HT2 := Lib.hid (HT1.out.thenB hb2)
  clear hB2 hb2 HU HI1 d0
  go_wp2_with fail
  refine HU2.out.mono ?_
  rintro e w3 ⟨rfl, hB3, ht3⟩
  have HF := Lib.hid (HP.out w3 hB3 (HT2.out.then ht3))
  clear hB3 ht3
  go_wp2
  go_ret3
  exact HF.out
set_option maxRecDepth 100000 in
set_option maxHeartbeats 1000000 in
theorem pick_fresh (ea : Nat → Addr) {lo : Nat} {p : BPl} {c : BCfg} {s : BS} (k n : Nat) (so : ByteArray) (bo ub : Bool) (w : World) (hE : ErrsB ea w) (h : BalAt w lo p c s) (hO : BOk c) (hU : U64 k) (H : PickH ea lo p c s k n so bo ub w) (hk : bo = false ∨ ub = false) :
    Calls Tryz.prog 6 #[.pointer (some ⟨p.bp, 0, none⟩), .int .u64 (k : Int), .int .i64 (n : Int)] w (PickPost ea lo p c (if openOf s = [] then ((⟨#[]⟩, false, 5), { s with fs := (n, s.fs.2) }) else ((hostAt (openOf s) c.size (Mx.turn k % c.size), false, 0), { s with fs := (n, putF s.fs.2 ⟨k, hostAt (openOf s) c.size (Mx.turn k % c.size), (n : Int) + c.time⟩) })) w) := by
  have HG := Lib.hid H.g
  have HI := Lib.hid H.i
  have c3 : w.cell? ⟨p.bp, 3, none⟩ = some (.pointer (some ⟨p.fp, 0, none⟩)) := h.blk.cell 3
  have HFR : Hid (∀ W W2, Turn [p.fp, p.mb] w W → BalAt W lo p c { s with fs := (n, s.fs.2) } → Below W.heap.size W W2 → Calls Tryz.prog 17 #[.pointer (some ⟨p.bp, 0, none⟩), .int .u64 (k : Int)] W2 (FreshPost ea (openOf s) c.size k W2)) := Lib.hid fun W W2 hT hB hb =>
    fresh_any (s := { s with fs := (n, s.fs.2) }) ea k W2 ((hE.turn h hT p.fm).below hb).t (hB.below hb) hO hU
  have hsub := openOf_sub s
  rw [h.same] at hsub
  have htf : openOf s ≠ [] → tableFault (openOf s) (c.size : Int) = none := fun h0 => sub_table hO.tf hsub (List.length_pos_iff.2 h0)
  have hin : openOf s ≠ [] → isName (hostAt (openOf s) c.size (Mx.turn k % c.size)) = true ∧ (hostAt (openOf s) c.size (Mx.turn k % c.size)).size ≤ maxLen := fun h0 => by
    obtain ⟨_, _, m, hm, hm2, _⟩ := tableFault_none hO.tf
    have hmem := hsub.subset (hostAt_mem h0 (htf h0) (Nat.mod_lt (Mx.turn k) (by omega : 0 < c.size)))
    have hnm := (hostsFault_none.1 hO.hf).2.1 _ hmem
    exact ⟨hnm, (hosts_fit hO.hf).2 _ hmem⟩
  have HU := Lib.hid (fun W hW h0 => H.u W (hostAt (openOf s) c.size (Mx.turn k % c.size)) hW (hin h0).1 (hin h0).2)
  have HP1 : Hid (∀ w', openOf s = [] → BalAt w' lo p c { s with fs := (n, s.fs.2) } → Turn [p.fp, p.mb] w w' → PickPost ea lo p c (if openOf s = [] then ((⟨#[]⟩, false, 5), { s with fs := (n, s.fs.2) }) else ((hostAt (openOf s) c.size (Mx.turn k % c.size), false, 0), { s with fs := (n, putF s.fs.2 ⟨k, hostAt (openOf s) c.size (Mx.turn k % c.size), (n : Int) + c.time⟩) })) w (.returned (.tuple #[.string ⟨#[]⟩, .bool false, errB ea 5])) w') := Lib.hid fun w' h0 a b => by rw [if_pos h0]; exact ⟨rfl, a, b⟩
  have HP2 : Hid (∀ w', openOf s ≠ [] → BalAt w' lo p c { s with fs := (n, putF s.fs.2 ⟨k, hostAt (openOf s) c.size (Mx.turn k % c.size), (n : Int) + c.time⟩) } → Turn [p.fp, p.mb] w w' → PickPost ea lo p c (if openOf s = [] then ((⟨#[]⟩, false, 5), { s with fs := (n, s.fs.2) }) else ((hostAt (openOf s) c.size (Mx.turn k % c.size), false, 0), { s with fs := (n, putF s.fs.2 ⟨k, hostAt (openOf s) c.size (Mx.turn k % c.size), (n : Int) + c.time⟩) })) w (.returned (.tuple #[.string (hostAt (openOf s) c.size (Mx.turn k % c.size)), .bool false, .nilIface])) w') := Lib.hid fun w' h0 a b => by rw [if_neg h0]; exact ⟨rfl, a, b⟩
  unfold FreshPost errB at HFR
  unfold errB at HP1
  generalize PickPost ea lo p c (if openOf s = [] then ((⟨#[]⟩, false, 5), { s with fs := (n, s.fs.2) }) else ((hostAt (openOf s) c.size (Mx.turn k % c.size), false, 0), { s with fs := (n, putF s.fs.2 ⟨k, hostAt (openOf s) c.size (Mx.turn k % c.size), (n : Int) + c.time⟩) })) w = PP at *
  generalize hostAt (openOf s) c.size (Mx.turn k % c.size) = y at *
  generalize openOf s = o at *
  clear h H hE hsub htf hin hO hU
  have hway : (bo = false) ∨ (bo = true ∧ ub = false) := by rcases hk with h | h <;> cases bo <;> cases ub <;> simp_all
  clear hk
  rcases hway with rfl | ⟨rfl, rfl⟩
  · go_enter Tryz.func6, Tryz.ntmps6
    go_wp2_with fail
    refine HG.out.mono ?_
    rintro e w1 ⟨rfl, hB1, ht1⟩
    have HFR1 := Lib.hid (HFR.out w1 w1 ht1 hB1 (Below.refl _ _))
    have HB1 := Lib.hid hB1
    have HT1 := Lib.hid ht1
    clear hB1 ht1 c3 HI HFR
    go_wp2_with fail
    refine HFR1.out.mono ?_
    rintro e w3 ⟨hb3, hp3⟩
    have hB3 := HB1.out.below hb3
    have HT3 := Lib.hid (HT1.out.thenB hb3)
    have e3 : w3.cell? ⟨p.bp, 3, none⟩ = some (.pointer (some ⟨p.fp, 0, none⟩)) := hB3.blk.cell 3
    have HB3 := Lib.hid hB3
    clear hB3 hb3 HFR1 HB1 HT1
    rcases hp3 with ⟨h0, rfl⟩ | ⟨h0, rfl⟩
    · have HF := Lib.hid (HP1.out w3 h0 HB3.out HT3.out)
      clear h0 HU HP1 HP2
      go_wp2
      go_ret3
      exact HF.out
    · have HU3 := Lib.hid (HU.out w3 HB3.out h0)
      have HP3 := Lib.hid (fun w' => HP2.out w' h0)
      clear h0 HU HP1 HP2
      go_wp2_with fail
      refine HU3.out.mono ?_
      rintro e w4 ⟨rfl, hB4, ht4⟩
      have HF := Lib.hid (HP3.out w4 hB4 (HT3.out.then ht4))
      clear hB4 ht4
      go_wp2
      go_ret3
      exact HF.out
  · go_enter Tryz.func6, Tryz.ntmps6
    go_wp2_with fail
    refine HG.out.mono ?_
    rintro e w1 ⟨rfl, hB1, ht1⟩
    have d0 : w1.cell? ⟨p.bp, 0, none⟩ = some (.pointer (some ⟨p.hp, 0, none⟩)) := hB1.blk.cell 0
    have HI1 := Lib.hid (HI.out w1 hB1)
    have HFR1 := Lib.hid (fun w2 hb => HFR.out w1 w2 ht1 hB1 hb)
    have HB1 := Lib.hid hB1
    have HT1 := Lib.hid ht1
    clear hB1 ht1 c3 HI HFR
    go_wp2_with fail
    refine HI1.out.mono ?_
    rintro e w2 ⟨rfl, hb2⟩
    have HFR2 := Lib.hid (HFR1.out w2 hb2)
    have HB2 := Lib.hid (HB1.out.below hb2)
    have HT2 := Lib.hid (HT1.out.thenB hb2)
    clear hb2 HI1 d0 HFR1 HB1 HT1
    go_wp2_with fail
    refine HFR2.out.mono ?_
    rintro e w3 ⟨hb3, hp3⟩
    have hB3 := HB2.out.below hb3
    have HT3 := Lib.hid (HT2.out.thenB hb3)
    have e3 : w3.cell? ⟨p.bp, 3, none⟩ = some (.pointer (some ⟨p.fp, 0, none⟩)) := hB3.blk.cell 3
    have HB3 := Lib.hid hB3
    clear hB3 hb3 HFR2 HB2 HT2
    rcases hp3 with ⟨h0, rfl⟩ | ⟨h0, rfl⟩
    · have HF := Lib.hid (HP1.out w3 h0 HB3.out HT3.out)
      clear h0 HU HP1 HP2
      go_wp2
      go_ret3
      exact HF.out
    · have HU3 := Lib.hid (HU.out w3 HB3.out h0)
      have HP3 := Lib.hid (fun w' => HP2.out w' h0)
      clear h0 HU HP1 HP2
      go_wp2_with fail
      refine HU3.out.mono ?_
      rintro e w4 ⟨rfl, hB4, ht4⟩
      have HF := Lib.hid (HP3.out w4 hB4 (HT3.out.then ht4))
      clear hB4 ht4
      go_wp2
      go_ret3
      exact HF.out
theorem pick_any (ea : Nat → Addr) {lo : Nat} {p : BPl} {c : BCfg} {s : BS} (k : Nat) (now : Int) (w : World) (hE : ErrsB ea w) (h : BalAt w lo p c s) (hO : BOk c) (hU : U64 k) :
    Calls Tryz.prog 6 #[.pointer (some ⟨p.bp, 0, none⟩), .int .u64 (k : Int), .int .i64 now] w (PickPost ea lo p c (pickS c s k now) w) := by
  unfold pickS
  by_cases ht : tickE s.fs.1 now = 0
  · rw [if_pos ht]
    obtain ⟨n, rfl, h1, h2⟩ := tickE_ok ht
    have H := pickH ea k n w h hU h1 h2
    unfold keptOf
    rw [Int.toNat_natCast]
    cases hg : getF s.fs.2 k (n : Int) with
    | none =>
      rw [hg] at H
      exact pick_fresh ea k n _ false _ w hE h hO hU H (.inl rfl)
    | some x =>
      rw [hg] at H
      dsimp only [Option.getD, Option.isSome] at H
      by_cases hu : upOf s.st x = true
      · dsimp only
        rw [if_pos hu]
        rw [hu] at H
        have hm : x ∈ c.hosts := by rw [← h.same]; exact upOf_mem hu
        exact pick_kept ea k n x w h H ((hostsFault_none.1 hO.hf).2.1 x hm) ((hosts_fit hO.hf).2 x hm)
      · dsimp only
        rw [if_neg hu]
        exact pick_fresh ea k n x true _ w hE h hO hU H (.inr (by simpa using hu))
  · rw [if_neg ht]
    exact pick_tick ea k now w hE h ht
end Go.Proofs.YtnmkdmehljkedaaGreatDoor
