/-
  Package play's Run.
  Package play's New.
  Package play's Keys; the law's closed fact: a play of picks.
-/
import Derived.Test.YteilefpjfbholaaGreatDoorPlayOne
import Derived.Test.YteilefpjfbholaaGreatDoorCode
import Derived.Test.YteilefpjfbholaaGreatDoorSame
import Derived.Test.YteilefpjfbholaaGreatDoorMixes
namespace Go.Proofs.YteilefpjfbholaaGreatDoor
open Go.RowKit

section
variable {ea : Nat → Addr} {w W W' : World} {dp np lo hi lo2 hi2 k : Nat} {p q : BPl}
/-- What a code of an act is told as. -/
theorem codeZ {c : Nat} (hE : ErrsW ea W) (hG : HandleAt W) (hc : c ≤ 9) : Calls Tryz.prog 56 #[errZ ea c] W fun e w' => e = .returned (.tuple #[.int .i64 (c : Int), .int .i64 (-1)]) ∧ Below W.heap.size W w' := by
  rcases Nat.eq_zero_or_pos c with rfl | h0
  · exact (code_nil W).mono fun e w' ⟨a, b⟩ => ⟨a, b ▸ Below.refl _ _⟩
  · have e : errZ ea c = .iface 330 (.pointer (some (ea (gv c)))) := errZ_some ea (by omega)
    rw [e]
    exact code_any (f := ⟨c, none⟩) hE hG h0 hc ⟨rfl, rfl⟩
theorem stepS_of {i : Nat} {l : List Int} {d : DS} (h : i < l.length) (hv : l[i] < 0) : runS (l.take (i + 1)) d = ((runS (l.take i) d).1 ++ [-1], (runS (l.take i) d).2) := by
  rw [runS_take h]; unfold stepS; rw [if_pos hv]
theorem stepS_on {i : Nat} {l : List Int} {d : DS} {v : Nat} (h : i < l.length) (hv : l[i] = (v : Int)) : runS (l.take (i + 1)) d = ((runS (l.take i) d).1 ++ [((oneS v (runS (l.take i) d).2).1 : Int)], (oneS v (runS (l.take i) d).2).2) := by
  rw [runS_take h]; unfold stepS; rw [hv, if_neg (by omega), Int.toNat_natCast]
/-- What stands in a run. -/
structure Rn (ea : Nat → Addr) (w W W' : World) (B dp np lo hi lo2 hi2 : Nat) (p q : BPl) (k : Nat) (r : List Int × DS) (v : Value) : Prop where
  d : Du ea w W' dp np lo hi lo2 hi2 p q k r.2
  o : W'.ownsRow B 3 1 v k (r.1.map intV)
  t : Turn (p.bs ++ q.bs) W W'
  n : W.heap.size ≤ np ∧ np < B ∧ W.heap.size ≤ B ∧ B ≤ W'.heap.size
  f : ∀ b, (b ∈ p.all ∨ b ∈ q.all ∨ b = dp) → b < W.heap.size
  z : w.heap.size ≤ W.heap.size
section
variable {W1 : World} {B : Nat} {r r' : List Int × DS} {v v' : Value}
theorem Rn.below (h : Rn ea w W W' B dp np lo hi lo2 hi2 p q k r v) (hb : Below W'.heap.size W' W1) : Rn ea w W W1 B dp np lo hi lo2 hi2 p q k r v :=
  ⟨h.d.below hb, own_below h.o hb, h.t.thenB hb, ⟨h.n.1, h.n.2.1, h.n.2.2.1, Nat.le_trans h.n.2.2.2 hb.size⟩, h.f, h.z⟩
/-- A number is done. -/
theorem Rn.one {d' : DS} (h : Rn ea w W W' B dp np lo hi lo2 hi2 p q k r v) (hd : Du ea w W1 dp np lo hi lo2 hi2 p q (k + 1) d') (ht : Turn (np :: (p.bs ++ q.bs)) W' W1) : W1.ownsRow B 3 1 v k (r.1.map intV) ∧ Turn (p.bs ++ q.bs) W W1 ∧ B ≤ W1.heap.size := by
  refine ⟨ht.own h.o fun g hg hm => ?_, h.t.trans ht fun c hc => ?_, Nat.le_trans h.n.2.2.2 ht.size⟩
  · have h1 := (h.o.lt g hg).1
    have h2 := h.n
    rcases List.mem_cons.1 hm with rfl | hm
    · omega
    · rcases List.mem_append.1 hm with hm | hm
      · have := h.f g (.inl (p.bs_all g hm)); omega
      · have := h.f g (.inr (.inl (q.bs_all g hm))); omega
  · rcases List.mem_cons.1 hc with rfl | hc
    · exact .inr h.n.1
    · exact .inl hc
/-- An answer is written. -/
theorem rn_app2 {d' : DS} {c : Int} (hE : ErrsB ea w) (hd : Du ea w W' dp np lo hi lo2 hi2 p q (k + 1) d') (ho0 : W'.ownsRow B 3 1 v k (r.1.map intV)) (ht0 : Turn (p.bs ++ q.bs) W W') (hn : W.heap.size ≤ np ∧ np < B ∧ W.heap.size ≤ B ∧ B ≤ W'.heap.size) (hf : ∀ b, (b ∈ p.all ∨ b ∈ q.all ∨ b = dp) → b < W.heap.size) (hz : w.heap.size ≤ W.heap.size) (ho : W1.ownsRow B 3 1 v' (k + 1) (r.1.map intV ++ [.int .i64 c])) (hg : W'.grownBy W1 v.ownBlock) : Rn ea w W W1 B dp np lo hi lo2 hi2 p q (k + 1) (r.1 ++ [c], d') v' := by
  have ht : Turn v.ownBlock.toList W' W1 := Turn.of_grown hg fun g hg => by simpa using hg
  have hlo : ∀ b ∈ v.ownBlock.toList, B ≤ b := fun b hb => (ho0.lt b (by simpa using hb)).1
  have hD := hd.a.far hE ht fun b hb => by
    have := hlo b hb
    exact ⟨by omega, fun hm => by have := hf b (.inl hm); omega, fun hm => by have := hf b (.inr (.inl hm)); omega, fun hm => by have := hf b (.inr (.inr hm)); omega⟩
  refine ⟨⟨hD, ht.blk hd.nk fun hm => by have := hlo _ hm; omega, hd.nw, hd.nf⟩, ?_, ht0.trans ht fun b hb => .inr (by have := hlo b hb; omega), ⟨hn.1, hn.2.1, hn.2.2.1, Nat.le_trans hn.2.2.2 hg.size⟩, hf, hz⟩
  rw [List.map_append]
  exact ho
/-- The same out of a run's state. -/
theorem Rn.app {d' : DS} {c : Int} (hE : ErrsB ea w) (h : Rn ea w W W' B dp np lo hi lo2 hi2 p q k r v) (hd : Du ea w W' dp np lo hi lo2 hi2 p q (k + 1) d') (ho : W1.ownsRow B 3 1 v' (k + 1) (r.1.map intV ++ [.int .i64 c])) (hg : W'.grownBy W1 v.ownBlock) : Rn ea w W W1 B dp np lo hi lo2 hi2 p q (k + 1) (r.1 ++ [c], d') v' :=
  rn_app2 hE hd h.o h.t h.n h.f h.z ho hg
end
def RunPost (ea : Nat → Addr) (w : World) (dp lo hi lo2 hi2 : Nat) (p q : BPl) (k : Nat) (r : List Int × DS) (W : World) (e : Ending) (w' : World) : Prop :=
  ∃ v, e = .returned v ∧ w'.ownsRow W.heap.size 3 1 v k (r.1.map intV) ∧ DuoAt ea w w' dp lo hi lo2 hi2 p q k r.2.2 r.2.1 ∧ Turn (p.bs ++ q.bs) W w'
set_option maxRecDepth 100000 in
set_option maxHeartbeats 4000000 in
theorem run_any {A : Option Addr} {ca : Nat} {l : List Int} {st : BS × BS} (hE : ErrsB ea w) (hE9 : ErrsW ea w) (hG : HandleAt w) (hW : CarW w) (hK : ErrsK ea w) (h : DuoAt ea w W dp lo hi lo2 hi2 p q 0 0 st)
    (hr : ∀ W', Turn (p.bs ++ q.bs) W W' → Reads W' W'.heap.size 1 A l.length (l.map intV)) (hl : l.length ≤ 1000) (hlc : l.length ≤ ca) (hv : ∀ x ∈ l, x ≤ 9223372036854775807) :
    Calls Tryz.prog 21 #[.pointer (some ⟨dp, 0, none⟩), .slice A l.length ca] W (RunPost ea w dp lo hi lo2 hi2 p q l.length (runS l (st, 0)) W) := by
  obtain ⟨i0, hi0, hz0, hz1, hz2⟩ := info_parts info_num
  have hbN := (Below.refl W.heap.size W).alloc (Nat.le_refl _) (.cells #[.int .i64 0] 3)
  have hXN := Blk.new W 3 #[.int .i64 0]
  obtain ⟨W0, hW0⟩ : ∃ W0, W0 = W.alloc (.cells #[.int .i64 0] 3) := ⟨_, rfl⟩
  rw [← hW0] at hbN hXN
  have HR0 : Hid (Rn ea w W W0 W0.heap.size dp W.heap.size lo hi lo2 hi2 p q 0 (runS (l.take 0) (st, 0)) (.slice none 0 0)) := Lib.hid (by
    have hlt := hXN.lt
    have hpl := h.x.b.lt
    have hql := h.y.b.lt
    have hdl := h.dk.lt
    have hsz := h.x.w.size
    refine ⟨⟨h.below hbN, hXN, Nat.le_refl _, hsz, fun hm => absurd (hpl _ hm) (by omega), fun hm => absurd (hql _ hm) (by omega), by omega⟩, World.ownsRow_nil _ _ _ _, Turn.of_below hbN, ⟨Nat.le_refl _, hlt, hbN.size, Nat.le_refl _⟩, fun b hb => ?_, hsz⟩
    rcases hb with hb | hb | rfl
    · exact hpl b hb
    · exact hql b hb
    · exact hdl)
  have HRd := Lib.hid (fun W' (ht : Turn (p.bs ++ q.bs) W W') i (hi : i < l.length) => (show ∃ ad, A = some ad ∧ W'.cell? (ad.add i) = some (.int .i64 l[i]) from by
    obtain ⟨ad, u, hA, _, hu, hc⟩ := (hr W' ht).at_ hi
    refine ⟨ad, hA, ?_⟩
    rw [hc, ← hu]
    simp [hi, intV]))
  have HV := Lib.hid hv
  have HOne : Hid (∀ W1 k d (v : Nat), Du ea w W1 dp W.heap.size lo hi lo2 hi2 p q k d → v ≤ 9223372036854775807 → k ≤ 1000 → Calls Tryz.prog 57 #[.pointer (some ⟨dp, 0, none⟩), .int .i64 (v : Int), .pointer (some ⟨W.heap.size, 0, none⟩)] W1 (OnePost ea w dp W.heap.size lo hi lo2 hi2 p q (k + 1) (oneS v d) W1)) := Lib.hid fun W1 k d v hd h1 h2 => one_any h1 hE hW hK hd (by omega)
  have HCo : Hid (∀ W1 c, Below w.heap.size w W1 → c ≤ 9 → Calls Tryz.prog 56 #[errZ ea c] W1 fun e w' => e = .returned (.tuple #[.int .i64 (c : Int), .int .i64 (-1)]) ∧ Below W1.heap.size W1 w') := Lib.hid fun W1 c hb hc => codeZ (hE9.below hb) (hG.below hb) hc
  have HEB := Lib.hid hE
  have hmin : ¬ (3000 : Int) < (l.length : Int) := by omega
  have hmin2 : ¬ 3000 < l.length := by omega
  have hlc2 : (l.length : Int) ≤ (ca : Int) := by omega
  have HFin : Hid (∀ W' v, Rn ea w W W' W0.heap.size dp W.heap.size lo hi lo2 hi2 p q l.length (runS (l.take l.length) (st, 0)) v → RunPost ea w dp lo hi lo2 hi2 p q l.length (runS l (st, 0)) W (.returned v) W') := Lib.hid fun W' v hR => by
    rw [List.take_length] at hR
    exact ⟨v, rfl, own_base hR.o hR.n.2.2.1, hR.d.a, hR.t⟩
  have HLS := Lib.hid hXN.lt
  clear hE hE9 hG hW hK h hr hv hXN hbN
  go_enter Tryz.func21, Tryz.ntmps21
  go_wp2_with fail
  rw [← hW0]
  clear hW0
  generalize W0.heap.size = B at *
  go_loopw [5, 16] (fun sv iv wr => ∃ (i : Nat) (A' : Option Addr) (cap : Nat), i ≤ l.length ∧ sv = .slice A' i cap ∧ iv = .int .i64 (i : Int) ∧ Hid (Rn ea w W wr B dp W.heap.size lo hi lo2 hi2 p q i (runS (l.take i) (st, 0)) (.slice A' i cap))) (fun _ iv _ => l.length + 1 - (intOf iv).toNat)
  case atStart => exact ⟨0, none, 0, Nat.zero_le _, rfl, rfl, HR0⟩
  case round =>
    obtain ⟨i, A', cap, hile, rfl, rfl, hR⟩ := hrel
    clear HR0
    by_cases hil : i < l.length
    · have hil2 : (i : Int) < l.length := by omega
      obtain ⟨ad, rfl, ck⟩ := HRd.out wr hR.out.t i hil
      have hvb := HV.out _ (List.getElem_mem hil)
      have hi1000 : i ≤ 1000 := by omega
      have hrl := runS_len l (st, 0) i hile
      by_cases hneg : l[i] < 0
      · have hs := stepS_of (d := (st, 0)) hil hneg
        have d1 : decide (l[i] ≥ 0) = false := by simpa using hneg
        have HAP : Hid (∀ v' W', W'.ownsRow B 3 1 v' (i + 1) ((runS (l.take i) (st, 0)).1.map intV ++ [.int .i64 (-1)]) → (wr.alloc (.cells #[.int .i64 (-1)] 3)).grownBy W' (Value.slice A' i cap).ownBlock → ∃ A2 cap2, v' = .slice A2 (i + 1) cap2 ∧ Hid (Rn ea w W W' B dp W.heap.size lo hi lo2 hi2 p q (i + 1) (runS (l.take (i + 1)) (st, 0)) (.slice A2 (i + 1) cap2))) := Lib.hid fun v' W' h1 h2 => by
          obtain ⟨A2, cap2, rfl, _⟩ := own_slice h1
          have hb := (Below.refl wr.heap.size wr).alloc (Nat.le_refl _) (.cells #[.int .i64 (-1)] 3)
          have hR2 := hR.out.below hb
          rw [hs]
          exact ⟨A2, cap2, rfl, Lib.hid (hR2.app (d' := (runS (l.take i) (st, 0)).2) HEB.out (hR2.d.turn (d' := (runS (l.take i) (st, 0)).2) hR2.d.a.x hR2.d.a.y (Turn.refl _ _) rfl (hR2.d.a.ix.more (Nat.le_succ i) (Nat.le_refl _)) (hR2.d.a.iy.more (Nat.le_succ i) (Nat.le_refl _)) (Nat.le_succ i)) h1 h2)⟩
        have HRW : Hid ((wr.alloc (.cells #[.int .i64 (-1)] 3)).ownsRow B 3 1 (.slice A' i cap) i ((runS (l.take i) (st, 0)).1.map intV)) := Lib.hid (hR.out.below ((Below.refl wr.heap.size wr).alloc (Nat.le_refl _) (.cells #[.int .i64 (-1)] 3))).o
        have HNW : Hid (Reads (wr.alloc (.cells #[.int .i64 (-1)] 3)) (wr.alloc (.cells #[.int .i64 (-1)] 3)).heap.size 1 (some ⟨wr.heap.size, 0, none⟩) 1 [.int .i64 (-1)]) := Lib.hid (blk_reads (Blk.new wr 3 [Value.int .i64 (-1)].toArray))
        have HSZ : Hid (B ≤ (wr.alloc (.cells #[.int .i64 (-1)] 3)).heap.size) := Lib.hid (Nat.le_trans hR.out.n.2.2.2 ((Below.refl wr.heap.size wr).alloc (Nat.le_refl _) _).size)
        clear hs hrl hR
        generalize l[i] = v at *
        generalize (runS (l.take i) (st, 0)).1.map intV = xs at *
        go_wp2_with (first
          | (at_builtin
             go_must (refine wpList_append_any _ rfl (.tmp 29) (.tmp 31) _ rfl B 3 i0 _ 1 8 Tryz.underlying51 hi0 hz0 hz1 hz2 rfl (by omega) (.slice A' i cap) i xs rfl HRW.out _ (some ⟨wr.heap.size, 0, none⟩) 1 1 [.int .i64 (-1)] rfl HNW.out (by simp [Value.oneCell']) (by simp only [maxLen]; omega) (by omega) HSZ.out ?_)
             intro v1 w5 hown1 hg1 _
             obtain ⟨A2, cap2, hv2, HR2⟩ := HAP.out _ _ hown1 hg1
             subst hv2
             clear hown1 hg1))
        go_roundw
        case rel => exact ⟨i + 1, A2, cap2, by omega, rfl, by go_num, HR2⟩
        case measure => simp [intOf]; omega
      · obtain ⟨n, hn⟩ := Int.eq_ofNat_of_zero_le (by omega : 0 ≤ l[i])
        have hs := stepS_on (d := (st, 0)) hil hn
        rw [hn] at ck hvb
        have d1 : decide ((n : Int) ≥ 0) = true := by simp
        have HO1 := Lib.hid (HOne.out wr i _ n hR.out.d (by omega) hi1000)
        obtain ⟨d', hd'⟩ : ∃ d', d' = oneS n (runS (l.take i) (st, 0)).2 := ⟨_, rfl⟩
        rw [← hd'] at hs HO1
        have hc9 : d'.1 ≤ 9 := by rw [hd']; exact oneS_le n _
        have HAP : Hid (∀ w5 w6, Du ea w w5 dp W.heap.size lo hi lo2 hi2 p q (i + 1) d'.2 → Turn (W.heap.size :: (p.bs ++ q.bs)) wr w5 → Below w5.heap.size w5 w6 →
            (w6.alloc (.cells #[.int .i64 (d'.1 : Int)] 3)).ownsRow B 3 1 (.slice A' i cap) i ((runS (l.take i) (st, 0)).1.map intV) ∧ B ≤ (w6.alloc (.cells #[.int .i64 (d'.1 : Int)] 3)).heap.size ∧
            ∀ v' W', W'.ownsRow B 3 1 v' (i + 1) ((runS (l.take i) (st, 0)).1.map intV ++ [.int .i64 (d'.1 : Int)]) → (w6.alloc (.cells #[.int .i64 (d'.1 : Int)] 3)).grownBy W' (Value.slice A' i cap).ownBlock → ∃ A2 cap2, v' = .slice A2 (i + 1) cap2 ∧ Hid (Rn ea w W W' B dp W.heap.size lo hi lo2 hi2 p q (i + 1) (runS (l.take (i + 1)) (st, 0)) (.slice A2 (i + 1) cap2))) := Lib.hid fun w5 w6 hD5 hT5 hb6 => by
          have hb7 := (Below.refl w6.heap.size w6).alloc (Nat.le_refl _) (.cells #[.int .i64 (d'.1 : Int)] 3)
          obtain ⟨o5, t5, n5⟩ := hR.out.one hD5 hT5
          have o7 := own_below (own_below o5 hb6) hb7
          have t7 := (t5.thenB hb6).thenB hb7
          have n7 : B ≤ (w6.alloc (.cells #[.int .i64 (d'.1 : Int)] 3)).heap.size := Nat.le_trans n5 (Nat.le_trans hb6.size hb7.size)
          have d7 := (hD5.below hb6).below hb7
          refine ⟨o7, n7, fun v' W' h1 h2 => ?_⟩
          obtain ⟨A2, cap2, rfl, _⟩ := own_slice h1
          rw [hs]
          have hn0 := hR.out.n
          refine ⟨A2, cap2, rfl, Lib.hid ?_⟩
          have hRR := rn_app2 (W' := w6.alloc (.cells #[.int .i64 (d'.1 : Int)] 3)) (r := runS (l.take i) (st, 0)) HEB.out d7 o7 t7 ⟨hn0.1, hn0.2.1, hn0.2.2.1, n7⟩ hR.out.f hR.out.z h1 h2
          exact hRR
        have HCB : Hid (∀ w5, Du ea w w5 dp W.heap.size lo hi lo2 hi2 p q (i + 1) d'.2 → Below w.heap.size w w5) := Lib.hid fun w5 h => h.a.x.w
        clear hs hrl hR hd' hn
        generalize l[i] = v at *
        generalize (runS (l.take i) (st, 0)).1.map intV = xs at *
        unfold OnePost at HO1
        obtain ⟨c', d''⟩ := d'
        dsimp only at *
        go_wp2_with fail
        refine HO1.out.mono ?_
        rintro e w5 ⟨rfl, hD5, hT5⟩
        have HC5 := Lib.hid (HCo.out w5 c' (HCB.out w5 hD5) hc9)
        have HA5 := Lib.hid (fun w6 hb => HAP.out w5 w6 hD5 hT5 hb)
        clear hD5 hT5 HO1 HAP HCB HOne HCo
        generalize errZ ea c' = ev at *
        go_wp2_with fail
        refine HC5.out.mono ?_
        rintro e w6 ⟨rfl, hb6⟩
        obtain ⟨o7, n7, hfin⟩ := HA5.out w6 hb6
        have HRW := Lib.hid o7
        have HSZ := Lib.hid n7
        have HAP2 := Lib.hid hfin
        have HNW : Hid (Reads (w6.alloc (.cells #[.int .i64 (c' : Int)] 3)) (w6.alloc (.cells #[.int .i64 (c' : Int)] 3)).heap.size 1 (some ⟨w6.heap.size, 0, none⟩) 1 [.int .i64 (c' : Int)]) := Lib.hid (blk_reads (Blk.new w6 3 [Value.int .i64 (c' : Int)].toArray))
        clear o7 n7 hfin hb6 HC5 HA5
        go_wp2_with (first
          | (at_builtin
             go_must (refine wpList_append_any _ rfl (.tmp 29) (.tmp 31) _ rfl B 3 i0 _ 1 8 Tryz.underlying51 hi0 hz0 hz1 hz2 rfl (by omega) (.slice A' i cap) i xs rfl HRW.out _ (some ⟨w6.heap.size, 0, none⟩) 1 1 [.int .i64 (c' : Int)] rfl HNW.out (by simp [Value.oneCell']) (by simp only [maxLen]; omega) (by omega) HSZ.out ?_)
             intro v1 w8 hown1 hg1 _
             obtain ⟨A2, cap2, hv2, HR2⟩ := HAP2.out _ _ hown1 hg1
             subst hv2
             clear hown1 hg1))
        go_roundw
        case rel => exact ⟨i + 1, A2, cap2, by omega, rfl, by go_num, HR2⟩
        case measure => simp [intOf]; omega
    · obtain rfl : i = l.length := by omega
      have hge : ¬ (l.length : Int) < l.length := by omega
      have HF := Lib.hid (HFin.out _ _ hR.out)
      clear hR HFin
      go_wp2
      go_ret
      exact HF.out
end
end Go.Proofs.YteilefpjfbholaaGreatDoor

namespace Go.Proofs.YteilefpjfbholaaGreatDoor
open Go.RowKit

/-- Where a duo lies: from L on, ahead of H. -/
structure Span (L H dp lo hi lo2 hi2 : Nat) : Prop where
  d : L ≤ dp ∧ dp < H
  a : L ≤ lo ∧ hi ≤ H
  b : L ≤ lo2 ∧ hi2 ≤ H
section
variable {ea : Nat → Addr} {w W W' : World} {L H dp lo hi lo2 hi2 k now : Nat} {p q : BPl} {st : BS × BS} {bs : List Nat}
/-- What lies out of a duo's span turns. -/
theorem DuoAt.span (h : DuoAt ea w W dp lo hi lo2 hi2 p q k now st) (hS : Span L H dp lo hi lo2 hi2) (hE : ErrsB ea w) (ht : Turn bs W W') (hb : ∀ b ∈ bs, w.heap.size ≤ b ∧ (b < L ∨ H ≤ b)) : DuoAt ea w W' dp lo hi lo2 hi2 p q k now st :=
  h.far hE ht fun b hm => by
    obtain ⟨h1, h2⟩ := hb b hm
    have hd := hS.d
    have ha := hS.a
    have hb := hS.b
    refine ⟨h1, fun hp => ?_, fun hp => ?_, ?_⟩
    · have := h.x.b.allLo b hp
      have := h.x.hi b hp
      omega
    · have := h.y.b.allLo b hp
      have := h.y.hi b hp
      omega
    · omega
theorem DuoAt.bsIn (h : DuoAt ea w W dp lo hi lo2 hi2 p q k now st) (hS : Span L H dp lo hi lo2 hi2) : ∀ b ∈ p.bs ++ q.bs, L ≤ b ∧ b < H := by
  intro b hb
  have ha := hS.a
  have hb' := hS.b
  rcases List.mem_append.1 hb with hb | hb
  · have := h.x.b.allLo b (p.bs_all b hb)
    have := h.x.hi b (p.bs_all b hb)
    omega
  · have := h.y.b.allLo b (q.bs_all b hb)
    have := h.y.hi b (q.bs_all b hb)
    omega
def NewDuo (ea : Nat → Addr) (w W : World) (e : Ending) (w' : World) : Prop :=
  ∃ dp lo hi lo2 hi2 p q, e = .returned (.pointer (some ⟨dp, 0, none⟩)) ∧ DuoAt ea w w' dp lo hi lo2 hi2 p q 0 0 (newS c22, newS c22) ∧ Span W.heap.size w'.heap.size dp lo hi lo2 hi2 ∧ Below W.heap.size W w'
def HostsTx (W : World) (e : Ending) (w' : World) : Prop := e = .returned (.slice (some ⟨W.heap.size, 0, none⟩) 4 4) ∧ TxIn w' (some ⟨W.heap.size, 0, none⟩) 4 c22.hosts ∧ Below W.heap.size W w'
theorem hostsTx (W : World) : Calls Tryz.prog 55 #[] W (HostsTx W) :=
  (playHosts_any W).mono fun e w' ⟨a, b⟩ => ⟨a, by rw [b]; exact txIn_lit (l := c22.hosts) (by decide) (by decide +kernel), by rw [b]; exact (Below.refl _ _).alloc (Nat.le_refl _) _⟩
set_option maxRecDepth 100000 in
set_option maxHeartbeats 2000000 in
theorem playNew_any (hE0 : ErrsB ea w) (hw : Below w.heap.size w W) : Calls Tryz.prog 20 #[] W (NewDuo ea w W) := by
  have hbN := (Below.refl W.heap.size W).alloc (Nat.le_refl _) (.cells #[.pointer none, .pointer none] 57)
  have hXN := Blk.new W 57 #[.pointer none, .pointer none]
  obtain ⟨W0, hW0⟩ : ∃ W0, W0 = W.alloc (.cells #[.pointer none, .pointer none] 57) := ⟨_, rfl⟩
  rw [← hW0] at hbN hXN
  have HH := Lib.hid hostsTx
  have HE := Lib.hid hE0
  have HN : Hid (∀ W' A, Below w.heap.size w W' → TxIn W' A 4 c22.hosts → Calls Tryz.prog 10 #[.slice A 4 4, .int .i64 31, .int .i64 20, .int .i64 2, .int .i64 2] W' (NewAs ea w c22 W')) := Lib.hid fun W' A h1 h2 => bn_new (c := c22) (hE0.below h1) h1 h2 ok_22
  have HX0 := Lib.hid hXN
  have HB0 := Lib.hid hbN
  have HW := Lib.hid hw
  unfold NewAs at HN
  unfold HostsTx at HH
  clear hE0 hw hbN hXN
  go_enter Tryz.func20, Tryz.ntmps20
  go_wp2_with fail
  rw [← hW0]
  clear hW0
  refine (HH.out _).mono ?_
  rintro e w2 ⟨rfl, hT2, hb2⟩
  have HN2 := Lib.hid (HN.out w2 _ (below_two (below_two HW.out HB0.out) hb2) hT2)
  have HX2 := Lib.hid (HX0.out.below hb2 HX0.out.lt)
  have HB2 := Lib.hid (below_two HB0.out hb2)
  have HS2 := Lib.hid hb2.size
  clear hT2 hb2
  go_wp2_with fail
  refine HN2.out.mono ?_
  rintro e w3 ⟨p, rfl, hB3, hb3⟩
  have hX3 := HX2.out.below hb3 HX2.out.lt
  have hlt2 := HX2.out.lt
  have c0 : w3.cell? ⟨W.heap.size, 0, none⟩ = some (.pointer none) := hX3.cell 0
  have f0 := hX3.frozen 0
  have ht3 : Turn [W.heap.size] w3 (w3.setCell ⟨W.heap.size, 0, none⟩ (.pointer (some ⟨p.bp, 0, none⟩))) := (Turn.refl _ w3).setCell (p := ⟨W.heap.size, 0, none⟩) (.inl (by simp)) _
  have hf3 : ∀ b ∈ [W.heap.size], w.heap.size ≤ b ∧ b ∉ p.all := fun b hb => by
    rw [List.mem_singleton] at hb
    subst hb
    exact ⟨HW.out.size, fun hm => by have := hB3.b.allLo _ hm; omega⟩
  have HB4 := Lib.hid (hB3.far HE.out ht3 hf3)
  have HX4 := Lib.hid (hX3.set_ 0 (.pointer (some ⟨p.bp, 0, none⟩)))
  have HBW4 : Hid (Below W.heap.size W (w3.setCell ⟨W.heap.size, 0, none⟩ (.pointer (some ⟨p.bp, 0, none⟩)))) := Lib.hid ((below_two HB2.out hb3).trans (ht3.below (below_two HB2.out hb3).size fun b hb => by rw [List.mem_singleton] at hb; omega))
  have HI4 : Hid ((W.heap.size < w2.heap.size ∧ w2.heap.size ≤ w3.heap.size) ∧ w3.heap.size ≤ (w3.setCell ⟨W.heap.size, 0, none⟩ (.pointer (some ⟨p.bp, 0, none⟩))).heap.size) := Lib.hid ⟨⟨hlt2, hb3.size⟩, ht3.size⟩
  clear hB3 hb3 hX3 ht3 hf3 HN2 HX2 HB2 HX0 HB0 hlt2
  go_wp2_with fail
  generalize w3.setCell ⟨W.heap.size, 0, none⟩ (.pointer (some ⟨p.bp, 0, none⟩)) = w4 at *
  clear c0 f0
  refine (HH.out _).mono ?_
  rintro e w5 ⟨rfl, hT5, hb5⟩
  have HN5 := Lib.hid (HN.out w5 _ (below_two HB4.out.w hb5) hT5)
  have HX5 := Lib.hid (HX4.out.below hb5 HX4.out.lt)
  have HP5 := Lib.hid (HB4.out.below hb5)
  have HBW5 := Lib.hid (below_two HBW4.out hb5)
  have HI5 : Hid ((W.heap.size < w2.heap.size ∧ w2.heap.size ≤ w3.heap.size) ∧ w3.heap.size ≤ w5.heap.size) := Lib.hid ⟨HI4.out.1, Nat.le_trans HI4.out.2 hb5.size⟩
  clear hT5 hb5 HX4 HB4 HBW4 HI4
  go_wp2_with fail
  refine HN5.out.mono ?_
  rintro e w6 ⟨q, rfl, hB6, hb6⟩
  have hX6 := HX5.out.below hb6 HX5.out.lt
  have c1 : w6.cell? ⟨W.heap.size, 1, none⟩ = some (.pointer none) := by rw [hX6.cell 1]; rfl
  have f1 := hX6.frozen 1
  have hi5 := HI5.out
  have ht6 : Turn [W.heap.size] w6 (w6.setCell ⟨W.heap.size, 1, none⟩ (.pointer (some ⟨q.bp, 0, none⟩))) := (Turn.refl _ w6).setCell (p := ⟨W.heap.size, 1, none⟩) (.inl (by simp)) _
  have hP6 := HP5.out.below hb6
  have hap : Apart q p := hP6.apart hB6 (by omega)
  have HFin : Hid (NewDuo ea w W (.returned (.pointer (some ⟨W.heap.size, 0, none⟩))) (w6.setCell ⟨W.heap.size, 1, none⟩ (.pointer (some ⟨q.bp, 0, none⟩)))) := Lib.hid (by
    have hB7 := hB6.far HE.out ht6 fun b hb => by
      rw [List.mem_singleton] at hb
      subst hb
      exact ⟨HW.out.size, fun hm => by have := hB6.b.allLo _ hm; omega⟩
    have hP7 := hP6.far HE.out ht6 fun b hb => by
      rw [List.mem_singleton] at hb
      subst hb
      exact ⟨HW.out.size, fun hm => by have := hP6.b.allLo _ hm; omega⟩
    have hb7 := below_two HBW5.out hb6
    have hs6 := hb6.size
    have hs7 := ht6.size
    exact ⟨_, _, _, _, _, p, q, rfl, ⟨hP7, hB7, hap, hX6.set_ 1 _, BInv.new, BInv.new⟩, ⟨⟨Nat.le_refl _, by omega⟩, ⟨by omega, by omega⟩, ⟨by omega, by omega⟩⟩, hb7.trans (ht6.below hb7.size fun b hb => by rw [List.mem_singleton] at hb; omega)⟩)
  clear hB6 hb6 hX6 ht6 hP6 hap HN5 HX5 HP5 HBW5 HI5 hi5
  go_wp2_with fail
  go_ret
  exact HFin.out
end
end Go.Proofs.YteilefpjfbholaaGreatDoor

namespace Go.Proofs.YteilefpjfbholaaGreatDoor
open Go.RowKit

theorem lt_eq3 {a b c : Int} (h : a < b) (e : c = b) : a < c := e ▸ h
theorem ge_eq3 {b c : Int} (e : c = b) : ¬ b < c := by omega
def turnsL (m : Nat) : List Nat := (List.range m).map Mx.turn
theorem turnsL_succ (m : Nat) : keysV (turnsL (m + 1)) = keysV (turnsL m) ++ [.int .u64 ((Mx.turn m : Nat) : Int)] := by
  unfold turnsL keysV
  rw [List.range_succ]
  simp
def KeysPost (m : Nat) (W : World) (e : Ending) (w' : World) : Prop := ∃ v, e = .returned v ∧ w'.ownsRow W.heap.size 32 1 v m (keysV (turnsL m)) ∧ Below W.heap.size W w'
set_option maxRecDepth 100000 in
set_option maxHeartbeats 2000000 in
theorem keys_any (n : Int) (m : Nat) (hm : max 0 (min n 500) = (m : Int)) (W : World) : Calls Tryz.prog 29 #[.int .i64 n] W (KeysPost m W) := by
  obtain ⟨i0, hi0, hz0, hz1, hz2⟩ := info_parts info_u64
  have hm5 : m ≤ 500 := by omega
  have HT : Hid (∀ i, i < m → ∃ t : Nat, Hid (t = Mx.turn i) ∧ ∀ W', Calls Tryz.prog 60 #[.int .u64 (i : Int)] W' fun e w' => e = .returned (.int .u64 (t : Int)) ∧ W' = w') := Lib.hid fun i hi => ⟨_, Lib.hid rfl, fun W' => turn_any i W' (by unfold U64; omega)⟩
  have HFin : Hid (∀ v w', w'.ownsRow W.heap.size 32 1 v m (keysV (turnsL m)) → Below W.heap.size W w' → KeysPost m W (.returned v) w') := Lib.hid fun v w' h1 h2 => ⟨v, rfl, h1, h2⟩
  obtain ⟨b, hb, hcase⟩ : ∃ b : Int, b = (m : Int) ∧ (((¬ (0 : Int) < n ∧ ¬ (500 : Int) < n) ∧ b = 0) ∨ ((500 : Int) < n ∧ b = 500) ∨ (((0 : Int) < n ∧ ¬ (500 : Int) < n) ∧ b = n)) := ⟨m, rfl, by omega⟩
  have HBM := Lib.hid hb
  clear hb hm
  rcases hcase with ⟨⟨q1, q2⟩, rfl⟩ | hcase
  · obtain rfl : m = 0 := by have := HBM.out; omega
    go_enter Tryz.func29, Tryz.ntmps29
    go_wp2_with fail
    go_loopw [3, 8] (fun sv iv wr => ∃ (i : Nat) (A' : Option Addr) (cap : Nat), i ≤ 0 ∧ sv = .slice A' i cap ∧ iv = .int .i64 (i : Int) ∧ Hid (wr.ownsRow W.heap.size 32 1 (.slice A' i cap) i (keysV (turnsL i))) ∧ Hid (Below W.heap.size W wr)) (fun _ iv _ => 0 + 1 - (intOf iv).toNat)
    case atStart => exact ⟨0, none, 0, Nat.zero_le _, rfl, rfl, Lib.hid (World.ownsRow_nil _ _ _ _), Lib.hid (Below.refl _ _)⟩
    case round =>
      obtain ⟨i, A', cap, hile, rfl, rfl, hR, hB⟩ := hrel
      obtain rfl : i = 0 := by omega
      have HF := Lib.hid (HFin.out _ _ hR.out hB.out)
      clear hR hB HFin
      go_wp2
      go_ret
      exact HF.out
  rcases hcase with ⟨q1, rfl⟩ | ⟨⟨q1, q2⟩, rfl⟩
  all_goals
    go_enter Tryz.func29, Tryz.ntmps29
    go_wp2_with fail
    go_loopw [3, 8] (fun sv iv wr => ∃ (i : Nat) (A' : Option Addr) (cap : Nat), i ≤ m ∧ sv = .slice A' i cap ∧ iv = .int .i64 (i : Int) ∧ Hid (wr.ownsRow W.heap.size 32 1 (.slice A' i cap) i (keysV (turnsL i))) ∧ Hid (Below W.heap.size W wr)) (fun _ iv _ => m + 1 - (intOf iv).toNat)
    case atStart => exact ⟨0, none, 0, Nat.zero_le _, rfl, rfl, Lib.hid (World.ownsRow_nil _ _ _ _), Lib.hid (Below.refl _ _)⟩
    case round =>
      obtain ⟨i, A', cap, hile, rfl, rfl, hR, hB⟩ := hrel
      by_cases hil : i < m
      · have hil2 := lt_eq3 (show (i : Int) < (m : Int) by omega) HBM.out
        obtain ⟨t, ht, HTu⟩ := HT.out i hil
        have hwi : IntKind.u64.wrap (i : Int) = (i : Int) := by rw [IntKind.wrap_u64]; omega
        have HTT := Lib.hid HTu
        have hbA := (Below.refl wr.heap.size wr).alloc (Nat.le_refl _) (.cells #[.int .u64 (t : Int)] 32)
        have HRW : Hid ((wr.alloc (.cells #[.int .u64 (t : Int)] 32)).ownsRow W.heap.size 32 1 (.slice A' i cap) i (keysV (turnsL i))) := Lib.hid (own_below hR.out hbA)
        have HNW : Hid (Reads (wr.alloc (.cells #[.int .u64 (t : Int)] 32)) (wr.alloc (.cells #[.int .u64 (t : Int)] 32)).heap.size 1 (some ⟨wr.heap.size, 0, none⟩) 1 [.int .u64 (t : Int)]) := Lib.hid (blk_reads (Blk.new wr 32 [Value.int .u64 (t : Int)].toArray))
        have HSZ : Hid (W.heap.size ≤ (wr.alloc (.cells #[.int .u64 (t : Int)] 32)).heap.size) := Lib.hid (Nat.le_trans hB.out.size hbA.size)
        have HAP : Hid (∀ v' W', W'.ownsRow W.heap.size 32 1 v' (i + 1) (keysV (turnsL i) ++ [.int .u64 (t : Int)]) → (wr.alloc (.cells #[.int .u64 (t : Int)] 32)).grownBy W' (Value.slice A' i cap).ownBlock → ∃ A2 cap2, v' = .slice A2 (i + 1) cap2 ∧ Hid (W'.ownsRow W.heap.size 32 1 (.slice A2 (i + 1) cap2) (i + 1) (keysV (turnsL (i + 1)))) ∧ Hid (Below W.heap.size W W')) := Lib.hid fun v' W' h1 h2 => by
          rw [ht.out, ← turnsL_succ] at h1
          obtain ⟨A2, cap2, rfl, _⟩ := own_slice h1
          exact ⟨A2, cap2, rfl, Lib.hid h1, Lib.hid (below_app (below_two hB.out hbA) HRW.out h2)⟩
        clear hbA hR hB HTu ht
        generalize keysV (turnsL i) = xs at *
        go_wp2_with fail
        refine (HTT.out _).mono ?_
        rintro e w4 ⟨rfl, rfl⟩
        go_wp2_with (first
          | (at_builtin
             go_must (refine wpList_append_any _ rfl (.tmp 11) (.tmp 15) _ rfl W.heap.size 32 i0 _ 1 8 Tryz.underlying22 hi0 hz0 hz1 hz2 rfl (by omega) (.slice A' i cap) i xs rfl HRW.out _ (some ⟨wr.heap.size, 0, none⟩) 1 1 [.int .u64 (t : Int)] rfl HNW.out (by simp [Value.oneCell']) (by simp only [maxLen]; omega) (by omega) HSZ.out ?_)
             intro v1 w5 hown1 hg1 _
             obtain ⟨A2, cap2, hv2, HR2, HB2⟩ := HAP.out _ _ hown1 hg1
             subst hv2
             clear hown1 hg1))
        go_roundw
        case rel => exact ⟨i + 1, A2, cap2, by omega, rfl, by go_num, HR2, HB2⟩
        case measure => simp [intOf]; omega
      · obtain rfl : i = m := by omega
        have hge := ge_eq3 HBM.out
        have HF := Lib.hid (HFin.out _ _ hR.out hB.out)
        clear hR hB HFin
        go_wp2
        go_ret
        exact HF.out
theorem pick_new (k : Nat) : (pickS c22 (newS c22) k 0).1.2.2 = 0 := by
  obtain ⟨x, kept, hp, _⟩ := pickS_step (c := c22) (s := newS c22) (k := k) (n := 0) (Nat.zero_le _) (by omega) (by rw [openOf_new]; exact List.length_pos_iff.1 ok_22.h0) (by rw [openOf_new]; exact ok_22.tf) (by decide)
  have hp2 : pickS c22 (newS c22) k 0 = _ := hp
  rw [hp2]
theorem played_codes : (runS [0, -1, 40] ((newS c22, newS c22), 0)).1 = [0, -1, 0] := by
  have h0 : ∀ d : DS, (oneS 0 d).1 = (pickS c22 d.1.1 0 d.2).1.2.2 ∧ (oneS 0 d).2.1.2 = d.1.2 ∧ (oneS 0 d).2.2 = d.2 := fun d => ⟨rfl, rfl, rfl⟩
  have h40 : ∀ d : DS, (oneS 40 d).1 = (pickS c22 d.1.2 2 d.2).1.2.2 := fun d => rfl
  have e : (runS [0, -1, 40] ((newS c22, newS c22), 0)).1 = [((oneS 0 ((newS c22, newS c22), 0)).1 : Int), -1, ((oneS 40 (oneS 0 ((newS c22, newS c22), 0)).2).1 : Int)] := rfl
  rw [e, h40, (h0 _).1, (h0 _).2.1, (h0 _).2.2]
  show [((pickS c22 (newS c22) 0 0).1.2.2 : Int), -1, ((pickS c22 (newS c22) 2 0).1.2.2 : Int)] = _
  rw [pick_new, pick_new]
  rfl
theorem own_cap1 {w : World} {B n cap size : Nat} {A : Option Addr} {e : TypeId} {xs : List Value} (h : w.ownsRow B e size (.slice A n cap) n xs) : n ≤ cap := by
  obtain ⟨A', c, hv, _, h1, _⟩ := own_slice h
  injection hv with _ _ h3
  omega
/-- Where a duo lies. -/
structure DPl where
  dp : Nat
  lo : Nat
  hi : Nat
  lo2 : Nat
  hi2 : Nat
  L : Nat
  H : Nat
  p : BPl
  q : BPl
def DPl.bs (x : DPl) : List Nat := x.p.bs ++ x.q.bs
structure DuoS (ea : Nat → Addr) (w W : World) (x : DPl) (k now : Nat) (st : BS × BS) : Prop where
  a : DuoAt ea w W x.dp x.lo x.hi x.lo2 x.hi2 x.p x.q k now st
  s : Span x.L x.H x.dp x.lo x.hi x.lo2 x.hi2
  z : x.H ≤ W.heap.size
section
variable {ea : Nat → Addr} {w W W' : World} {x y : DPl} {k now k2 now2 : Nat} {st st2 : BS × BS}
theorem DuoS.below (h : DuoS ea w W x k now st) (hb : Below W.heap.size W W') : DuoS ea w W' x k now st := ⟨h.a.below hb, h.s, Nat.le_trans h.z hb.size⟩
theorem DuoS.bsIn (h : DuoS ea w W x k now st) : ∀ b ∈ x.bs, w.heap.size ≤ b ∧ x.L ≤ b ∧ b < x.H := fun b hb => by
  have h1 := h.a.bsIn h.s b hb
  refine ⟨?_, h1⟩
  rcases List.mem_append.1 hb with hb | hb
  · exact Nat.le_trans h.a.x.le (h.a.x.b.allLo b (x.p.bs_all b hb))
  · exact Nat.le_trans h.a.y.le (h.a.y.b.allLo b (x.q.bs_all b hb))
/-- Another duo turns. -/
theorem DuoS.other (h : DuoS ea w W x k now st) (h2 : DuoS ea w W y k2 now2 st2) (hE : ErrsB ea w) (ht : Turn y.bs W W') (hxy : x.H ≤ y.L ∨ y.H ≤ x.L) : DuoS ea w W' x k now st :=
  ⟨h.a.span h.s hE ht fun b hb => by have := h2.bsIn b hb; omega, h.s, Nat.le_trans h.z ht.size⟩
/-- A row behind a duo stays. -/
theorem DuoS.row {B n size : Nat} {e : TypeId} {v : Value} {xs : List Value} (h : DuoS ea w W x k now st) (ho : W.ownsRow B e size v n xs) (hB : x.H ≤ B) (ht : Turn x.bs W W') : W'.ownsRow B e size v n xs :=
  ht.own ho fun g hg hm => by have := (ho.lt g hg).1; have := h.bsIn g hm; omega
def NewDuoS (ea : Nat → Addr) (w W : World) (e : Ending) (w' : World) : Prop :=
  ∃ x : DPl, e = .returned (.pointer (some ⟨x.dp, 0, none⟩)) ∧ DuoS ea w w' x 0 0 (newS c22, newS c22) ∧ x.L = W.heap.size ∧ Below W.heap.size W w'
theorem playNewS (hE0 : ErrsB ea w) (hw : Below w.heap.size w W) : Calls Tryz.prog 20 #[] W (NewDuoS ea w W) :=
  (playNew_any hE0 hw).mono fun _ _ ⟨dp, lo, hi, lo2, hi2, p, q, a, b, c, d⟩ => ⟨⟨dp, lo, hi, lo2, hi2, _, _, p, q⟩, a, ⟨b, c, Nat.le_refl _⟩, rfl, d⟩
def RunS (ea : Nat → Addr) (w : World) (x : DPl) (l : List Int) (st : BS × BS) (W : World) (e : Ending) (w' : World) : Prop :=
  ∃ (A' : Option Addr) (cap : Nat), e = .returned (.slice A' l.length cap) ∧ w'.ownsRow W.heap.size 3 1 (.slice A' l.length cap) l.length ((runS l (st, 0)).1.map intV) ∧ (∃ now, DuoS ea w w' x l.length now (runS l (st, 0)).2.1) ∧ Turn x.bs W w'
theorem runS_any {A : Option Addr} {ca : Nat} {l : List Int} (hE : ErrsB ea w) (hE9 : ErrsW ea w) (hG : HandleAt w) (hW : CarW w) (hK : ErrsK ea w) (h : DuoS ea w W x 0 0 st)
    (hr : ∀ W', Turn x.bs W W' → Reads W' W'.heap.size 1 A l.length (l.map intV)) (hl : l.length ≤ 1000) (hlc : l.length ≤ ca) (hv : ∀ z ∈ l, z ≤ 9223372036854775807) :
    Calls Tryz.prog 21 #[.pointer (some ⟨x.dp, 0, none⟩), .slice A l.length ca] W (RunS ea w x l st W) :=
  (run_any hE hE9 hG hW hK h.a hr hl hlc hv).mono fun _ w' ⟨v, a, b, c, d⟩ => by
    obtain ⟨A', cap, rfl, _⟩ := own_slice b
    exact ⟨A', cap, a, b, ⟨_, c, h.s, Nat.le_trans h.z d.size⟩, d⟩
end
set_option maxRecDepth 100000 in
set_option maxHeartbeats 2000000 in
theorem played_any (ea : Nat → Addr) (w : World) (hE : ErrsB ea w) (hE9 : ErrsW ea w) (hG : HandleAt w) (hW : CarW w) (hK : ErrsK ea w) : Calls Tryz.prog 19 #[] w (True1 w) := by
  have HN := Lib.hid (playNewS (ea := ea) hE (Below.refl w.heap.size w))
  have HR : Hid (∀ W1 x, DuoS ea w W1 x 0 0 (newS c22, newS c22) → Below w.heap.size w W1 → Calls Tryz.prog 21 #[.pointer (some ⟨x.dp, 0, none⟩), .slice (some ⟨W1.heap.size, 0, none⟩) 3 3] (W1.alloc (.cells #[.int .i64 0, .int .i64 (-1), .int .i64 40] 3)) fun e w' => ∃ (A' : Option Addr) (cap : Nat), e = .returned (.slice A' 3 cap) ∧ Reads w' w'.heap.size 1 A' 3 [.int .i64 0, .int .i64 (-1), .int .i64 0] ∧ Below w.heap.size w w') := Lib.hid fun W1 x h hw => by
    have hb := (Below.refl W1.heap.size W1).alloc (Nat.le_refl _) (.cells #[.int .i64 0, .int .i64 (-1), .int .i64 40] 3)
    have hX := Blk.new W1 3 #[.int .i64 0, .int .i64 (-1), .int .i64 40]
    have h2 := h.below hb
    refine (runS_any (l := [0, -1, 40]) hE hE9 hG hW hK h2 (fun W' ht => ?_) (by decide) (by decide) (by decide)).mono fun e w' ⟨A', cap, a, b, ⟨now, c⟩, d⟩ => ⟨A', cap, a, ?_, (below_two hw hb).trans (d.below (below_two hw hb).size fun g hg => (h2.bsIn g hg).1)⟩
    · exact blk_reads (ht.blk hX fun hm => by have := h2.bsIn _ hm; have := h.z; omega)
    · rw [played_codes] at b
      exact Reads.of_own b
  have HK3 : Hid (∀ W', Calls Tryz.prog 29 #[.int .i64 3] W' fun e w' => ∃ (A' : Option Addr) (cap : Nat), e = .returned (.slice A' 3 cap) ∧ Below W'.heap.size W' w') := Lib.hid fun W' => (keys_any 3 3 (by decide) W').mono fun e w' ⟨v, a, b, c⟩ => by
    obtain ⟨A', cap, rfl, _⟩ := own_slice b
    exact ⟨A', cap, a, c⟩
  have HSI : Hid (∀ W1 A' cap, Reads W1 W1.heap.size 1 A' 3 [.int .i64 0, .int .i64 (-1), .int .i64 0] → Calls Tryz.prog 22 #[.slice A' 3 cap, .slice (some ⟨W1.heap.size, 0, none⟩) 3 3] (W1.alloc (.cells #[.int .i64 0, .int .i64 (-1), .int .i64 0] 3)) fun e w' => e = .returned (.bool true) ∧ ∃ m, w' = (W1.alloc (.cells #[.int .i64 0, .int .i64 (-1), .int .i64 0] 3)).drewN m) := Lib.hid fun W1 A' cap h1 => by
    have hb := (Below.refl W1.heap.size W1).alloc (Nat.le_refl _) (.cells #[.int .i64 0, .int .i64 (-1), .int .i64 0] 3)
    have hX := blk_reads (Blk.new W1 3 #[.int .i64 0, .int .i64 (-1), .int .i64 0])
    exact sameInts A' (some ⟨W1.heap.size, 0, none⟩) cap 3 _ [0, -1, 0] [0, -1, 0] _ ((h1.below hb).more hb.size) hX (by decide) (by decide)
  unfold NewDuoS at HN
  clear hE hE9 hG hW hK
  go_enter Tryz.func19, Tryz.ntmps19
  go_wp2_with fail
  refine HN.out.mono ?_
  rintro e w1 ⟨x, rfl, hx1, _, hb1⟩
  have HR1 := Lib.hid (HR.out w1 x hx1 hb1)
  clear hx1 HR hb1
  go_wp2_with fail
  refine HR1.out.mono ?_
  rintro e w2 ⟨A2, c2, rfl, r2, hb2⟩
  have HS2 := Lib.hid (HSI.out w2 A2 c2 r2)
  have HB2 := Lib.hid (below_two hb2 ((Below.refl w2.heap.size w2).alloc (Nat.le_refl _) (.cells #[.int .i64 0, .int .i64 (-1), .int .i64 0] 3)))
  clear r2 hb2 HR1 HSI
  go_wp2_with fail
  refine HS2.out.mono ?_
  rintro e w3 ⟨rfl, m3, rfl⟩
  go_wp2_with fail
  refine (HK3.out _).mono ?_
  rintro e w4 ⟨A4, c4, rfl, hb4⟩
  go_wp2_with fail
  go_ret
  exact ⟨rfl, below_two (below_drewN HB2.out m3) hb4⟩
end Go.Proofs.YteilefpjfbholaaGreatDoor
