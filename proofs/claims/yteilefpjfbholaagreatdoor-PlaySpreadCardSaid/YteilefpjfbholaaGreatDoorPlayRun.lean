/-
  Package play's Run.
-/
import Derived.Test.YteilefpjfbholaaGreatDoorPlayOne
import Derived.Test.YteilefpjfbholaaGreatDoorCode
import Derived.Test.YteilefpjfbholaaGreatDoorSame
namespace Go.Proofs.YteilefpjfbholaaGreatDoor
open Go.RowKit

section
variable {ea : Nat → Addr} {w W W' : World} {dp np lo hi lo2 hi2 k : Nat} {p q : BPl}
/-- What a code of an act is told as. -/
theorem codeZ {c : Nat} (hE : ErrsW ea W) (hG : HandleAt W) (hc : c ≤ 9) : Calls Tryz.prog 56 #[errZ ea c] W fun e w' => e = .returned (.tuple #[.int .i64 (c : Int), .int .i64 (-1)]) ∧ Below W.heap.size W w' := by
  rcases Nat.eq_zero_or_pos c with rfl | h0
  · exact (code_nil W).mono fun e w' ⟨a, b⟩ => ⟨a, b ▸ Below.refl _ _⟩
  · have e : errZ ea c = .iface 330 (.pointer (some (ea (gv c)))) := errZ_some ea (by omega)
    rw [e]
    exact code_any (f := ⟨c, none⟩) hE hG h0 hc ⟨rfl, rfl⟩
theorem stepS_of {i : Nat} {l : List Int} {d : DS} (h : i < l.length) (hv : l[i] < 0) : runS (l.take (i + 1)) d = ((runS (l.take i) d).1 ++ [-1], (runS (l.take i) d).2) := by
  rw [runS_take h]; unfold stepS; rw [if_pos hv]
theorem stepS_on {i : Nat} {l : List Int} {d : DS} {v : Nat} (h : i < l.length) (hv : l[i] = (v : Int)) : runS (l.take (i + 1)) d = ((runS (l.take i) d).1 ++ [((oneS v (runS (l.take i) d).2).1 : Int)], (oneS v (runS (l.take i) d).2).2) := by
  rw [runS_take h]; unfold stepS; rw [hv, if_neg (by omega), Int.toNat_natCast]
/-- What stands in a run. -/
structure Rn (ea : Nat → Addr) (w W W' : World) (B dp np lo hi lo2 hi2 : Nat) (p q : BPl) (k : Nat) (r : List Int × DS) (v : Value) : Prop where
  d : Du ea w W' dp np lo hi lo2 hi2 p q k r.2
  o : W'.ownsRow B 3 1 v k (r.1.map intV)
  t : Turn (p.bs ++ q.bs) W W'
  n : W.heap.size ≤ np ∧ np < B ∧ W.heap.size ≤ B ∧ B ≤ W'.heap.size
  f : ∀ b, (b ∈ p.all ∨ b ∈ q.all ∨ b = dp) → b < W.heap.size
  z : w.heap.size ≤ W.heap.size
section
variable {W1 : World} {B : Nat} {r r' : List Int × DS} {v v' : Value}
theorem Rn.below (h : Rn ea w W W' B dp np lo hi lo2 hi2 p q k r v) (hb : Below W'.heap.size W' W1) : Rn ea w W W1 B dp np lo hi lo2 hi2 p q k r v :=
  ⟨h.d.below hb, own_below h.o hb, h.t.thenB hb, ⟨h.n.1, h.n.2.1, h.n.2.2.1, Nat.le_trans h.n.2.2.2 hb.size⟩, h.f, h.z⟩
/-- A number is done. -/
theorem Rn.one {d' : DS} (h : Rn ea w W W' B dp np lo hi lo2 hi2 p q k r v) (hd : Du ea w W1 dp np lo hi lo2 hi2 p q (k + 1) d') (ht : Turn (np :: (p.bs ++ q.bs)) W' W1) : W1.ownsRow B 3 1 v k (r.1.map intV) ∧ Turn (p.bs ++ q.bs) W W1 ∧ B ≤ W1.heap.size := by
  refine ⟨ht.own h.o fun g hg hm => ?_, h.t.trans ht fun c hc => ?_, Nat.le_trans h.n.2.2.2 ht.size⟩
  · have h1 := (h.o.lt g hg).1
    have h2 := h.n
    rcases List.mem_cons.1 hm with rfl | hm
    · omega
    · rcases List.mem_append.1 hm with hm | hm
      · have := h.f g (.inl (p.bs_all g hm)); omega
      · have := h.f g (.inr (.inl (q.bs_all g hm))); omega
  · rcases List.mem_cons.1 hc with rfl | hc
    · exact .inr h.n.1
    · exact .inl hc
/-- An answer is written. -/
theorem rn_app2 {d' : DS} {c : Int} (hE : ErrsB ea w) (hd : Du ea w W' dp np lo hi lo2 hi2 p q (k + 1) d') (ho0 : W'.ownsRow B 3 1 v k (r.1.map intV)) (ht0 : Turn (p.bs ++ q.bs) W W') (hn : W.heap.size ≤ np ∧ np < B ∧ W.heap.size ≤ B ∧ B ≤ W'.heap.size) (hf : ∀ b, (b ∈ p.all ∨ b ∈ q.all ∨ b = dp) → b < W.heap.size) (hz : w.heap.size ≤ W.heap.size) (ho : W1.ownsRow B 3 1 v' (k + 1) (r.1.map intV ++ [.int .i64 c])) (hg : W'.grownBy W1 v.ownBlock) : Rn ea w W W1 B dp np lo hi lo2 hi2 p q (k + 1) (r.1 ++ [c], d') v' := by
  have ht : Turn v.ownBlock.toList W' W1 := Turn.of_grown hg fun g hg => by simpa using hg
  have hlo : ∀ b ∈ v.ownBlock.toList, B ≤ b := fun b hb => (ho0.lt b (by simpa using hb)).1
  have hD := hd.a.far hE ht fun b hb => by
    have := hlo b hb
    exact ⟨by omega, fun hm => by have := hf b (.inl hm); omega, fun hm => by have := hf b (.inr (.inl hm)); omega, fun hm => by have := hf b (.inr (.inr hm)); omega⟩
  refine ⟨⟨hD, ht.blk hd.nk fun hm => by have := hlo _ hm; omega, hd.nw, hd.nf⟩, ?_, ht0.trans ht fun b hb => .inr (by have := hlo b hb; omega), ⟨hn.1, hn.2.1, hn.2.2.1, Nat.le_trans hn.2.2.2 hg.size⟩, hf, hz⟩
  rw [List.map_append]
  exact ho
/-- The same out of a run's state. -/
theorem Rn.app {d' : DS} {c : Int} (hE : ErrsB ea w) (h : Rn ea w W W' B dp np lo hi lo2 hi2 p q k r v) (hd : Du ea w W' dp np lo hi lo2 hi2 p q (k + 1) d') (ho : W1.ownsRow B 3 1 v' (k + 1) (r.1.map intV ++ [.int .i64 c])) (hg : W'.grownBy W1 v.ownBlock) : Rn ea w W W1 B dp np lo hi lo2 hi2 p q (k + 1) (r.1 ++ [c], d') v' :=
  rn_app2 hE hd h.o h.t h.n h.f h.z ho hg
end
def RunPost (ea : Nat → Addr) (w : World) (dp lo hi lo2 hi2 : Nat) (p q : BPl) (k : Nat) (r : List Int × DS) (W : World) (e : Ending) (w' : World) : Prop :=
  ∃ v, e = .returned v ∧ w'.ownsRow W.heap.size 3 1 v k (r.1.map intV) ∧ DuoAt ea w w' dp lo hi lo2 hi2 p q k r.2.2 r.2.1 ∧ Turn (p.bs ++ q.bs) W w'
set_option maxRecDepth 100000 in
set_option maxHeartbeats 4000000 in
theorem run_any {A : Option Addr} {ca : Nat} {l : List Int} {st : BS × BS} (hE : ErrsB ea w) (hE9 : ErrsW ea w) (hG : HandleAt w) (hW : CarW w) (hK : ErrsK ea w) (h : DuoAt ea w W dp lo hi lo2 hi2 p q 0 0 st)
    (hr : ∀ W', Turn (p.bs ++ q.bs) W W' → Reads W' W'.heap.size 1 A l.length (l.map intV)) (hl : l.length ≤ 1000) (hlc : l.length ≤ ca) (hv : ∀ x ∈ l, x ≤ 9223372036854775807) :
    Calls Tryz.prog 21 #[.pointer (some ⟨dp, 0, none⟩), .slice A l.length ca] W (RunPost ea w dp lo hi lo2 hi2 p q l.length (runS l (st, 0)) W) := by
  obtain ⟨i0, hi0, hz0, hz1, hz2⟩ := info_parts info_num
  have hbN := (Below.refl W.heap.size W).alloc (Nat.le_refl _) (.cells #[.int .i64 0] 3)
  have hXN := Blk.new W 3 #[.int .i64 0]
  obtain ⟨W0, hW0⟩ : ∃ W0, W0 = W.alloc (.cells #[.int .i64 0] 3) := ⟨_, rfl⟩
  rw [← hW0] at hbN hXN
  have HR0 : Hid (Rn ea w W W0 W0.heap.size dp W.heap.size lo hi lo2 hi2 p q 0 (runS (l.take 0) (st, 0)) (.slice none 0 0)) := Lib.hid (by
    have hlt := hXN.lt
    have hpl := h.x.b.lt
    have hql := h.y.b.lt
    have hdl := h.dk.lt
    have hsz := h.x.w.size
    refine ⟨⟨h.below hbN, hXN, Nat.le_refl _, hsz, fun hm => absurd (hpl _ hm) (by omega), fun hm => absurd (hql _ hm) (by omega), by omega⟩, World.ownsRow_nil _ _ _ _, Turn.of_below hbN, ⟨Nat.le_refl _, hlt, hbN.size, Nat.le_refl _⟩, fun b hb => ?_, hsz⟩
    rcases hb with hb | hb | rfl
    · exact hpl b hb
    · exact hql b hb
    · exact hdl)
  have HRd := Lib.hid (fun W' (ht : Turn (p.bs ++ q.bs) W W') i (hi : i < l.length) => (show ∃ ad, A = some ad ∧ W'.cell? (ad.add i) = some (.int .i64 l[i]) from by
    obtain ⟨ad, u, hA, _, hu, hc⟩ := (hr W' ht).at_ hi
    refine ⟨ad, hA, ?_⟩
    rw [hc, ← hu]
    simp [hi, intV]))
  have HV := Lib.hid hv
  have HOne : Hid (∀ W1 k d (v : Nat), Du ea w W1 dp W.heap.size lo hi lo2 hi2 p q k d → v ≤ 9223372036854775807 → k ≤ 1000 → Calls Tryz.prog 57 #[.pointer (some ⟨dp, 0, none⟩), .int .i64 (v : Int), .pointer (some ⟨W.heap.size, 0, none⟩)] W1 (OnePost ea w dp W.heap.size lo hi lo2 hi2 p q (k + 1) (oneS v d) W1)) := Lib.hid fun W1 k d v hd h1 h2 => one_any h1 hE hW hK hd (by omega)
  have HCo : Hid (∀ W1 c, Below w.heap.size w W1 → c ≤ 9 → Calls Tryz.prog 56 #[errZ ea c] W1 fun e w' => e = .returned (.tuple #[.int .i64 (c : Int), .int .i64 (-1)]) ∧ Below W1.heap.size W1 w') := Lib.hid fun W1 c hb hc => codeZ (hE9.below hb) (hG.below hb) hc
  have HEB := Lib.hid hE
  have hmin : ¬ (3000 : Int) < (l.length : Int) := by omega
  have hmin2 : ¬ 3000 < l.length := by omega
  have hlc2 : (l.length : Int) ≤ (ca : Int) := by omega
  have HFin : Hid (∀ W' v, Rn ea w W W' W0.heap.size dp W.heap.size lo hi lo2 hi2 p q l.length (runS (l.take l.length) (st, 0)) v → RunPost ea w dp lo hi lo2 hi2 p q l.length (runS l (st, 0)) W (.returned v) W') := Lib.hid fun W' v hR => by
    rw [List.take_length] at hR
    exact ⟨v, rfl, own_base hR.o hR.n.2.2.1, hR.d.a, hR.t⟩
  have HLS := Lib.hid hXN.lt
  clear hE hE9 hG hW hK h hr hv hXN hbN
  go_enter Tryz.func21, Tryz.ntmps21
  go_wp2_with fail
  rw [← hW0]
  clear hW0
  generalize W0.heap.size = B at *
  go_loopw [5, 16] (fun sv iv wr => ∃ (i : Nat) (A' : Option Addr) (cap : Nat), i ≤ l.length ∧ sv = .slice A' i cap ∧ iv = .int .i64 (i : Int) ∧ Hid (Rn ea w W wr B dp W.heap.size lo hi lo2 hi2 p q i (runS (l.take i) (st, 0)) (.slice A' i cap))) (fun _ iv _ => l.length + 1 - (intOf iv).toNat)
  case atStart => exact ⟨0, none, 0, Nat.zero_le _, rfl, rfl, HR0⟩
  case round =>
    obtain ⟨i, A', cap, hile, rfl, rfl, hR⟩ := hrel
    clear HR0
    by_cases hil : i < l.length
    · have hil2 : (i : Int) < l.length := by omega
      obtain ⟨ad, rfl, ck⟩ := HRd.out wr hR.out.t i hil
      have hvb := HV.out _ (List.getElem_mem hil)
      have hi1000 : i ≤ 1000 := by omega
      have hrl := runS_len l (st, 0) i hile
      by_cases hneg : l[i] < 0
      · have hs := stepS_of (d := (st, 0)) hil hneg
        have d1 : decide (l[i] ≥ 0) = false := by simpa using hneg
        have HAP : Hid (∀ v' W', W'.ownsRow B 3 1 v' (i + 1) ((runS (l.take i) (st, 0)).1.map intV ++ [.int .i64 (-1)]) → (wr.alloc (.cells #[.int .i64 (-1)] 3)).grownBy W' (Value.slice A' i cap).ownBlock → ∃ A2 cap2, v' = .slice A2 (i + 1) cap2 ∧ Hid (Rn ea w W W' B dp W.heap.size lo hi lo2 hi2 p q (i + 1) (runS (l.take (i + 1)) (st, 0)) (.slice A2 (i + 1) cap2))) := Lib.hid fun v' W' h1 h2 => by
          obtain ⟨A2, cap2, rfl, _⟩ := own_slice h1
          have hb := (Below.refl wr.heap.size wr).alloc (Nat.le_refl _) (.cells #[.int .i64 (-1)] 3)
          have hR2 := hR.out.below hb
          rw [hs]
          exact ⟨A2, cap2, rfl, Lib.hid (hR2.app (d' := (runS (l.take i) (st, 0)).2) HEB.out (hR2.d.turn (d' := (runS (l.take i) (st, 0)).2) hR2.d.a.x hR2.d.a.y (Turn.refl _ _) rfl (hR2.d.a.ix.more (Nat.le_succ i) (Nat.le_refl _)) (hR2.d.a.iy.more (Nat.le_succ i) (Nat.le_refl _)) (Nat.le_succ i)) h1 h2)⟩
        have HRW : Hid ((wr.alloc (.cells #[.int .i64 (-1)] 3)).ownsRow B 3 1 (.slice A' i cap) i ((runS (l.take i) (st, 0)).1.map intV)) := Lib.hid (hR.out.below ((Below.refl wr.heap.size wr).alloc (Nat.le_refl _) (.cells #[.int .i64 (-1)] 3))).o
        have HNW : Hid (Reads (wr.alloc (.cells #[.int .i64 (-1)] 3)) (wr.alloc (.cells #[.int .i64 (-1)] 3)).heap.size 1 (some ⟨wr.heap.size, 0, none⟩) 1 [.int .i64 (-1)]) := Lib.hid (blk_reads (Blk.new wr 3 [Value.int .i64 (-1)].toArray))
        have HSZ : Hid (B ≤ (wr.alloc (.cells #[.int .i64 (-1)] 3)).heap.size) := Lib.hid (Nat.le_trans hR.out.n.2.2.2 ((Below.refl wr.heap.size wr).alloc (Nat.le_refl _) _).size)
        clear hs hrl hR
        generalize l[i] = v at *
        generalize (runS (l.take i) (st, 0)).1.map intV = xs at *
        go_wp2_with (first
          | (at_builtin
             go_must (refine wpList_append_any _ rfl (.tmp 29) (.tmp 31) _ rfl B 3 i0 _ 1 8 Tryz.underlying51 hi0 hz0 hz1 hz2 rfl (by omega) (.slice A' i cap) i xs rfl HRW.out _ (some ⟨wr.heap.size, 0, none⟩) 1 1 [.int .i64 (-1)] rfl HNW.out (by simp [Value.oneCell']) (by simp only [maxLen]; omega) (by omega) HSZ.out ?_)
             intro v1 w5 hown1 hg1 _
             obtain ⟨A2, cap2, hv2, HR2⟩ := HAP.out _ _ hown1 hg1
             subst hv2
             clear hown1 hg1))
        go_roundw
        case rel => exact ⟨i + 1, A2, cap2, by omega, rfl, by go_num, HR2⟩
        case measure => simp [intOf]; omega
      · obtain ⟨n, hn⟩ := Int.eq_ofNat_of_zero_le (by omega : 0 ≤ l[i])
        have hs := stepS_on (d := (st, 0)) hil hn
        rw [hn] at ck hvb
        have d1 : decide ((n : Int) ≥ 0) = true := by simp
        have HO1 := Lib.hid (HOne.out wr i _ n hR.out.d (by omega) hi1000)
        obtain ⟨d', hd'⟩ : ∃ d', d' = oneS n (runS (l.take i) (st, 0)).2 := ⟨_, rfl⟩
        rw [← hd'] at hs HO1
        have hc9 : d'.1 ≤ 9 := by rw [hd']; exact oneS_le n _
        have HAP : Hid (∀ w5 w6, Du ea w w5 dp W.heap.size lo hi lo2 hi2 p q (i + 1) d'.2 → Turn (W.heap.size :: (p.bs ++ q.bs)) wr w5 → Below w5.heap.size w5 w6 →
            (w6.alloc (.cells #[.int .i64 (d'.1 : Int)] 3)).ownsRow B 3 1 (.slice A' i cap) i ((runS (l.take i) (st, 0)).1.map intV) ∧ B ≤ (w6.alloc (.cells #[.int .i64 (d'.1 : Int)] 3)).heap.size ∧
            ∀ v' W', W'.ownsRow B 3 1 v' (i + 1) ((runS (l.take i) (st, 0)).1.map intV ++ [.int .i64 (d'.1 : Int)]) → (w6.alloc (.cells #[.int .i64 (d'.1 : Int)] 3)).grownBy W' (Value.slice A' i cap).ownBlock → ∃ A2 cap2, v' = .slice A2 (i + 1) cap2 ∧ Hid (Rn ea w W W' B dp W.heap.size lo hi lo2 hi2 p q (i + 1) (runS (l.take (i + 1)) (st, 0)) (.slice A2 (i + 1) cap2))) := Lib.hid fun w5 w6 hD5 hT5 hb6 => by
          have hb7 := (Below.refl w6.heap.size w6).alloc (Nat.le_refl _) (.cells #[.int .i64 (d'.1 : Int)] 3)
          obtain ⟨o5, t5, n5⟩ := hR.out.one hD5 hT5
          have o7 := own_below (own_below o5 hb6) hb7
          have t7 := (t5.thenB hb6).thenB hb7
          have n7 : B ≤ (w6.alloc (.cells #[.int .i64 (d'.1 : Int)] 3)).heap.size := Nat.le_trans n5 (Nat.le_trans hb6.size hb7.size)
          have d7 := (hD5.below hb6).below hb7
          refine ⟨o7, n7, fun v' W' h1 h2 => ?_⟩
          obtain ⟨A2, cap2, rfl, _⟩ := own_slice h1
          rw [hs]
          have hn0 := hR.out.n
          refine ⟨A2, cap2, rfl, Lib.hid ?_⟩
          have hRR := rn_app2 (W' := w6.alloc (.cells #[.int .i64 (d'.1 : Int)] 3)) (r := runS (l.take i) (st, 0)) HEB.out d7 o7 t7 ⟨hn0.1, hn0.2.1, hn0.2.2.1, n7⟩ hR.out.f hR.out.z h1 h2
          exact hRR
        have HCB : Hid (∀ w5, Du ea w w5 dp W.heap.size lo hi lo2 hi2 p q (i + 1) d'.2 → Below w.heap.size w w5) := Lib.hid fun w5 h => h.a.x.w
        clear hs hrl hR hd' hn
        generalize l[i] = v at *
        generalize (runS (l.take i) (st, 0)).1.map intV = xs at *
        unfold OnePost at HO1
        obtain ⟨c', d''⟩ := d'
        dsimp only at *
        go_wp2_with fail
        refine HO1.out.mono ?_
        rintro e w5 ⟨rfl, hD5, hT5⟩
        have HC5 := Lib.hid (HCo.out w5 c' (HCB.out w5 hD5) hc9)
        have HA5 := Lib.hid (fun w6 hb => HAP.out w5 w6 hD5 hT5 hb)
        clear hD5 hT5 HO1 HAP HCB HOne HCo
        generalize errZ ea c' = ev at *
        go_wp2_with fail
        refine HC5.out.mono ?_
        rintro e w6 ⟨rfl, hb6⟩
        obtain ⟨o7, n7, hfin⟩ := HA5.out w6 hb6
        have HRW := Lib.hid o7
        have HSZ := Lib.hid n7
        have HAP2 := Lib.hid hfin
        have HNW : Hid (Reads (w6.alloc (.cells #[.int .i64 (c' : Int)] 3)) (w6.alloc (.cells #[.int .i64 (c' : Int)] 3)).heap.size 1 (some ⟨w6.heap.size, 0, none⟩) 1 [.int .i64 (c' : Int)]) := Lib.hid (blk_reads (Blk.new w6 3 [Value.int .i64 (c' : Int)].toArray))
        clear o7 n7 hfin hb6 HC5 HA5
        go_wp2_with (first
          | (at_builtin
             go_must (refine wpList_append_any _ rfl (.tmp 29) (.tmp 31) _ rfl B 3 i0 _ 1 8 Tryz.underlying51 hi0 hz0 hz1 hz2 rfl (by omega) (.slice A' i cap) i xs rfl HRW.out _ (some ⟨w6.heap.size, 0, none⟩) 1 1 [.int .i64 (c' : Int)] rfl HNW.out (by simp [Value.oneCell']) (by simp only [maxLen]; omega) (by omega) HSZ.out ?_)
             intro v1 w8 hown1 hg1 _
             obtain ⟨A2, cap2, hv2, HR2⟩ := HAP2.out _ _ hown1 hg1
             subst hv2
             clear hown1 hg1))
        go_roundw
        case rel => exact ⟨i + 1, A2, cap2, by omega, rfl, by go_num, HR2⟩
        case measure => simp [intOf]; omega
    · obtain rfl : i = l.length := by omega
      have hge : ¬ (l.length : Int) < l.length := by omega
      have HF := Lib.hid (HFin.out _ _ hR.out)
      clear hR HFin
      go_wp2
      go_ret
      exact HF.out
end
end Go.Proofs.YteilefpjfbholaaGreatDoor
