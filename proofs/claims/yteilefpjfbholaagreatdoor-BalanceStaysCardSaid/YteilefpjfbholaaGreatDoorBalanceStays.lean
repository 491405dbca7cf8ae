/-
  The law BalanceStays: its walk.
-/
import Derived.Test.YteilefpjfbholaaGreatDoorBalCarry
import Derived.Test.YteilefpjfbholaaGreatDoorStaysPlain
import Derived.Test.YteilefpjfbholaaGreatDoorArgBActs
import Derived.Deep.RegionHeld3
import Derived.Deep.LoopGhost
import Derived.Deep.CutBlock
import Derived.Deep.DeepCutAuto
namespace Go.Proofs.YteilefpjfbholaaGreatDoor
open Go.RowKit

def sE : ByteArray := ⟨#[101]⟩
def c5 : BCfg := ⟨[sA, sB, sC, sD, sE], 31, 20, 1, 1⟩
theorem fault_5 : hostsFault c5.hosts = none := hostsFault_none.2 ⟨by decide, by decide +kernel, by decide +kernel⟩
theorem ok_5 : BOk c5 := ⟨fault_5, by decide, size_ok fault_5 (by decide) (size_prime (by decide) (by decide) (by decide +kernel)), by decide, by decide, by decide, by decide, by decide, by decide⟩
/-- What stands in the law's walk: the balance that has the key; the other one, where nothing is carried over yet. -/
structure Sty (ea : Nat → Addr) (w W : World) (lo hi lo2 hi2 : Nat) (p q : BPl) (key : Nat) (mine : ByteArray) (n m cnt E : Nat) (s : BS) : Prop where
  x : BNow ea w W lo hi p c5 s
  y : E = 0 → BNow ea w W lo2 hi2 q c5 (newS c5) ∧ Apart q p
  i : SInv c5 key mine n cnt ((m : Int) + 20) E s
section
variable {ea : Nat → Addr} {w W W' : World} {lo hi lo2 hi2 key n m cnt E : Nat} {p q : BPl} {mine : ByteArray} {s s' : BS}
theorem Sty.below (h : Sty ea w W lo hi lo2 hi2 p q key mine n m cnt E s) (hb : Below W.heap.size W W') : Sty ea w W' lo hi lo2 hi2 p q key mine n m cnt E s :=
  ⟨h.x.below hb, fun e => ⟨(h.y e).1.below hb, (h.y e).2⟩, h.i⟩
theorem Sty.turn {bs : List Nat} (h : Sty ea w W lo hi lo2 hi2 p q key mine n m cnt E s) (hB : BNow ea w W' lo hi p c5 s') (ht : Turn bs W W') (hs : ∀ b ∈ bs, b ∈ p.bs) {n' m' cnt' : Nat} (hi' : SInv c5 key mine n' cnt' ((m' : Int) + 20) E s') : Sty ea w W' lo hi lo2 hi2 p q key mine n' m' cnt' E s' :=
  ⟨hB, fun e => ⟨(h.y e).1.stay hB ht hs (h.y e).2, (h.y e).2⟩, hi'⟩
theorem sty_look (z : ByteArray) (v : Bool) (hz : mine ≠ z) (h : Sty ea w W lo hi lo2 hi2 p q key mine n m cnt E s) :
    Calls Tryz.prog 12 #[.pointer (some ⟨p.bp, 0, none⟩), .string z, .bool v] W fun r w' => ∃ (b : Bool) (ev : Value) (s' : BS), r = .returned (.tuple #[.bool b, ev]) ∧ Sty ea w w' lo hi lo2 hi2 p q key mine n m (cnt + 1) E s' :=
  (bn_look z v h.x ok_5).mono fun _ _ ⟨a, b, t⟩ => ⟨_, _, _, a, h.turn b t (fun _ hb => hb) ((h.i.look hz v).more (Nat.le_refl _) (Nat.le_succ _))⟩
theorem sty_drain (z : ByteArray) (v : Bool) (hz : z.size ≤ maxLen) (hc : cnt < 200) (h : Sty ea w W lo hi lo2 hi2 p q key mine n m cnt E s) :
    Calls Tryz.prog 18 #[.pointer (some ⟨p.bp, 0, none⟩), .string z, .bool v] W fun r w' => ∃ (ev : Value) (s' : BS), r = .returned ev ∧ Sty ea w w' lo hi lo2 hi2 p q key mine n m (cnt + 1) E s' := by
  refine (drain_any ea z v W h.x.e h.x.b hz (by have := h.i.nd; omega)).mono fun r w' hp => ?_
  rcases hp with ⟨_, a, b, t⟩ | ⟨_, a, _, b⟩
  · exact ⟨_, _, a, h.turn (h.x.turn b t (by intro b hb; rw [List.mem_singleton] at hb; subst hb; simp [BPl.bs])) t (by intro b hb; rw [List.mem_singleton] at hb; subst hb; simp [BPl.bs]) (h.i.drain _)⟩
  · have hb := h.below b
    exact ⟨_, s, a, hb.x, hb.y, hb.i.more (Nat.le_refl _) (Nat.le_succ _)⟩
theorem sty_pick (k : Nat) (hU : U64 k) (hc : cnt < 200) (hn : n ≤ 1000) (h : Sty ea w W lo hi lo2 hi2 p q key mine n n cnt E s) :
    Calls Tryz.prog 11 #[.pointer (some ⟨p.bp, 0, none⟩), .int .u64 (k : Int), .int .i64 (n : Int)] W fun r w' => ∃ (x : ByteArray) (b : Bool) (ev : Value) (s' : BS), r = .returned (.tuple #[.string x, .bool b, ev]) ∧ Sty ea w w' lo hi lo2 hi2 p q key mine n n (cnt + 1) E s' :=
  (pick_any ea k n W h.x.e h.x.b ok_5 hU).mono fun _ _ ⟨a, b, t⟩ => ⟨_, _, _, _, a, h.turn (h.x.turn b t p.fm) t p.fm (h.i.pick ok_5 h.x.b.same hn (by omega) rfl hc k)⟩
theorem sty_again (m' : Nat) (hm : m' = m + 1) (hU : U64 key) (hc : cnt < 200) (hn : n ≤ m') (hm2 : m ≤ 900) (h : Sty ea w W lo hi lo2 hi2 p q key mine n m cnt E s) :
    Calls Tryz.prog 11 #[.pointer (some ⟨p.bp, 0, none⟩), .int .u64 (key : Int), .int .i64 (m' : Int)] W fun r w' => ∃ s' : BS, r = .returned (.tuple #[.string mine, .bool true, .nilIface]) ∧ Sty ea w w' lo hi lo2 hi2 p q key mine m' m' (cnt + 1) E s' := by
  obtain ⟨s', hp, hi'⟩ := h.i.again (n' := m') hn (by omega) (by omega) hc
  exact (bn_pick key m' h.x ok_5 hU hp).mono fun _ _ ⟨a, b, t⟩ => ⟨_, a, h.turn b t p.fm hi'⟩
theorem sty_carry (m' : Nat) (hm : m' = m + 1) (hW : CarW w) (hK : ErrsK ea w) (hc : cnt < 200) (hn : n = m) (hm2 : m ≤ 900) (h : Sty ea w W lo hi lo2 hi2 p q key mine n m cnt 0 s) :
    ∃ tx : ByteArray, Hid (Calls Tryz.prog 13 #[.pointer (some ⟨p.bp, 0, none⟩)] W fun r w' => r = .returned (.tuple #[.string tx, .nilIface]) ∧
      Hid (Calls Tryz.prog 14 #[.pointer (some ⟨q.bp, 0, none⟩), .string tx, .int .i64 (m' : Int)] w' fun r w2 => ∃ (k : Nat) (s' : BS), r = .returned (.tuple #[.int .i64 (k : Int), .nilIface]) ∧ Sty ea w w2 lo2 hi2 lo2 hi2 q q key mine m' m cnt 1 s')) := by
  have he := h.i.ep
  have hck := h.i.check ok_5 (Nat.le_of_lt hc) (by omega) 1 (by omega) (by omega)
  have e1 : (s.epoch : Int) + 1 = 1 := by rw [he]; rfl
  have hx := bn_export h.x hW hK (fun x hx => hosts_small ok_5 x.host (h.i.fl x hx).1) (by omega) (by rw [e1]; exact hck)
  rw [e1, he] at hx
  refine ⟨_, Lib.hid (hx.mono fun r w' ⟨a, b, t⟩ => ⟨a, Lib.hid ?_⟩)⟩
  obtain ⟨hy, ha⟩ := h.y rfl
  have hrd := read_text hck fun x hx => h.x.b.f.map.u64 x hx
  exact (bn_import m' 1 s.fs.2 ⟨(textOf 1 s.fs.2).toArray⟩ (hy.stay b t p.be ha) hW hK hrd (by simp [newS]) (by simp [newS]) (by omega)).mono fun r w2 ⟨a, b, _⟩ => ⟨_, _, a, b, fun e => by omega, h.i.over ok_5 (Nat.le_of_lt hc) (by omega) (by omega) 1⟩
end
theorem stays_ways {a : Nat} {k : Int} (h : 60 < a ∨ k < 0) : decide ((a : Int) > 60) = true ∨ (decide ((a : Int) > 60) = false ∧ decide (k < 0) = true) := by
  simp only [decide_eq_true_eq, decide_eq_false_iff_not]; omega
set_option maxRecDepth 100000 in
set_option maxHeartbeats 1000000 in
theorem stays_skip (ea : Nat → Addr) (key : Nat) (A : Option Addr) (ca a : Nat) (k : Int) (w : World) (hE : ErrsB ea w) (_ha : a ≤ maxLen) (h : 60 < a ∨ k < 0) :
    Calls Tryz.prog 5 #[.int .u64 (key : Int), .slice A a ca, .int .i64 k] w (True1 w) := by
  unfold maxLen at _ha
  have HW := Lib.hid (balanced_any ea w hE)
  have hw := stays_ways h
  clear hE h
  rcases hw with d1 | ⟨d1, d2⟩
  all_goals
    go_enter Tryz.func5, Tryz.ntmps5
    go_wp2_with fail
    refine HW.out.mono ?_
    rintro e w1 ⟨rfl, hb1⟩
    go_wp2
    go_ret
    exact ⟨rfl, hb1⟩
theorem bkind_ways (l : List UInt8) : (l == [108, 111, 111, 107]) = true ∨ ((l == [108, 111, 111, 107]) = false ∧ (l == [100, 114, 97, 105, 110]) = true) ∨ ((l == [108, 111, 111, 107]) = false ∧ (l == [100, 114, 97, 105, 110]) = false) := by
  cases l == [108, 111, 111, 107] <;> cases l == [100, 114, 97, 105, 110] <;> simp
set_option maxRecDepth 100000 in
set_option maxHeartbeats 4000000 in
theorem stays_walk (ea : Nat → Addr) (A : Option Addr) (ca key over_ : Nat) (acts : List BAct) (w : World) (hE : ErrsB ea w) (hW : CarW w) (hK : ErrsK ea w) (hr : Reads w w.heap.size 6 A acts.length (bActsC acts)) (hs : ∀ a ∈ acts, BActOk a) (hU : U64 key) (h1 : acts.length ≤ 60) :
    Calls Tryz.prog 5 #[.int .u64 (key : Int), .slice A acts.length ca, .int .i64 (over_ : Int)] w (True1 w) := by
  have HWB := Lib.hid (balanced_any ea w hE)
  have d1 : decide ((acts.length : Int) > 60) = false := by simp; omega
  have d2 : decide ((over_ : Int) < 0) = false := by simp
  have HE := Lib.hid hE
  have HR := Lib.hid hr
  have HS := Lib.hid hs
  obtain ⟨mine, s1, hp1, hi1⟩ := SInv.first ok_5 key
  have hmm : (mine.toList != mine.toList) = false := by simp
  have HI1 := Lib.hid hi1
  have HN : Hid (∀ W W1, Below w.heap.size w W → Below (W.alloc (.cells #[.string ⟨#[97]⟩, .string ⟨#[98]⟩, .string ⟨#[99]⟩, .string ⟨#[100]⟩, .string ⟨#[101]⟩] 9)).heap.size (W.alloc (.cells #[.string ⟨#[97]⟩, .string ⟨#[98]⟩, .string ⟨#[99]⟩, .string ⟨#[100]⟩, .string ⟨#[101]⟩] 9)) W1 → Calls Tryz.prog 10 #[.slice (some ⟨W.heap.size, 0, none⟩) 5 5, .int .i64 31, .int .i64 20, .int .i64 1, .int .i64 1] W1 (NewAs ea w c5 W1)) := Lib.hid fun W W1 hW0 hW1 => by
    have hb1 := (Below.refl W.heap.size W).alloc (Nat.le_refl _) (.cells #[.string ⟨#[97]⟩, .string ⟨#[98]⟩, .string ⟨#[99]⟩, .string ⟨#[100]⟩, .string ⟨#[101]⟩] 9)
    have hb2 := below_two (below_two hW0 hb1) hW1
    exact bn_new (c := c5) (HE.out.below hb2) hb2 ((txIn_lit (l := c5.hosts) (by decide) (by decide +kernel)).below hW1) ok_5
  have HFirst : Hid (∀ W lo hi lo2 hi2 p q, BNow ea w W lo hi p c5 (newS c5) → BNow ea w W lo2 hi2 q c5 (newS c5) → Apart q p → Calls Tryz.prog 11 #[.pointer (some ⟨p.bp, 0, none⟩), .int .u64 (key : Int), .int .i64 0] W fun e w' => e = .returned (.tuple #[.string mine, .bool false, .nilIface]) ∧ Sty ea w w' lo hi lo2 hi2 p q key mine 0 0 1 0 s1) := Lib.hid fun W lo hi lo2 hi2 p q hx hy hxy =>
    (bn_pick key 0 hx ok_5 hU hp1).mono fun e w' ⟨a, b, t⟩ => ⟨a, b, fun _ => ⟨hy.stay b t p.fm hxy, hxy⟩, by have := HI1.out; simpa [c5] using this⟩
  have HCarry : Hid (∀ W lo hi lo2 hi2 p q i m' cnt s, Sty ea w W lo hi lo2 hi2 p q key mine i i cnt 0 s → m' = i + 1 → cnt < 200 → i ≤ 900 → ∃ tx : ByteArray, Hid (Calls Tryz.prog 13 #[.pointer (some ⟨p.bp, 0, none⟩)] W fun r w' => r = .returned (.tuple #[.string tx, .nilIface]) ∧
      Hid (Calls Tryz.prog 14 #[.pointer (some ⟨q.bp, 0, none⟩), .string tx, .int .i64 (m' : Int)] w' fun r w2 => ∃ (k : Nat) (s' : BS), r = .returned (.tuple #[.int .i64 (k : Int), .nilIface]) ∧ Sty ea w w2 lo2 hi2 lo2 hi2 q q key mine m' i cnt 1 s'))) := Lib.hid fun W lo hi lo2 hi2 p q i m' cnt s h hm hc hi => sty_carry m' hm hW hK hc rfl hi h
  have HU := Lib.hid hU
  unfold NewAs at HN
  clear hE hW hK hr hs hp1 hi1 hU HI1
  go_enter Tryz.func5, Tryz.ntmps5
  go_wp2_with fail
  refine HWB.out.mono ?_
  rintro e w1 ⟨rfl, hb1⟩
  have HN1 := Lib.hid (fun W1 => HN.out w1 W1 hb1)
  clear hb1 HN
  go_wp2_with fail
  refine (HN1.out _ (Below.refl _ _)).mono ?_
  rintro e w3 ⟨p, rfl, hB3, hb3⟩
  have HN2 := Lib.hid (HN1.out _ hb3)
  clear hb3 HN1
  generalize (w1.alloc (.cells #[.string ⟨#[97]⟩, .string ⟨#[98]⟩, .string ⟨#[99]⟩, .string ⟨#[100]⟩, .string ⟨#[101]⟩] 9)).heap.size = lo at *
  generalize w1.heap.size = gh at *
  go_wp2_with fail
  refine HN2.out.mono ?_
  rintro e w4 ⟨q, rfl, hB4, hb4⟩
  have hB34 := hB3.below hb4
  have HF0 := Lib.hid (HFirst.out _ _ _ _ _ p q hB34 hB4 (hB34.apart hB4 (Nat.le_refl _)))
  clear hB3 hB34 hB4 hb4 HN2 HFirst
  generalize w3.heap.size = hi at *
  generalize w4.heap.size = hi2 at *
  go_wp2_with fail
  refine HF0.out.mono ?_
  rintro e w5 ⟨rfl, hO5⟩
  have HO0 := Lib.hid hO5
  clear hO5 HF0
  go_wp2_with fail
  go_loopw [9, 16, 17] (fun xv nv iv wr => ∃ (i cnt E lo0 hi0 : Nat) (p0 : BPl) (s : BS), i ≤ acts.length ∧ cnt = 2 * i + 1 ∧ xv = .pointer (some ⟨p0.bp, 0, none⟩) ∧ nv = .int .i64 (i : Int) ∧ iv = .int .i64 (i : Int) ∧ Hid (i ≤ over_ → E = 0) ∧ Hid (Sty ea w wr lo0 hi0 hi hi2 p0 q key mine i i cnt E s)) (fun _ _ iv _ => acts.length + 1 - (intOf iv).toNat)
  case atStart => exact ⟨0, 1, 0, lo, hi, p, s1, Nat.zero_le _, rfl, rfl, rfl, rfl, Lib.hid fun _ => rfl, HO0⟩
  case round =>
    obtain ⟨i, cnt, E, lo0, hi0, p0, s, hile, hcnt, rfl, rfl, rfl, hEo, hO⟩ := hrel
    clear HO0
    by_cases hil : i < acts.length
    · have hil2 : (i : Int) < acts.length := by omega
      obtain ⟨ad, hA, hc⟩ := bActAt_of HR.out hO.out.x.w hil
      subst hA
      have HA := Lib.hid (HS.out _ (List.getElem_mem hil))
      generalize acts[i] = a at *
      obtain ⟨kc0, kc1, kc2, kc3, kc4, kc5⟩ := hc
      have hbX := (Below.refl wr.heap.size wr).alloc (Nat.le_refl _) (.cells #[.string a.kind, .string a.host, .string a.text, .int .u64 (a.key : Int), .int .i64 a.now, .bool a.is] 48)
      have HOX := Lib.hid (hO.out.below hbX)
      clear hbX
      go_upto_block 2 with fail
      go_cut [9] (fun xv wx => ∃ s' : BS, xv = .pointer (some ⟨p0.bp, 0, none⟩) ∧ Hid (Sty ea w wx lo0 hi0 hi hi2 p0 q key mine i i (cnt + 1) E s'))
      case first =>
        have hway := bkind_ways a.kind.toList
        rcases hway with k1 | ⟨k1, k2⟩ | ⟨k1, k2⟩
        · by_cases hm : a.host = mine
          · have hxb : (a.host.toList != mine.toList) = false := by rw [hm]; simp
            have hxc : (a.host.toList == mine.toList) = true := by rw [hm]; simp
            clear hm
            go_wp2
            go_meet
            exact ⟨s, rfl, Lib.hid ⟨HOX.out.x, HOX.out.y, HOX.out.i.more (Nat.le_refl _) (Nat.le_succ _)⟩⟩
          · have hxc : (a.host.toList == mine.toList) = false := by rw [str_eq]; simpa using hm
            have hxb : (a.host.toList != mine.toList) = true := by rw [bne, hxc]; rfl
            have HC := Lib.hid (sty_look a.host a.is (Ne.symm hm) HOX.out)
            go_wp2_with fail
            refine HC.out.mono ?_
            rintro e w6 ⟨b6, v6, s6, rfl, hO6⟩
            have HO6 := Lib.hid hO6
            clear hO6 HC
            go_wp2
            go_meet
            exact ⟨s6, rfl, HO6⟩
        · have HC := Lib.hid (sty_drain a.host a.is HA.out.s (by omega) HOX.out)
          go_wp2_with fail
          refine HC.out.mono ?_
          rintro e w6 ⟨v6, s6, rfl, hO6⟩
          have HO6 := Lib.hid hO6
          clear hO6 HC
          go_wp2
          go_meet
          exact ⟨s6, rfl, HO6⟩
        · have HC := Lib.hid (sty_pick a.key HA.out.u (by omega) (by omega) HOX.out)
          go_wp2_with fail
          refine HC.out.mono ?_
          rintro e w6 ⟨x6, b6, v6, s6, rfl, hO6⟩
          have HO6 := Lib.hid hO6
          clear hO6 HC
          go_wp2
          go_meet
          exact ⟨s6, rfl, HO6⟩
      case rest =>
        obtain ⟨s6, rfl, hO6⟩ := hcut
        clear HOX hO
        by_cases hov : i = over_
        · subst hov
          obtain rfl : E = 0 := hEo.out (Nat.le_refl _)
          obtain ⟨tx, HX⟩ := HCarry.out _ _ _ _ _ _ _ _ (i + 1) _ _ hO6.out rfl (by omega) (by omega)
          rw [show ((i + 1 : Nat) : Int) = (i : Int) + 1 from rfl] at HX
          have hov2 : ((i : Int) == (i : Int)) = true := by simp
          clear hO6 HCarry
          go_wp2_with fail
          refine HX.out.mono ?_
          rintro e w7 ⟨rfl, HY⟩
          clear HX
          go_wp2_with fail
          refine HY.out.mono ?_
          rintro e w8 ⟨k8, s8, rfl, hO8⟩
          have HP := Lib.hid (sty_again (i + 1) rfl HU.out (by omega) (Nat.le_refl _) (by omega) hO8)
          rw [show ((i + 1 : Nat) : Int) = (i : Int) + 1 from rfl] at HP
          clear hO8 HY
          go_wp2_with fail
          refine HP.out.mono ?_
          rintro e w9 ⟨s9, rfl, hO9⟩
          have HO9 := Lib.hid hO9
          clear hO9 HP
          go_wp2_with fail
          go_roundw
          case rel => exact ⟨i + 1, cnt + 1 + 1, 1, hi, hi2, q, s9, by omega, by omega, rfl, by go_num, by go_num, Lib.hid fun h => absurd h (by omega), HO9⟩
          case measure => simp [intOf]; omega
        · have hov2 : ((i : Int) == (over_ : Int)) = false := beq_eq_false_iff_ne.2 (by omega)
          have HP := Lib.hid (sty_again (i + 1) rfl HU.out (by omega) (Nat.le_succ i) (by omega) hO6.out)
          rw [show ((i + 1 : Nat) : Int) = (i : Int) + 1 from rfl] at HP
          clear hO6 HCarry
          go_wp2_with fail
          refine HP.out.mono ?_
          rintro e w9 ⟨s9, rfl, hO9⟩
          have HO9 := Lib.hid hO9
          clear hO9 HP
          go_wp2_with fail
          go_roundw
          case rel => exact ⟨i + 1, cnt + 1 + 1, E, lo0, hi0, p0, s9, by omega, by omega, rfl, by go_num, by go_num, Lib.hid fun h => hEo.out (by omega), HO9⟩
          case measure => simp [intOf]; omega
    · obtain rfl : i = acts.length := by omega
      have hge : ¬ (acts.length : Int) < acts.length := by omega
      have HB := Lib.hid hO.out.x.w
      clear hO
      go_wp2
      go_ret
      exact ⟨rfl, HB.out⟩
theorem stays_any (ea : Nat → Addr) (key : Nat) (A : Option Addr) (ca : Nat) (k : Int) (acts : List BAct) (w : World) (hE : ErrsB ea w) (hW : CarW w) (hK : ErrsK ea w) (hU : U64 key) (R : Reads w w.heap.size 6 A acts.length (bActsC acts)) (hm : acts.length ≤ maxLen) (wf : ∀ a ∈ acts, BActOk a) :
    Calls Tryz.prog 5 #[.int .u64 (key : Int), .slice A acts.length ca, .int .i64 k] w (True1 w) := by
  by_cases h : 60 < acts.length ∨ k < 0
  · exact stays_skip ea key A ca acts.length k w hE hm h
  · obtain ⟨j, rfl⟩ := Int.eq_ofNat_of_zero_le (by omega : 0 ≤ k)
    exact stays_walk ea A ca key j acts w hE hW hK R wf hU (by omega)
end Go.Proofs.YteilefpjfbholaaGreatDoor
