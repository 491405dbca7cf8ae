/-
  The law BalanceOver: its walk.
-/
import Derived.Test.YteilefpjfbholaaGreatDoorBalCarry
import Derived.Test.YteilefpjfbholaaGreatDoorOverInv
import Derived.Test.YteilefpjfbholaaGreatDoorSameFl
namespace Go.Proofs.YteilefpjfbholaaGreatDoor
open Go.RowKit

def c3 : BCfg := ⟨[sA, sB, sC], 13, 20, 1, 1⟩
theorem fault_3 : hostsFault c3.hosts = none := hostsFault_none.2 ⟨by decide, by decide +kernel, by decide +kernel⟩
theorem ok_3 : BOk c3 := ⟨fault_3, by decide, size_ok fault_3 (by decide) (size_prime (by decide) (by decide) (by decide +kernel)), by decide, by decide, by decide, by decide, by decide, by decide⟩
theorem over_ways {a : Nat} {k : Int} (h : 60 < a ∨ k < 0 ∨ 40 < k) : decide ((a : Int) > 60) = true ∨ (decide ((a : Int) > 60) = false ∧ decide (k < 0) = true) ∨ (decide ((a : Int) > 60) = false ∧ decide (k < 0) = false ∧ decide (k > 40) = true) := by
  simp only [decide_eq_true_eq, decide_eq_false_iff_not]; omega
set_option maxRecDepth 100000 in
set_option maxHeartbeats 1000000 in
theorem over_skip (ea : Nat → Addr) (A : Option Addr) (ca a : Nat) (k : Int) (w : World) (hE : ErrsB ea w) (h : 60 < a ∨ k < 0 ∨ 40 < k) :
    Calls Tryz.prog 4 #[.slice A a ca, .int .i64 k] w (True1 w) := by
  have HW := Lib.hid (balanced_any ea w hE)
  have hw := over_ways h
  clear hE h
  rcases hw with d1 | ⟨d1, d2⟩ | ⟨d1, d2, d3⟩
  all_goals
    go_enter Tryz.func4, Tryz.ntmps4
    go_wp2_with fail
    refine HW.out.mono ?_
    rintro e w1 ⟨rfl, hb1⟩
    go_wp2
    go_ret
    exact ⟨rfl, hb1⟩
/-- What stands in the law's walk. -/
structure Ovr (ea : Nat → Addr) (w W : World) (lo hi lo2 hi2 : Nat) (p q : BPl) (n cnt e : Nat) (s s2 : BS) : Prop where
  x : BNow ea w W lo hi p c3 s
  y : BNow ea w W lo2 hi2 q c3 s2
  ap : Apart q p
  i : OInv c3 n cnt e s
  z : hi ≤ W.heap.size ∧ hi2 ≤ W.heap.size ∧ w.heap.size ≤ W.heap.size
section
variable {ea : Nat → Addr} {w W W' : World} {lo hi lo2 hi2 : Nat} {p q : BPl} {n cnt e : Nat} {s s2 : BS}
theorem ovr_z {a b d e f : Nat} (h : a ≤ d ∧ b ≤ d ∧ e ≤ d) (hs : d ≤ f) : a ≤ f ∧ b ≤ f ∧ e ≤ f := ⟨Nat.le_trans h.1 hs, Nat.le_trans h.2.1 hs, Nat.le_trans h.2.2 hs⟩
theorem Ovr.below (h : Ovr ea w W lo hi lo2 hi2 p q n cnt e s s2) (hb : Below W.heap.size W W') : Ovr ea w W' lo hi lo2 hi2 p q n cnt e s s2 := ⟨h.x.below hb, h.y.below hb, h.ap, h.i, ovr_z h.z hb.size⟩
theorem Ovr.far {g : Nat} (hE : ErrsB ea w) (h : Ovr ea w W lo hi lo2 hi2 p q n cnt e s s2) (ht : Turn [g] W W') (hg : w.heap.size ≤ g ∧ hi ≤ g ∧ hi2 ≤ g) : Ovr ea w W' lo hi lo2 hi2 p q n cnt e s s2 :=
  ⟨h.x.far hE ht fun b hb => by rw [List.mem_singleton] at hb; subst hb; exact ⟨hg.1, fun hm => by have := h.x.hi _ hm; omega⟩, h.y.far hE ht fun b hb => by rw [List.mem_singleton] at hb; subst hb; exact ⟨hg.1, fun hm => by have := h.y.hi _ hm; omega⟩, h.ap, h.i, ovr_z h.z ht.size⟩
def OvrPick (ea : Nat → Addr) (w : World) (lo hi lo2 hi2 : Nat) (p q : BPl) (n cnt e : Nat) (s s2 : BS) (x : ByteArray) (kept : Bool) (r : Ending) (w' : World) : Prop := r = .returned (.tuple #[.string x, .bool kept, .nilIface]) ∧ Ovr ea w w' lo hi lo2 hi2 p q n cnt e s s2
theorem ovr_pick (k n' : Nat) (h : Ovr ea w W lo hi lo2 hi2 p q n cnt e s s2) (hc : cnt < 200) (hn : n ≤ n') (hn2 : n' ≤ 1000000) (hU : U64 k) :
    ∃ (x : ByteArray) (kept : Bool) (s' : BS), Hid (Calls Tryz.prog 11 #[.pointer (some ⟨p.bp, 0, none⟩), .int .u64 (k : Int), .int .i64 (n' : Int)] W (OvrPick ea w lo hi lo2 hi2 p q n' (cnt + 1) e s' s2 x kept)) := by
  obtain ⟨x, kept, s', hp, hi'⟩ := h.i.step (k := k) ok_3 hc hn hn2
  exact ⟨x, kept, s', Lib.hid ((bn_pick k n' h.x ok_3 hU hp).mono fun r w' ⟨a, b, t⟩ => ⟨a, b, h.y.stay b t p.fm h.ap, h.ap, hi', ovr_z h.z t.size⟩)⟩
/-- All is carried over. -/
def OvrL (s : BS) (now : Nat) : List Fl := s.fs.2.filter fun y => decide ((now : Int) < y.til)
def OvrS (s : BS) (now : Nat) : BS := { newS c3 with fs := (now, OvrL s now), epoch := 1 }
theorem ovr_export (h : Ovr ea w W lo hi lo2 hi2 p q n cnt 0 s s2) (hW : CarW w) (hK : ErrsK ea w) (hc : cnt ≤ 200) (hn : n ≤ 1000000) :
    Calls Tryz.prog 13 #[.pointer (some ⟨p.bp, 0, none⟩)] W fun r w' => r = .returned (.tuple #[.string ⟨(textOf 1 s.fs.2).toArray⟩, .nilIface]) ∧ Ovr ea w w' lo hi lo2 hi2 p q n cnt 1 { s with epoch := 1 } s2 := by
  have he := h.i.ep
  have hck := h.i.check ok_3 hc hn 1 (by omega) (by omega)
  have e1 : (s.epoch : Int) + 1 = 1 := by rw [he]; rfl
  have := bn_export h.x hW hK (fun x hx => hosts_small ok_3 x.host (h.i.fl x hx).1) (by omega) (by rw [e1]; exact hck)
  rw [e1, he] at this
  refine this.mono fun r w' ⟨a, b, t⟩ => ⟨a, b, h.y.stay b t p.be h.ap, h.ap, ⟨h.i.rise, h.i.len, h.i.last, h.i.st, h.i.dr, rfl, h.i.fl⟩, ovr_z h.z t.size⟩
theorem ovr_import (now : Nat) (h : Ovr ea w W lo hi lo2 hi2 p q n cnt 1 s (newS c3)) (hW : CarW w) (hK : ErrsK ea w) (hc : cnt ≤ 200) (hn : n ≤ now) (hn2 : now ≤ 1000000) :
    Calls Tryz.prog 14 #[.pointer (some ⟨q.bp, 0, none⟩), .string ⟨(textOf 1 s.fs.2).toArray⟩, .int .i64 (now : Int)] W fun r w' => r = .returned (.tuple #[.int .i64 ((OvrL s now).length : Int), .nilIface]) ∧ Ovr ea w w' lo hi lo2 hi2 p q n cnt 1 s (OvrS s now) := by
  have hck := h.i.check ok_3 hc (by omega : n ≤ 1000000) 1 (by omega) (by omega)
  have hrd := read_text hck fun x hx => h.x.b.f.map.u64 x hx
  have := bn_import now 1 s.fs.2 ⟨(textOf 1 s.fs.2).toArray⟩ h.y hW hK hrd (by simp [newS]) (by simp [newS]) (by omega)
  have e1 : (s.fs.2.filter fun y => upOf (newS c3).st y.host) = s.fs.2 := h.i.up
  have e2 : addF (now : Int) (newS c3).fs.2 s.fs.2 = OvrL s now := h.i.over ok_3 hc hn
  rw [e1, e2] at this
  refine this.mono fun r w' ⟨a, b, t⟩ => ⟨a, h.x.stay b t q.bf h.ap.symm, b, h.ap, h.i, ovr_z h.z t.size⟩
end
theorem reads_pre {w : World} {B size n k : Nat} {A : Option Addr} {xs : List Value} (h : Reads w B size A n xs) (hk : k ≤ n) : Reads w B size A k (xs.take (k * size)) := by
  refine ⟨?_, fun h0 => ?_⟩
  · rw [List.length_take, h.1]
    exact Nat.min_eq_left (Nat.mul_le_mul_right _ hk)
  · obtain ⟨ad, hA, hb, hc⟩ := h.2 (by omega)
    refine ⟨ad, hA, hb, fun j u hu => hc j u ?_⟩
    rw [List.getElem?_take] at hu
    split at hu
    · exact hu
    · cases hu
theorem own_cap {w : World} {B n cap size : Nat} {A : Option Addr} {e : TypeId} {xs : List Value} (h : w.ownsRow B e size (.slice A n cap) n xs) : n ≤ cap := by
  obtain ⟨A', c, hv, _, h1, _⟩ := own_slice h
  injection hv with _ _ h3
  omega
theorem flsC_pre : ∀ (M : List Fl) (a : Nat), flsC (M.take a) = (flsC M).take (a * 3)
  | [], a => by simp [flsC]
  | x :: r, 0 => by simp [flsC]
  | x :: r, a + 1 => by
    rw [List.take_succ_cons]
    show flC x ++ flsC (r.take a) = (flC x ++ flsC r).take ((a + 1) * 3)
    rw [flsC_pre r a, show (a + 1) * 3 = a * 3 + 1 + 1 + 1 by omega]
    rfl
set_option maxRecDepth 100000 in
set_option maxHeartbeats 2000000 in
theorem over_walk (ea : Nat → Addr) (A : Option Addr) (ca k : Nat) (keys : List Nat) (w : World) (hE : ErrsB ea w) (hW : CarW w) (hK : ErrsK ea w) (hr : Reads w w.heap.size 1 A keys.length (keysV keys)) (hu : ∀ k ∈ keys, U64 k) (h1 : keys.length ≤ 60) (h3 : k ≤ 40) :
    Calls Tryz.prog 4 #[.slice A keys.length ca, .int .i64 (k : Int)] w (True1 w) := by
  have HWB := Lib.hid (balanced_any ea w hE)
  have d1 : decide ((keys.length : Int) > 60) = false := by simp; omega
  have d3 : decide ((k : Int) < 0) = false := by simp
  have d4 : decide ((k : Int) > 40) = false := by simp; omega
  have HE := Lib.hid hE
  have HKK := Lib.hid (fun i (hi : i < keys.length) => keyAt2_of hr hi)
  have HU := Lib.hid hu
  have HN : Hid (∀ W W1, Below w.heap.size w W → Below (W.alloc (.cells #[.string ⟨#[97]⟩, .string ⟨#[98]⟩, .string ⟨#[99]⟩] 9)).heap.size (W.alloc (.cells #[.string ⟨#[97]⟩, .string ⟨#[98]⟩, .string ⟨#[99]⟩] 9)) W1 → Calls Tryz.prog 10 #[.slice (some ⟨W.heap.size, 0, none⟩) 3 3, .int .i64 13, .int .i64 20, .int .i64 1, .int .i64 1] W1 (NewAs ea w c3 W1)) := Lib.hid fun W W1 hW0 hW1 => by
    have hb1 := (Below.refl W.heap.size W).alloc (Nat.le_refl _) (.cells #[.string ⟨#[97]⟩, .string ⟨#[98]⟩, .string ⟨#[99]⟩] 9)
    have hb2 := below_two (below_two hW0 hb1) hW1
    exact bn_new (c := c3) (HE.out.below hb2) hb2 ((txIn_lit (l := c3.hosts) (by decide) (by decide +kernel)).below hW1) ok_3
  have HX : Hid (∀ W lo hi lo2 hi2 p q n cnt s s2, Ovr ea w W lo hi lo2 hi2 p q n cnt 0 s s2 → cnt ≤ 200 → n ≤ 1000000 → Calls Tryz.prog 13 #[.pointer (some ⟨p.bp, 0, none⟩)] W fun r w' => r = .returned (.tuple #[.string ⟨(textOf 1 s.fs.2).toArray⟩, .nilIface]) ∧ Ovr ea w w' lo hi lo2 hi2 p q n cnt 1 { s with epoch := 1 } s2) := Lib.hid fun W lo hi lo2 hi2 p q n cnt s s2 h a b => ovr_export h hW hK a b
  have HI : Hid (∀ W lo hi lo2 hi2 p q n cnt s now, Ovr ea w W lo hi lo2 hi2 p q n cnt 1 s (newS c3) → cnt ≤ 200 → n ≤ now → now ≤ 1000000 → Calls Tryz.prog 14 #[.pointer (some ⟨q.bp, 0, none⟩), .string ⟨(textOf 1 s.fs.2).toArray⟩, .int .i64 (now : Int)] W fun r w' => ∃ kn : Nat, Hid (kn = (OvrL s now).length) ∧ r = .returned (.tuple #[.int .i64 (kn : Int), .nilIface]) ∧ Ovr ea w w' lo hi lo2 hi2 p q n cnt 1 s (OvrS s now)) := Lib.hid fun W lo hi lo2 hi2 p q n cnt s now h a b d => (ovr_import now h hW hK a b d).mono fun r w' ⟨e1, e2⟩ => ⟨_, Lib.hid rfl, e1, e2⟩
  unfold NewAs at HN
  clear hE hW hK hr hu
  go_enter Tryz.func4, Tryz.ntmps4
  go_wp2_with fail
  refine HWB.out.mono ?_
  rintro e w1 ⟨rfl, hb1⟩
  have HN1 := Lib.hid (fun W1 => HN.out w1 W1 hb1)
  clear hb1 HN
  go_wp2_with fail
  refine (HN1.out _ (Below.refl _ _)).mono ?_
  rintro e w3 ⟨p, rfl, hB3, hb3⟩
  have HN2 := Lib.hid (HN1.out _ hb3)
  clear hb3 HN1
  generalize (w1.alloc (.cells #[.string ⟨#[97]⟩, .string ⟨#[98]⟩, .string ⟨#[99]⟩] 9)).heap.size = lo at *
  generalize w1.heap.size = gh at *
  go_wp2_with fail
  refine HN2.out.mono ?_
  rintro e w4 ⟨q, rfl, hB4, hb4⟩
  have HO0 : Hid (Ovr ea w w4 lo w3.heap.size w3.heap.size w4.heap.size p q 0 0 0 (newS c3) (newS c3)) := Lib.hid ⟨hB3.below hb4, hB4, (hB3.below hb4).apart hB4 (Nat.le_refl _), OInv.new c3, hb4.size, Nat.le_refl _, hB4.w.size⟩
  clear hB3 hB4 hb4 HN2
  generalize w3.heap.size = hi at *
  generalize w4.heap.size = hi2 at *
  go_wp2_with fail
  go_loopw [11] (fun iv wr => ∃ (i n : Nat) (s : BS), i ≤ keys.length ∧ n ≤ i / 4 ∧ iv = .int .i64 (i : Int) ∧ Hid (Ovr ea w wr lo hi hi hi2 p q n i 0 s (newS c3))) (fun iv _ => keys.length + 1 - (intOf iv).toNat)
  case atStart => exact ⟨0, 0, newS c3, Nat.zero_le _, Nat.zero_le _, rfl, HO0⟩
  case round =>
    obtain ⟨i, n, s, hile, hn, rfl, hO⟩ := hrel
    clear HO0
    by_cases hil : i < keys.length
    · have hil2 : (i : Int) < keys.length := by omega
      obtain ⟨ad, rfl, hck⟩ := HKK.out i hil
      have ck := hck wr hO.out.x.w
      obtain ⟨x, kept, s', HP⟩ := ovr_pick keys[i] (i / 4) hO.out (by omega) (by omega) (by omega) (HU.out _ (List.getElem_mem hil))
      generalize keys[i] = key at *
      unfold OvrPick at HP
      have hq : ((i / 4 : Nat) : Int) = (i : Int) / 4 := by omega
      rw [hq] at HP
      clear hO hck
      go_wp2_with fail
      refine HP.out.mono ?_
      rintro e w5 ⟨rfl, hO5⟩
      have HO5 := Lib.hid hO5
      clear hO5 HP
      go_wp2_with fail
      go_roundw
      case rel => exact ⟨i + 1, i / 4, s', by omega, by omega, by go_num, HO5⟩
      case measure => simp [intOf]; omega
    · obtain rfl : i = keys.length := by omega
      have hge : ¬ (keys.length : Int) < keys.length := by omega
      obtain ⟨now, hnw, hnow⟩ : ∃ now : Nat, (n ≤ now ∧ now ≤ 1000000) ∧ Hid ((now : Int) = (keys.length : Int) / 4 + (k : Int)) := ⟨keys.length / 4 + k, ⟨by omega, by omega⟩, Lib.hid (by omega)⟩
      have HX1 := Lib.hid (HX.out _ _ _ _ _ _ _ _ _ _ _ hO.out (by omega) (by omega))
      clear hO HX
      go_wp2_with fail
      refine HX1.out.mono ?_
      rintro e w5 ⟨rfl, hO5⟩
      have HI1 := Lib.hid (HI.out _ _ _ _ _ _ _ _ _ _ now hO5 (by omega) (by omega) (by omega))
      rw [hnow.out] at HI1
      clear hO5 HX1 HI
      go_wp2_with fail
      refine HI1.out.mono ?_
      rintro e w6 ⟨kn, hkn, rfl, hO6'⟩
      have hkn2 : Hid (kn = (OvrL s now).length) := hkn
      clear hkn
      obtain ⟨sx, hsx, hO6⟩ : ∃ sx : BS, Hid (sx.fs.2 = s.fs.2 ∧ sx.epoch = 1) ∧ Ovr ea w w6 lo hi hi hi2 p q n keys.length 1 sx (OvrS s now) := ⟨{ s with epoch := 1 }, Lib.hid ⟨rfl, rfl⟩, hO6'⟩
      have HFL := Lib.hid (flowsB_any w6 hO6.x.b)
      rw [hsx.out.1] at HFL
      have HO6 := Lib.hid hO6
      unfold FlsPost at HFL
      clear hO6 hO6' HI1
      go_wp2_with fail
      refine HFL.out.mono ?_
      rintro e w7 ⟨v7, rfl, ho7, hb7⟩
      obtain ⟨A7, c7, rfl, hr7, hle7, hm7⟩ := own_slice ho7
      have HOv := Lib.hid (HO6.out.below hb7)
      have HA7 : Hid (0 < s.fs.2.length → ∃ g, A7 = some ⟨g, 0, none⟩) := Lib.hid fun h0 => by
        rcases own_two ho7 with ⟨_, h1, _⟩ | h1
        · omega
        · exact h1
      have HO7 := Lib.hid ho7
      have HBs : Hid (∀ g, A7 = some ⟨g, 0, none⟩ → w.heap.size ≤ g ∧ hi ≤ g ∧ hi2 ≤ g) := Lib.hid fun g hg => by
        have hlt := (ho7.lt g (by rw [hg]; rfl)).1
        have := HO6.out.z
        omega
      have HLs : Hid (s.fs.2.length ≤ 1000) := Lib.hid (by have := HO6.out.i.len; rw [hsx.out.1] at this; omega)
      have HLo : Hid (OvrL s now = s.fs.2.filter fun y => decide ((now : Int) < y.til)) := Lib.hid rfl
      clear ho7 hb7 hr7 hle7 hm7 HFL HO6
      generalize w6.heap.size = B7 at *
      generalize hLe : s.fs.2 = L at *
      go_wp2_with fail
      go_loopw [20, 21] (fun kv iv wr => ∃ (a b : Nat) (M : List Fl), a ≤ b ∧ b ≤ L.length ∧ kv = .int .i64 (a : Int) ∧ iv = .int .i64 (b : Int) ∧ Hid (KeptFl (fun y => decide ((now : Int) < y.til)) L a b M) ∧ Hid (wr.ownsRow B7 43 3 (.slice A7 L.length c7) L.length (flsC M)) ∧ Hid (Ovr ea w wr lo hi hi hi2 p q n keys.length 1 sx (OvrS s now))) (fun _ iv _ => L.length + 1 - (intOf iv).toNat)
      case atStart => exact ⟨0, 0, L, Nat.le_refl _, Nat.zero_le _, rfl, rfl, Lib.hid KeptFl.zero, HO7, HOv⟩
      case round =>
        obtain ⟨a, b, M, hab, hbL, rfl, rfl, hK, hO, hV⟩ := hrel
        have hlen := hK.out.len
        have hls := HLs.out
        generalize wr = wr0 at *
        by_cases hbl : b < L.length
        · have hbl2 : (b : Int) < L.length := by omega
          have hal2 : (a : Int) < L.length := by omega
          obtain ⟨g, rfl⟩ := HA7.out (by omega)
          have hMb : M[b]? = some L[b] := hK.out.get hbl
          have hbM : b < M.length := by omega
          obtain ⟨a0, a1, a2⟩ := own_cells3 hO.out hbM
          have hMe : M[b] = L[b] := by rw [List.getElem?_eq_getElem hbM] at hMb; exact Option.some.inj hMb
          rw [hMe] at a0 a1 a2
          have HOb : Hid (Cells3 wr0 g (a * 3) (M[a]'(by omega)) ∧ ∀ m, wr0.frozen? ⟨g, m, none⟩ = false) := Lib.hid ⟨own_cells3 hO.out (by omega), own_frozen hO.out⟩
          have HG := Lib.hid (HBs.out g rfl)
          by_cases hp : (now : Int) < L[b].til
          · have HK2 := Lib.hid (hK.out.keep hbl (by simpa using hp))
            have dp : decide (L[b].til > (keys.length : Int) / 4 + (k : Int)) = true := by rw [← hnow.out]; simpa using hp
            have HST := Lib.hid (And.intro (own_set3 hO.out a L[b]) (turn_set3 (Turn.refl [g] wr0) a L[b]))
            have HVF := Lib.hid (fun W (ht : Turn [g] wr0 W) => hV.out.far HE.out ht HG.out)
            clear hK hp hMb hMe hO hV
            generalize L[b] = x at *
            generalize M[a]'(by omega) = old at *
            generalize x.key = x0 at *
            generalize x.host = x1 at *
            generalize x.til = x2 at *
            obtain ⟨⟨b0, b1, b2⟩, hfz⟩ := HOb.out
            have f0 := hfz (a * 3)
            have f1 := hfz (a * 3 + 1)
            have f2 := hfz (a * 3 + 2)
            clear hfz HOb
            have HV2 := Lib.hid (HVF.out _ HST.out.2)
            have HO2 := Lib.hid HST.out.1
            clear HST HVF
            go_wp2_with fail
            go_roundw
            case rel => exact ⟨a + 1, b + 1, M.set a x, by omega, by omega, by go_num, by go_num, HK2, HO2, HV2⟩
            case measure => simp [intOf]; omega
          · have HK2 := Lib.hid (hK.out.skip hbl (by simpa using hp))
            have dp : decide (L[b].til > (keys.length : Int) / 4 + (k : Int)) = false := by rw [← hnow.out]; simpa using hp
            clear hK hp hMb hMe HOb
            generalize L[b].key = x0 at *
            generalize L[b].host = x1 at *
            generalize L[b].til = x2 at *
            go_wp2_with fail
            go_roundw
            case rel => exact ⟨a, b + 1, M, by omega, by omega, rfl, by go_num, HK2, hO, hV⟩
            case measure => simp [intOf]; omega
        · obtain rfl : b = L.length := by omega
          have hge : ¬ (L.length : Int) < L.length := by omega
          obtain ⟨hd1, hd2⟩ := hK.out.done
          have hcap := own_cap hO.out
          have HPre : Hid (∀ W', Below wr0.heap.size wr0 W' → Reads W' W'.heap.size 3 A7 a (flsC (OvrL s now))) := Lib.hid fun W' hb => by
            have h1 := reads_pre (Reads.of_own (own_below hO.out hb)) (show a ≤ L.length by omega)
            rw [← flsC_pre, hd1, ← HLo.out] at h1
            exact h1
          have HLa : Hid ((OvrL s now).length = a) := Lib.hid (by rw [HLo.out, hd2])
          have HYF := Lib.hid (fun W' (hb : Below wr0.heap.size wr0 W') => flowsB_any W' (hV.out.below hb).y.b)
          have HEX : Hid (∀ W', Below wr0.heap.size wr0 W' → Calls Tryz.prog 17 #[.pointer (some ⟨p.bp, 0, none⟩)] W' fun e w' => e = .returned (.int .i64 1) ∧ W' = w') := Lib.hid fun W' hb => by
            have h1 := epochB_any W' (hV.out.below hb).x.b
            rw [hsx.out.2] at h1
            exact h1
          have HEY : Hid (∀ W', Below wr0.heap.size wr0 W' → Calls Tryz.prog 17 #[.pointer (some ⟨q.bp, 0, none⟩)] W' fun e w' => e = .returned (.int .i64 1) ∧ W' = w') := Lib.hid fun W' hb => epochB_any W' (hV.out.below hb).y.b
          have HBW := Lib.hid (fun W' (hb : Below wr0.heap.size wr0 W') => (hV.out.below hb).x.w)
          unfold FlsPost at HYF
          have eS : (OvrS s now).fs.2 = OvrL s now := rfl
          rw [eS] at HYF
          clear hd1 hd2 hK hO hV hsx hLe eS HOv HO7 hnow hnw HLo hlen
          generalize OvrL s now = LT at *
          obtain rfl : a = LT.length := HLa.out.symm
          obtain rfl : kn = LT.length := hkn2.out
          have hl2 : LT.length ≤ 1000 := by omega
          have HSM : Hid (∀ W' A c, Below wr0.heap.size wr0 W' → (∃ B, W'.ownsRow B 43 3 (.slice A LT.length c) LT.length (flsC LT)) → Calls Tryz.prog 16 #[.slice A LT.length c, .slice A7 LT.length c7] W' (YesFl W')) := Lib.hid fun W' A c hb ⟨B, ho⟩ => by
            refine sameFlows_yes A A7 c c7 W'.heap.size W'.heap.size LT W' (Reads.of_own ho) (HPre.out W' hb) (fun h0 => ?_) (fun h0 => HA7.out (by omega)) hl2
            rcases own_two ho with ⟨_, h1, _⟩ | h1
            · omega
            · exact h1
          unfold YesFl at HSM
          have hRef := Below.refl wr0.heap.size wr0
          have hs0 : (0 : Int) ≤ (LT.length : Int) := by omega
          have hs1 : (LT.length : Int) ≤ (c7 : Int) := by omega
          have hs2 : LT.length ≤ c7 := by omega
          clear HPre HLa
          go_wp2_with fail
          go_region_held3 (fun w' => Below wr0.heap.size wr0 w') (first | exact bl_drew hRef | exact hb1 | exact hb2 | go_keep) (first
            | (go_at_call 15
               refine (HYF.out _ (bl_drew hRef)).mono ?_
               rintro e w8 ⟨v8, rfl, ho8, hb8⟩
               obtain ⟨A8, c8, rfl, _⟩ := own_slice ho8
               have hb1 := below_two (bl_drew hRef) hb8)
            | (go_at_call 16
               refine (HSM.out _ _ _ hb1 ⟨_, ho8⟩).mono ?_
               rintro e w9 ⟨rfl, m9, rfl⟩
               have hb2 := below_drewN hb1 m9)
            | (go_at_call 17
               first
                 | (refine (HEX.out _ hb2).mono ?_; rintro e w10 ⟨rfl, rfl⟩)
                 | (refine (HEY.out _ hb2).mono ?_; rintro e w10 ⟨rfl, rfl⟩)))
          all_goals
            have HBF := Lib.hid (HBW.out _ hb2)
            go_wp2
            go_ret
            exact ⟨rfl, HBF.out⟩
theorem over_any2 (ea : Nat → Addr) (A : Option Addr) (ca : Nat) (k : Int) (l : List Int) (w : World) (hE : ErrsB ea w) (hW : CarW w) (hK : ErrsK ea w) (R : Reads w w.heap.size 1 A l.length (l.map (Value.int .u64))) (wf : ∀ n ∈ l, (Lit.int .u64 n).wf = true) :
    Calls Tryz.prog 4 #[.slice A l.length ca, .int .i64 k] w (True1 w) := by
  obtain ⟨keys, he, hr, hu⟩ := keys_arg R wf
  rw [he]
  by_cases h : 60 < keys.length ∨ k < 0 ∨ 40 < k
  · exact over_skip ea A ca keys.length k w hE h
  · obtain ⟨j, rfl⟩ := Int.eq_ofNat_of_zero_le (by omega : 0 ≤ k)
    exact over_walk ea A ca j keys w hE hW hK hr hu (by omega) (by omega)
end Go.Proofs.YteilefpjfbholaaGreatDoor
