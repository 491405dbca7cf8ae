/-
  Package play's one: its walks, a kind of number each.
  Package play's over.
  Package play's one: what a number does to a duo.
-/
import Derived.Test.YteilefpjfbholaaGreatDoorBase
import Derived.Deep.RegionHeld3
import Derived.Test.YteilefpjfbholaaGreatDoorBalCarry
import Derived.Test.YteilefpjfbholaaGreatDoorPlayPlain
namespace Go.Proofs.YteilefpjfbholaaGreatDoor
open Go.RowKit

/-- What a number is parted into: its kind, the host's number, the host, what is told of it. -/
structure Parts (v m q k : Nat) (sw is : Bool) : Prop where
  m8 : (v : Int) % 8 = (m : Int)
  q8 : (v : Int) / 8 = (q : Int)
  k4 : (q : Int) / 2 % 4 = (k : Int)
  kl : k < 4
  s2 : ((q : Int) % 2 == 1) = sw
  i2 : ((q : Int) / 8 % 2 == 1) = is
theorem Parts.of (v : Nat) : Parts v (v % 8) (v / 8) (v / 8 / 2 % 4) (decide (v / 8 % 2 = 1)) (decide (v / 8 / 8 % 2 = 1)) := by
  refine ⟨by omega, by omega, by omega, Nat.mod_lt _ (by omega), ?_, ?_⟩
  · rw [Bool.eq_iff_iff, beq_iff_eq, decide_eq_true_iff]; omega
  · rw [Bool.eq_iff_iff, beq_iff_eq, decide_eq_true_iff]; omega
theorem bl_drewP {B : Nat} {a w : World} (h : Below B a w) : Below B a w.drew := ⟨h.os, h.tape, h.output, h.size, h.block⟩
def HostsAs (k : Nat) (hs : ByteArray) (W : World) (e : Ending) (w' : World) : Prop := e = .returned (.slice (some ⟨W.heap.size, 0, none⟩) 4 4) ∧ Below W.heap.size W w' ∧ w'.cell? ⟨W.heap.size, k, none⟩ = some (.string hs)
section
variable {W : World} {dp np ab bb xb yb v m q k now : Nat} {sw is : Bool} {hs : ByteArray} {Q : World → Prop} {ev : Value}
/-- Which of two is asked. -/
def Turned (sw : Bool) (ab bb xb yb : Nat) : Prop := (sw = true ∧ xb = bb ∧ yb = ab) ∨ (sw = false ∧ xb = ab ∧ yb = bb)

set_option maxRecDepth 100000 in
set_option maxHeartbeats 2000000 in
theorem one_look (hP : Parts v m q k sw is) (hx : Turned sw ab bb xb yb) (hv : v ≤ 9223372036854775807) (hm : m = 3)
    (c0 : W.cell? ⟨dp, 0, none⟩ = some (.pointer (some ⟨ab, 0, none⟩))) (c1 : W.cell? ⟨dp, 1, none⟩ = some (.pointer (some ⟨bb, 0, none⟩))) (cn : ∀ W', Below W.heap.size W W' → W'.cell? ⟨np, 0, none⟩ = some (.int .i64 (now : Int)))
    (HH : ∀ W', Calls Tryz.prog 55 #[] W' (HostsAs k hs W'))
    (HL : ∀ W', Below W.heap.size W W' → Calls Tryz.prog 12 #[.pointer (some ⟨xb, 0, none⟩), .string hs, .bool is] W' fun e w' => ∃ b : Bool, e = .returned (.tuple #[.bool b, ev]) ∧ Q w') :
    Calls Tryz.prog 57 #[.pointer (some ⟨dp, 0, none⟩), .int .i64 (v : Int), .pointer (some ⟨np, 0, none⟩)] W fun e w' => e = .returned ev ∧ Q w' := by
  obtain ⟨m8, q8, k4, kl, s2, i2⟩ := hP
  have HH := Lib.hid HH
  have HL := Lib.hid HL
  have HCn := Lib.hid cn
  have hk4 : (k : Int) < 4 := by omega
  have hq0 : (0 : Int) ≤ (q : Int) := by omega
  have hqm : (q : Int) ≤ 9223372036854775807 := by omega

  subst hm
  unfold HostsAs at HH
  clear cn hv
  rcases hx with ⟨rfl, rfl, rfl⟩ | ⟨rfl, rfl, rfl⟩
  all_goals
    go_enter Tryz.func57, Tryz.ntmps57
    go_wp2_with fail
    go_quiet (fail)
    go_wp2_with fail
    refine (HH.out _).mono ?_
    rintro e w1 ⟨rfl, hb1, ck⟩
    have hbW : Below W.heap.size W w1 := below_two (below_drewN (Below.refl _ _) _) hb1
    have HLW := Lib.hid (HL.out _ hbW)
    have cnw := HCn.out _ hbW
    have ck2 : w1.cell? ⟨W.heap.size, k, none⟩ = some (.string hs) := ck
    clear ck
    clear hb1 hbW HL HCn HH
    go_wp2_with fail
    refine HLW.out.mono ?_
    rintro e w2 ⟨b2, rfl, hQ⟩
    clear HLW
    go_wp2
    go_ret
    exact ⟨rfl, hQ⟩
set_option maxRecDepth 100000 in
set_option maxHeartbeats 2000000 in
theorem one_drain (hP : Parts v m q k sw is) (hx : Turned sw ab bb xb yb) (hv : v ≤ 9223372036854775807) (hm : m = 4)
    (c0 : W.cell? ⟨dp, 0, none⟩ = some (.pointer (some ⟨ab, 0, none⟩))) (c1 : W.cell? ⟨dp, 1, none⟩ = some (.pointer (some ⟨bb, 0, none⟩))) (cn : ∀ W', Below W.heap.size W W' → W'.cell? ⟨np, 0, none⟩ = some (.int .i64 (now : Int)))
    (HH : ∀ W', Calls Tryz.prog 55 #[] W' (HostsAs k hs W'))
    (HL : ∀ W', Below W.heap.size W W' → Calls Tryz.prog 18 #[.pointer (some ⟨xb, 0, none⟩), .string hs, .bool is] W' fun e w' => e = .returned ev ∧ Q w') :
    Calls Tryz.prog 57 #[.pointer (some ⟨dp, 0, none⟩), .int .i64 (v : Int), .pointer (some ⟨np, 0, none⟩)] W fun e w' => e = .returned ev ∧ Q w' := by
  obtain ⟨m8, q8, k4, kl, s2, i2⟩ := hP
  have HH := Lib.hid HH
  have HL := Lib.hid HL
  have HCn := Lib.hid cn
  have hk4 : (k : Int) < 4 := by omega
  have hq0 : (0 : Int) ≤ (q : Int) := by omega
  have hqm : (q : Int) ≤ 9223372036854775807 := by omega

  subst hm
  unfold HostsAs at HH
  clear cn hv
  rcases hx with ⟨rfl, rfl, rfl⟩ | ⟨rfl, rfl, rfl⟩
  all_goals
    go_enter Tryz.func57, Tryz.ntmps57
    go_wp2_with fail
    go_quiet (fail)
    go_wp2_with fail
    refine (HH.out _).mono ?_
    rintro e w1 ⟨rfl, hb1, ck⟩
    have hbW : Below W.heap.size W w1 := below_two (below_drewN (Below.refl _ _) _) hb1
    have HLW := Lib.hid (HL.out _ hbW)
    have cnw := HCn.out _ hbW
    have ck2 : w1.cell? ⟨W.heap.size, k, none⟩ = some (.string hs) := ck
    clear ck
    clear hb1 hbW HL HCn HH
    go_wp2_with fail
    refine HLW.out.mono ?_
    rintro e w2 ⟨rfl, hQ⟩
    clear HLW
    go_wp2
    go_ret
    exact ⟨rfl, hQ⟩
set_option maxRecDepth 100000 in
set_option maxHeartbeats 2000000 in
theorem one_over (hP : Parts v m q k sw is) (hx : Turned sw ab bb xb yb) (hv : v ≤ 9223372036854775807) (hm : m = 6)
    (c0 : W.cell? ⟨dp, 0, none⟩ = some (.pointer (some ⟨ab, 0, none⟩))) (c1 : W.cell? ⟨dp, 1, none⟩ = some (.pointer (some ⟨bb, 0, none⟩))) (cn : ∀ W', Below W.heap.size W W' → W'.cell? ⟨np, 0, none⟩ = some (.int .i64 (now : Int)))
    (HH : ∀ W', Calls Tryz.prog 55 #[] W' (HostsAs k hs W'))
    (HL : ∀ W', Below W.heap.size W W' → Calls Tryz.prog 100 #[.pointer (some ⟨xb, 0, none⟩), .pointer (some ⟨yb, 0, none⟩), .int .i64 (now : Int)] W' fun e w' => e = .returned ev ∧ Q w') :
    Calls Tryz.prog 57 #[.pointer (some ⟨dp, 0, none⟩), .int .i64 (v : Int), .pointer (some ⟨np, 0, none⟩)] W fun e w' => e = .returned ev ∧ Q w' := by
  obtain ⟨m8, q8, k4, kl, s2, i2⟩ := hP
  have HH := Lib.hid HH
  have HL := Lib.hid HL
  have HCn := Lib.hid cn
  have hk4 : (k : Int) < 4 := by omega
  have hq0 : (0 : Int) ≤ (q : Int) := by omega
  have hqm : (q : Int) ≤ 9223372036854775807 := by omega

  subst hm
  unfold HostsAs at HH
  clear cn hv
  rcases hx with ⟨rfl, rfl, rfl⟩ | ⟨rfl, rfl, rfl⟩
  all_goals
    go_enter Tryz.func57, Tryz.ntmps57
    go_wp2_with fail
    go_quiet (fail)
    go_wp2_with fail
    refine (HH.out _).mono ?_
    rintro e w1 ⟨rfl, hb1, ck⟩
    have hbW : Below W.heap.size W w1 := below_two (below_drewN (Below.refl _ _) _) hb1
    have HLW := Lib.hid (HL.out _ hbW)
    have cnw := HCn.out _ hbW
    have ck2 : w1.cell? ⟨W.heap.size, k, none⟩ = some (.string hs) := ck
    clear ck
    clear hb1 hbW HL HCn HH
    go_wp2_with fail
    refine HLW.out.mono ?_
    rintro e w2 ⟨rfl, hQ⟩
    clear HLW
    go_wp2
    go_ret
    exact ⟨rfl, hQ⟩
set_option maxRecDepth 100000 in
set_option maxHeartbeats 2000000 in
theorem one_pick (hP : Parts v m q k sw is) (hx : Turned sw ab bb xb yb) (hv : v ≤ 9223372036854775807) (hm : m ≠ 3 ∧ m ≠ 4 ∧ m ≠ 5 ∧ m ≠ 6 ∧ m ≠ 7)
    (c0 : W.cell? ⟨dp, 0, none⟩ = some (.pointer (some ⟨ab, 0, none⟩))) (c1 : W.cell? ⟨dp, 1, none⟩ = some (.pointer (some ⟨bb, 0, none⟩))) (cn : ∀ W', Below W.heap.size W W' → W'.cell? ⟨np, 0, none⟩ = some (.int .i64 (now : Int)))
    (HH : ∀ W', Calls Tryz.prog 55 #[] W' (HostsAs k hs W'))
    (HL : ∀ W', Below W.heap.size W W' → Calls Tryz.prog 11 #[.pointer (some ⟨xb, 0, none⟩), .int .u64 ((q : Int) / 2), .int .i64 (now : Int)] W' fun e w' => ∃ (x : ByteArray) (b : Bool), e = .returned (.tuple #[.string x, .bool b, ev]) ∧ Q w') :
    Calls Tryz.prog 57 #[.pointer (some ⟨dp, 0, none⟩), .int .i64 (v : Int), .pointer (some ⟨np, 0, none⟩)] W fun e w' => e = .returned ev ∧ Q w' := by
  obtain ⟨m8, q8, k4, kl, s2, i2⟩ := hP
  have HH := Lib.hid HH
  have HL := Lib.hid HL
  have HCn := Lib.hid cn
  have hk4 : (k : Int) < 4 := by omega
  have hq0 : (0 : Int) ≤ (q : Int) := by omega
  have hqm : (q : Int) ≤ 9223372036854775807 := by omega

  have hw2 : IntKind.u64.wrap ((q : Int) / 2) = (q : Int) / 2 := by rw [IntKind.wrap_u64]; omega
  have hm3 : ((m : Int) == 3) = false := beq_eq_false_iff_ne.2 (by omega)
  have hm4 : ((m : Int) == 4) = false := beq_eq_false_iff_ne.2 (by omega)
  have hm5 : ((m : Int) == 5) = false := beq_eq_false_iff_ne.2 (by omega)
  have hm6 : ((m : Int) == 6) = false := beq_eq_false_iff_ne.2 (by omega)
  have hm7 : ((m : Int) == 7) = false := beq_eq_false_iff_ne.2 (by omega)
  clear hm
  unfold HostsAs at HH
  clear cn hv
  rcases hx with ⟨rfl, rfl, rfl⟩ | ⟨rfl, rfl, rfl⟩
  all_goals
    go_enter Tryz.func57, Tryz.ntmps57
    go_wp2_with fail
    go_quiet (fail)
    go_wp2_with fail
    refine (HH.out _).mono ?_
    rintro e w1 ⟨rfl, hb1, ck⟩
    have hbW : Below W.heap.size W w1 := below_two (below_drewN (Below.refl _ _) _) hb1
    have HLW := Lib.hid (HL.out _ hbW)
    have cnw := HCn.out _ hbW
    have ck2 : w1.cell? ⟨W.heap.size, k, none⟩ = some (.string hs) := ck
    clear ck
    clear hb1 hbW HL HCn HH
    go_wp2_with fail
    refine HLW.out.mono ?_
    rintro e w2 ⟨x2, b2, rfl, hQ⟩
    clear HLW
    go_wp2
    go_ret
    exact ⟨rfl, hQ⟩
/-- The cells of a duo, and of the tick. -/
structure DuoC (dp np ab bb now : Nat) (W : World) : Prop where
  c0 : W.cell? ⟨dp, 0, none⟩ = some (.pointer (some ⟨ab, 0, none⟩))
  c1 : W.cell? ⟨dp, 1, none⟩ = some (.pointer (some ⟨bb, 0, none⟩))
  cn : W.cell? ⟨np, 0, none⟩ = some (.int .i64 (now : Int))
theorem cell_ltP {W : World} {g i : Nat} {v : Value} (hc : W.cell? ⟨g, i, none⟩ = some v) : g < W.heap.size := by
  rcases Nat.lt_or_ge g W.heap.size with h | h
  · exact h
  · have : W.heap[g]? = none := Array.getElem?_eq_none h
    simp [World.cell?, this] at hc
theorem DuoC.below {W W' : World} (h : DuoC dp np ab bb now W) (hb : Below W.heap.size W W') : DuoC dp np ab bb now W' :=
  ⟨(hb.cell (cell_ltP h.c0)).trans h.c0, (hb.cell (cell_ltP h.c1)).trans h.c1, (hb.cell (cell_ltP h.cn)).trans h.cn⟩
set_option maxRecDepth 100000 in
set_option maxHeartbeats 2000000 in
theorem one_tick (hP : Parts v m q k sw is) (hv : v ≤ 9223372036854775807) (hm : m = 5) (hn : now ≤ 1000000) (hC : DuoC dp np ab bb now W) (fz : ∀ W', Below W.heap.size W W' → W'.frozen? ⟨np, 0, none⟩ = false)
    (HH : ∀ W', Calls Tryz.prog 55 #[] W' (HostsAs k hs W')) :
    Calls Tryz.prog 57 #[.pointer (some ⟨dp, 0, none⟩), .int .i64 (v : Int), .pointer (some ⟨np, 0, none⟩)] W fun e w' => e = .returned .nilIface ∧ ∃ W', Below W.heap.size W W' ∧ w' = W'.setCell ⟨np, 0, none⟩ (.int .i64 ((now : Int) + (1 + (q : Int) % 8))) := by
  obtain ⟨m8, q8, k4, kl, s2, i2⟩ := hP
  have HH := Lib.hid HH
  have HC := Lib.hid (fun W' (hb : Below W.heap.size W W') => And.intro (hC.below hb).cn (fz W' hb))
  have c0 := hC.c0
  have c1 := hC.c1
  have hk4 : (k : Int) < 4 := by omega
  have hq0 : (0 : Int) ≤ (q : Int) := by omega
  have hqm : (q : Int) ≤ 9223372036854775807 := by omega
  have hr8 : (0 : Int) ≤ (q : Int) % 8 := by omega
  have hr9 : (q : Int) % 8 < 8 := by omega
  subst hm
  unfold HostsAs at HH
  clear hC fz hv
  cases sw
  all_goals
    go_enter Tryz.func57, Tryz.ntmps57
    go_wp2_with fail
    go_quiet (fail)
    go_wp2_with fail
    refine (HH.out _).mono ?_
    rintro e w1 ⟨rfl, hb1, ck⟩
    have hbW : Below W.heap.size W w1 := below_two (below_drewN (Below.refl _ _) _) hb1
    obtain ⟨cnw, fzw⟩ := HC.out _ hbW
    have HB := Lib.hid hbW
    have ck2 : w1.cell? ⟨W.heap.size, k, none⟩ = some (.string hs) := ck
    clear hb1 hbW HH HC ck
    go_wp2_with fail
    go_ret
    exact ⟨rfl, _, HB.out, rfl⟩
set_option maxRecDepth 100000 in
set_option maxHeartbeats 4000000 in
theorem one_both {ev1 ev2 evr : Value} (hcase : (ev1 = .nilIface ∧ evr = ev2) ∨ (∃ t p, ev1 = .iface t p ∧ evr = ev1)) (hP : Parts v m q k sw is) (hv : v ≤ 9223372036854775807) (hm : m = 7) (hC : DuoC dp np ab bb now W)
    (HH : ∀ W', Calls Tryz.prog 55 #[] W' (HostsAs k hs W'))
    (HA : ∀ W', Below W.heap.size W W' → Calls Tryz.prog 11 #[.pointer (some ⟨ab, 0, none⟩), .int .u64 0, .int .i64 (now : Int)] W' fun e w' => ∃ (x : ByteArray) (b : Bool), e = .returned (.tuple #[.string x, .bool b, ev1]) ∧ DuoC dp np ab bb now w' ∧
      Hid (∀ W2, Below w'.heap.size w' W2 → Calls Tryz.prog 11 #[.pointer (some ⟨bb, 0, none⟩), .int .u64 0, .int .i64 (now : Int)] W2 fun e w2 => ∃ (x : ByteArray) (b : Bool), e = .returned (.tuple #[.string x, .bool b, ev2]) ∧ DuoC dp np ab bb now w2 ∧ Q w2)) :
    Calls Tryz.prog 57 #[.pointer (some ⟨dp, 0, none⟩), .int .i64 (v : Int), .pointer (some ⟨np, 0, none⟩)] W fun e w' => e = .returned evr ∧ Q w' := by
  obtain ⟨m8, q8, k4, kl, s2, i2⟩ := hP
  have HH := Lib.hid HH
  have HA := Lib.hid HA
  have HC := Lib.hid (fun W' (hb : Below W.heap.size W W') => hC.below hb)
  have c0 := hC.c0
  have c1 := hC.c1
  have hk4 : (k : Int) < 4 := by omega
  have hq0 : (0 : Int) ≤ (q : Int) := by omega
  have hqm : (q : Int) ≤ 9223372036854775807 := by omega
  subst hm
  unfold HostsAs at HH
  clear hC hv
  rcases hcase with ⟨rfl, rfl⟩ | ⟨et, ep, rfl, rfl⟩ <;> cases sw
  all_goals
    go_enter Tryz.func57, Tryz.ntmps57
    go_wp2_with fail
    go_quiet (fail)
    go_wp2_with fail
    refine (HH.out _).mono ?_
    rintro e w1 ⟨rfl, hb1, ck⟩
    have hbW : Below W.heap.size W w1 := below_two (below_drewN (Below.refl _ _) _) hb1
    have HC1 := Lib.hid (HC.out _ (bl_drewP hbW))
    have HA1 := Lib.hid (HA.out _ (bl_drewP hbW))
    have ck2 : w1.cell? ⟨W.heap.size, k, none⟩ = some (.string hs) := ck
    clear hb1 hbW HH HC HA ck
    go_wp2_with fail
    go_region_held3 (fun w' => w'.cell? ⟨dp, 0, none⟩ = some (.pointer (some ⟨ab, 0, none⟩)) ∧ w'.cell? ⟨np, 0, none⟩ = some (.int .i64 (now : Int))) (first | exact ⟨HC1.out.c0, HC1.out.cn⟩ | exact ⟨hC2.c0, hC2.cn⟩ | go_keep) (first
      | (go_at_call 11
         refine HA1.out.mono ?_
         rintro e w2 ⟨x2, b2, rfl, hC2, HB2⟩))
    have HC2 := Lib.hid hC2
    have HB3 := Lib.hid (HB2.out _ (bl_drewP (Below.refl w2.heap.size w2)))
    have HC3 := Lib.hid (hC2.below (bl_drewP (Below.refl w2.heap.size w2)))
    clear HB2 hC2
    go_wp2_with fail
    go_region_held3 (fun w' => w'.cell? ⟨dp, 1, none⟩ = some (.pointer (some ⟨bb, 0, none⟩)) ∧ w'.cell? ⟨np, 0, none⟩ = some (.int .i64 (now : Int))) (first | exact ⟨HC3.out.c1, HC3.out.cn⟩ | exact ⟨hC4.c1, hC4.cn⟩ | go_keep) (first
      | (go_at_call 11
         refine HB3.out.mono ?_
         rintro e w3 ⟨x3, b3, rfl, hC4, hQ⟩))
    clear HB3
    go_wp2_with fail
    go_ret
    exact ⟨rfl, hQ⟩
end
end Go.Proofs.YteilefpjfbholaaGreatDoor

namespace Go.Proofs.YteilefpjfbholaaGreatDoor
open Go.RowKit

section
variable {ea : Nat → Addr} {w W W' : World} {lo hi lo2 hi2 k now : Nat} {p q : BPl} {c : BCfg} {s t : BS}
def PickAny (ea : Nat → Addr) (w : World) (lo hi : Nat) (p : BPl) (c : BCfg) (r : (ByteArray × Bool × Nat) × BS) (W : World) (e : Ending) (w' : World) : Prop :=
  e = .returned (.tuple #[.string r.1.1, .bool r.1.2.1, errZ ea r.1.2.2]) ∧ BNow ea w w' lo hi p c r.2 ∧ Turn [p.fp, p.mb] W w'
theorem bn_pickAny (k : Nat) (now : Int) (h : BNow ea w W lo hi p c s) (hO : BOk c) (hU : U64 k) :
    Calls Tryz.prog 11 #[.pointer (some ⟨p.bp, 0, none⟩), .int .u64 (k : Int), .int .i64 now] W (PickAny ea w lo hi p c (pickS c s k now) W) :=
  (pick_any ea k now W h.e h.b hO hU).mono fun _ _ ⟨a, b, t⟩ => ⟨a, h.turn b t p.fm, t⟩
theorem BInv.check (h : BInv k now s) (hl : s.fs.2.length ≤ 200) (hn : now ≤ 1000000) (E : Int) (h0 : 0 ≤ E) (h1 : E ≤ 1099511627776) : checkOf E s.fs.2 = none :=
  checkOf_ok h0 h1 hl (fun y hy => ⟨(hostsFault_none.1 ok_22.hf).2.1 _ (h.fl y hy).1, (h.fl y hy).2.1, by have := (h.fl y hy).2.2; omega⟩) h.rise
/-- What may turn: two balances. -/
def TwoPost (ea : Nat → Addr) (w : World) (lo hi lo2 hi2 : Nat) (p q : BPl) (v : Value) (r : BS × BS) (W : World) (e : Ending) (w' : World) : Prop :=
  e = .returned v ∧ BNow ea w w' lo hi p c22 r.1 ∧ BNow ea w w' lo2 hi2 q c22 r.2 ∧ Turn (p.bs ++ q.bs) W w'
theorem over_any (h : BNow ea w W lo hi p c22 s) (h' : BNow ea w W lo2 hi2 q c22 t) (ha : Apart q p) (hW : CarW w) (hK : ErrsK ea w) (i1 : BInv k now s) (i2 : BInv k now t) (hk : k ≤ 100000) (hn : now ≤ 1000000) :
    Calls Tryz.prog 100 #[.pointer (some ⟨p.bp, 0, none⟩), .pointer (some ⟨q.bp, 0, none⟩), .int .i64 (now : Int)] W (TwoPost ea w lo hi lo2 hi2 p q (errZ ea (overS s t now).1) (overS s t now).2 W) := by
  have he := i1.ep
  have hck := i1.check h.b.f.len hn ((s.epoch : Int) + 1) (by omega) (by omega)
  have HX := Lib.hid (bn_export h hW hK (fun x hx => hosts_small ok_22 x.host (i1.fl x hx).1) (by omega) hck)
  have hrd := read_text hck fun x hx => h.b.f.map.u64 x hx
  have hrd2 : readOf (⟨(textOf ((s.epoch : Int) + 1) s.fs.2).toArray⟩ : ByteArray).data.toList = .good (s.epoch + 1) s.fs.2 := by
    rw [show ((s.epoch : Int) + 1) = ((s.epoch + 1 : Nat) : Int) from rfl] at hrd ⊢
    exact hrd
  have HI : Hid (∀ w1, BNow ea w w1 lo hi p c22 { s with epoch := s.epoch + 1 } → Turn [p.bp] W w1 → Calls Tryz.prog 14 #[.pointer (some ⟨q.bp, 0, none⟩), .string ⟨(textOf ((s.epoch : Int) + 1) s.fs.2).toArray⟩, .int .i64 (now : Int)] w1
      fun r w' => ∃ n : Nat, r = .returned (.tuple #[.int .i64 (n : Int), errZ ea (overS s t now).1]) ∧ TwoPost ea w lo hi lo2 hi2 p q (errZ ea (overS s t now).1) (overS s t now).2 W (.returned (errZ ea (overS s t now).1)) w') := Lib.hid fun w1 h1 t1 => by
    have h2 := h'.stay h1 t1 p.be ha
    have m1 : ∀ b ∈ [p.bp], b ∈ p.bs ++ q.bs := fun b hb => List.mem_append.2 (.inl (p.be b hb))
    unfold overS
    by_cases hlt : s.epoch + 1 < t.epoch
    · rw [if_pos hlt]
      exact (bn_importOld now (s.epoch + 1) s.fs.2 _ h2 hW hK hrd2 hlt).mono fun r w' ⟨a, b⟩ => ⟨0, a, rfl, h1.below b, h2.below b, (t1.more m1).thenB b⟩
    · rw [if_neg hlt]
      exact (bn_import now (s.epoch + 1) s.fs.2 _ h2 hW hK hrd2 (by omega) i2.last (by omega)).mono fun r w' ⟨a, b, t2⟩ => ⟨_, a, rfl, h1.stay b t2 q.bf ha.symm, b, (t1.more m1).then (t2.more fun b hb => List.mem_append.2 (.inr (q.bf b hb)))⟩
  unfold ExpAs at HX
  generalize errZ ea (overS s t now).1 = ev at *
  generalize textOf ((s.epoch : Int) + 1) s.fs.2 = tx at *
  clear h h' hW hK i1 i2 hck hrd hrd2 he
  go_enter Tryz.func100, Tryz.ntmps100
  go_wp2_with fail
  refine HX.out.mono ?_
  rintro r w1 ⟨rfl, h1, t1⟩
  have HI1 := Lib.hid (HI.out w1 h1 t1)
  clear h1 t1 HI HX
  go_wp2_with fail
  refine HI1.out.mono ?_
  rintro r w2 ⟨n, rfl, hP⟩
  have HP := Lib.hid hP
  clear hP HI1
  go_wp2_with fail
  go_ret
  exact HP.out
end
end Go.Proofs.YteilefpjfbholaaGreatDoor

namespace Go.Proofs.YteilefpjfbholaaGreatDoor
open Go.RowKit

set_option maxHeartbeats 1000000 in
theorem playHosts_any (w : World) : Calls Tryz.prog 55 #[] w fun e w' => e = .returned (.slice (some ⟨w.heap.size, 0, none⟩) 4 4) ∧ w' = w.alloc (.cells #[.string ⟨#[97]⟩, .string ⟨#[98]⟩, .string ⟨#[99]⟩, .string ⟨#[100]⟩] 9) := by
  go_enter Tryz.func55, Tryz.ntmps55
  go_wp2
  go_ret
  exact ⟨rfl, rfl⟩
theorem hostNo_at (q : Nat) : (#[Value.string ⟨#[97]⟩, .string ⟨#[98]⟩, .string ⟨#[99]⟩, .string ⟨#[100]⟩] : Array Value)[q / 2 % 4]? = some (.string (hostNo q)) := by
  unfold hostNo
  have h : q / 2 % 4 < 4 := Nat.mod_lt _ (by omega)
  generalize q / 2 % 4 = k at *
  match k, h with
  | 0, _ => rfl
  | 1, _ => rfl
  | 2, _ => rfl
  | 3, _ => rfl
theorem hostNo_mem (q : Nat) : hostNo q ∈ c22.hosts := by
  unfold hostNo
  have h : q / 2 % 4 < 4 := Nat.mod_lt _ (by omega)
  generalize q / 2 % 4 = k at *
  match k, h with
  | 0, _ => show sA ∈ [sA, sB, sC, sD]; simp
  | 1, _ => show sB ∈ [sA, sB, sC, sD]; simp
  | 2, _ => show sC ∈ [sA, sB, sC, sD]; simp
  | 3, _ => show sD ∈ [sA, sB, sC, sD]; simp
section
variable {ea : Nat → Addr} {w W W' : World} {lo hi lo2 hi2 k now : Nat} {p q : BPl} {c : BCfg} {s t : BS}
/-- A block of another type is none that a balance writes. -/
theorem BalAt.out {g : Nat} {ty : TypeId} {cs : Array Value} (h : BalAt W lo p c s) (hB : Blk W g ty cs) (h1 : ty ≠ 77) (h2 : ty ≠ 142) (h3 : ty ≠ 120) : g ∉ p.bs := by
  obtain ⟨es, cl, hm⟩ := h.f.map.heap
  obtain ⟨es2, cl2, hd⟩ := h.d.heap
  intro hb
  unfold BPl.bs at hb
  simp only [List.mem_cons] at hb
  rcases hb with rfl | rfl | rfl | rfl | hb
  · exact hB.ne_ h.blk h1 rfl
  · exact hB.ne_ h.f.blk h2 rfl
  · exact blk_not_map hm hB rfl
  · exact blk_not_map hd hB rfl
  · obtain ⟨x, hx⟩ := h.pbs hb
    exact hB.ne_ hx h3 rfl
/-- A duo. -/
structure DuoAt (ea : Nat → Addr) (w W : World) (dp lo hi lo2 hi2 : Nat) (p q : BPl) (k now : Nat) (s : BS × BS) : Prop where
  x : BNow ea w W lo hi p c22 s.1
  y : BNow ea w W lo2 hi2 q c22 s.2
  ap : Apart q p
  dk : Blk W dp 57 #[.pointer (some ⟨p.bp, 0, none⟩), .pointer (some ⟨q.bp, 0, none⟩)]
  ix : BInv k now s.1
  iy : BInv k now s.2
/-- What stands in a play. -/
structure Du (ea : Nat → Addr) (w W : World) (dp np lo hi lo2 hi2 : Nat) (p q : BPl) (k : Nat) (d : DS) : Prop where
  a : DuoAt ea w W dp lo hi lo2 hi2 p q k d.2 d.1
  nk : Blk W np 3 #[.int .i64 (d.2 : Int)]
  nw : d.2 ≤ 8 * k
  nf : w.heap.size ≤ np ∧ np ∉ p.all ∧ np ∉ q.all ∧ np ≠ dp
section
variable {dp np g k' now' : Nat} {d d' : DS} {st st' : BS × BS} {ty : TypeId} {cs : Array Value}
theorem DuoAt.below (h : DuoAt ea w W dp lo hi lo2 hi2 p q k now st) (hb : Below W.heap.size W W') : DuoAt ea w W' dp lo hi lo2 hi2 p q k now st :=
  ⟨h.x.below hb, h.y.below hb, h.ap, h.dk.below hb h.dk.lt, h.ix, h.iy⟩
theorem DuoAt.out (h : DuoAt ea w W dp lo hi lo2 hi2 p q k now st) (hB : Blk W g ty cs) (h1 : ty ≠ 77) (h2 : ty ≠ 142) (h3 : ty ≠ 120) : g ∉ p.bs ++ q.bs := by
  rw [List.mem_append]
  rintro (h4 | h4)
  · exact h.x.b.out hB h1 h2 h3 h4
  · exact h.y.b.out hB h1 h2 h3 h4
theorem DuoAt.turn (h : DuoAt ea w W dp lo hi lo2 hi2 p q k now st) (h1 : BNow ea w W' lo hi p c22 st'.1) (h2 : BNow ea w W' lo2 hi2 q c22 st'.2) (ht : Turn (p.bs ++ q.bs) W W') (i1 : BInv k' now' st'.1) (i2 : BInv k' now' st'.2) : DuoAt ea w W' dp lo hi lo2 hi2 p q k' now' st' :=
  ⟨h1, h2, h.ap, ht.blk h.dk (h.out h.dk (by decide) (by decide) (by decide)), i1, i2⟩
/-- What lies apart from a duo turns. -/
theorem DuoAt.far {bs : List Nat} (h : DuoAt ea w W dp lo hi lo2 hi2 p q k now st) (hE : ErrsB ea w) (ht : Turn bs W W') (hs : ∀ b ∈ bs, w.heap.size ≤ b ∧ b ∉ p.all ∧ b ∉ q.all ∧ b ≠ dp) : DuoAt ea w W' dp lo hi lo2 hi2 p q k now st :=
  ⟨h.x.far hE ht fun b hb => ⟨(hs b hb).1, (hs b hb).2.1⟩, h.y.far hE ht fun b hb => ⟨(hs b hb).1, (hs b hb).2.2.1⟩, h.ap, ht.blk h.dk fun hb => (hs _ hb).2.2.2 rfl, h.ix, h.iy⟩
theorem Du.below (h : Du ea w W dp np lo hi lo2 hi2 p q k d) (hb : Below W.heap.size W W') : Du ea w W' dp np lo hi lo2 hi2 p q k d := ⟨h.a.below hb, h.nk.below hb h.nk.lt, h.nw, h.nf⟩
theorem Du.turn (h : Du ea w W dp np lo hi lo2 hi2 p q k d) (h1 : BNow ea w W' lo hi p c22 d'.1.1) (h2 : BNow ea w W' lo2 hi2 q c22 d'.1.2) (ht : Turn (p.bs ++ q.bs) W W') (e : d'.2 = d.2) (i1 : BInv k' d'.2 d'.1.1) (i2 : BInv k' d'.2 d'.1.2) (hk : k ≤ k') : Du ea w W' dp np lo hi lo2 hi2 p q k' d' :=
  ⟨h.a.turn h1 h2 ht i1 i2, by rw [e]; exact ht.blk h.nk (h.a.out h.nk (by decide) (by decide) (by decide)), by rw [e]; have := h.nw; omega, h.nf⟩
end
def OnePost (ea : Nat → Addr) (w : World) (dp np lo hi lo2 hi2 : Nat) (p q : BPl) (k : Nat) (r : Nat × DS) (W : World) (e : Ending) (w' : World) : Prop :=
  e = .returned (errZ ea r.1) ∧ Du ea w w' dp np lo hi lo2 hi2 p q k r.2 ∧ Turn (np :: (p.bs ++ q.bs)) W w'
/-- What an act of one of two does to both. -/
structure TwoAt (ea : Nat → Addr) (w : World) (lo hi lo2 hi2 : Nat) (p q : BPl) (k now : Nat) (r : BS × BS) (W w' : World) : Prop where
  x : BNow ea w w' lo hi p c22 r.1
  y : BNow ea w w' lo2 hi2 q c22 r.2
  t : Turn (p.bs ++ q.bs) W w'
  ix : BInv k now r.1
  iy : BInv k now r.2
theorem TwoAt.swap (h : TwoAt ea w lo2 hi2 lo hi q p k now (t, s) W W') : TwoAt ea w lo hi lo2 hi2 p q k now (s, t) W W' :=
  ⟨h.y, h.x, h.t.more (fun b hb => by rw [List.mem_append] at hb ⊢; exact hb.symm), h.iy, h.ix⟩
theorem in_left (p q : BPl) : ∀ b ∈ p.bs, b ∈ p.bs ++ q.bs := fun _ hb => List.mem_append.2 (.inl hb)
theorem duo_look (z : ByteArray) (v : Bool) (h : BNow ea w W lo hi p c22 s) (h' : BNow ea w W lo2 hi2 q c22 t) (ha : Apart q p) (i1 : BInv k now s) (i2 : BInv k now t) :
    Calls Tryz.prog 12 #[.pointer (some ⟨p.bp, 0, none⟩), .string z, .bool v] W fun e w' => ∃ b : Bool, e = .returned (.tuple #[.bool b, errZ ea (lookB c22 s z v).1.2]) ∧ TwoAt ea w lo hi lo2 hi2 p q (k + 1) now ((lookB c22 s z v).2, t) W w' :=
  (bn_look z v h ok_22).mono fun _ _ ⟨a, b, tt⟩ => ⟨_, a, b, h'.stay b tt (fun _ hb => hb) ha, tt.more (in_left p q), (i1.look z v).more (Nat.le_succ k) (Nat.le_refl _), i2.more (Nat.le_succ k) (Nat.le_refl _)⟩
theorem duo_drain (z : ByteArray) (v : Bool) (hz : z ∈ c22.hosts) (h : BNow ea w W lo hi p c22 s) (h' : BNow ea w W lo2 hi2 q c22 t) (ha : Apart q p) (i1 : BInv k now s) (i2 : BInv k now t) (hk : k ≤ 100000) :
    Calls Tryz.prog 18 #[.pointer (some ⟨p.bp, 0, none⟩), .string z, .bool v] W fun e w' => e = .returned (errZ ea 0) ∧ TwoAt ea w lo hi lo2 hi2 p q (k + 1) now (drainS s z v, t) W w' :=
  have hd : ∀ b ∈ [p.db], b ∈ p.bs := fun b hb => by rw [List.mem_singleton] at hb; subst hb; simp [BPl.bs]
  (bn_drain z v h hz (hosts_small ok_22 z hz) (by have := i1.nd; omega)).mono fun _ _ ⟨a, b, tt⟩ => ⟨a, b, h'.stay b tt hd ha, (tt.more hd).more (in_left p q), i1.drain z v, i2.more (Nat.le_succ k) (Nat.le_refl _)⟩
theorem duo_over (h : BNow ea w W lo hi p c22 s) (h' : BNow ea w W lo2 hi2 q c22 t) (ha : Apart q p) (hW : CarW w) (hK : ErrsK ea w) (i1 : BInv k now s) (i2 : BInv k now t) (hk : k ≤ 100000) (hn : now ≤ 1000000) :
    Calls Tryz.prog 100 #[.pointer (some ⟨p.bp, 0, none⟩), .pointer (some ⟨q.bp, 0, none⟩), .int .i64 (now : Int)] W fun e w' => e = .returned (errZ ea (overS s t now).1) ∧ TwoAt ea w lo hi lo2 hi2 p q (k + 1) now (overS s t now).2 W w' :=
  (over_any h h' ha hW hK i1 i2 hk hn).mono fun _ _ ⟨a, b, c, tt⟩ => ⟨a, b, c, tt, (i1.over i2).1, (i1.over i2).2⟩
theorem duo_pick (key : Nat) {k' : Nat} (hkk : k ≤ k') (h : BNow ea w W lo hi p c22 s) (h' : BNow ea w W lo2 hi2 q c22 t) (ha : Apart q p) (hU : U64 key) (i1 : BInv k now s) (i2 : BInv k now t) (hn : now ≤ 1000000) :
    Calls Tryz.prog 11 #[.pointer (some ⟨p.bp, 0, none⟩), .int .u64 (key : Int), .int .i64 (now : Int)] W fun e w' => ∃ (x : ByteArray) (kept : Bool), e = .returned (.tuple #[.string x, .bool kept, errZ ea (pickS c22 s key now).1.2.2]) ∧ TwoAt ea w lo hi lo2 hi2 p q k' now ((pickS c22 s key now).2, t) W w' :=
  (bn_pickAny key now h ok_22 hU).mono fun _ _ ⟨a, b, tt⟩ => ⟨_, _, a, b, h'.stay b tt p.fm ha, (tt.more p.fm).more (in_left p q), (i1.pick h.b.same hn key).1.more hkk (Nat.le_refl _), i2.more hkk (Nat.le_refl _)⟩
section
variable {dp np v : Nat} {d : DS}
/-- How an act of one of two ends. -/
theorem Du.two (h : Du ea w W dp np lo hi lo2 hi2 p q k d) {r : BS × BS} (ht : TwoAt ea w lo hi lo2 hi2 p q (k + 1) d.2 r W W') : Du ea w W' dp np lo hi lo2 hi2 p q (k + 1) (r, d.2) ∧ Turn (np :: (p.bs ++ q.bs)) W W' :=
  ⟨h.turn ht.x ht.y ht.t rfl ht.ix ht.iy (Nat.le_succ k), ht.t.more fun _ hb => List.mem_cons_of_mem _ hb⟩
theorem Du.endA (h : Du ea w W dp np lo hi lo2 hi2 p q k d) (h5 : ¬ v % 8 = 5) (h7 : ¬ v % 8 = 7) (hq : ¬ v / 8 % 2 = 1) (ht : TwoAt ea w lo hi lo2 hi2 p q (k + 1) d.2 (actXY v d.1.1 d.1.2 d.2).2 W W') :
    OnePost ea w dp np lo hi lo2 hi2 p q (k + 1) (oneS v d) W (.returned (errZ ea (actXY v d.1.1 d.1.2 d.2).1)) W' := by
  have e : oneS v d = ((actXY v d.1.1 d.1.2 d.2).1, ((actXY v d.1.1 d.1.2 d.2).2, d.2)) := by unfold oneS; rw [if_neg h5, if_neg h7, if_neg hq]
  rw [e]
  exact ⟨rfl, h.two ht⟩
theorem Du.endB (h : Du ea w W dp np lo hi lo2 hi2 p q k d) (h5 : ¬ v % 8 = 5) (h7 : ¬ v % 8 = 7) (hq : v / 8 % 2 = 1) (ht : TwoAt ea w lo2 hi2 lo hi q p (k + 1) d.2 (actXY v d.1.2 d.1.1 d.2).2 W W') :
    OnePost ea w dp np lo hi lo2 hi2 p q (k + 1) (oneS v d) W (.returned (errZ ea (actXY v d.1.2 d.1.1 d.2).1)) W' := by
  have e : oneS v d = ((actXY v d.1.2 d.1.1 d.2).1, (((actXY v d.1.2 d.1.1 d.2).2.2, (actXY v d.1.2 d.1.1 d.2).2.1), d.2)) := by unfold oneS; rw [if_neg h5, if_neg h7, if_pos hq]
  rw [e]
  exact ⟨rfl, h.two (TwoAt.swap ht)⟩
/-- A tick. -/
theorem Du.tick (hE : ErrsB ea w) (h : Du ea w W dp np lo hi lo2 hi2 p q k d) (hb : Below W.heap.size W W') (h5 : v % 8 = 5) : OnePost ea w dp np lo hi lo2 hi2 p q (k + 1) (oneS v d) W (.returned .nilIface) (W'.setCell ⟨np, 0, none⟩ (.int .i64 ((d.2 : Int) + (1 + (v : Int) / 8 % 8)))) := by
  have e : oneS v d = (0, (d.1, d.2 + (1 + v / 8 % 8))) := by unfold oneS; rw [if_pos h5]
  have hc : ((d.2 : Int) + (1 + (v : Int) / 8 % 8)) = ((d.2 + (1 + v / 8 % 8) : Nat) : Int) := by omega
  have h' := h.below hb
  have ht : Turn [np] W' (W'.setCell ⟨np, 0, none⟩ (.int .i64 ((d.2 + (1 + v / 8 % 8) : Nat) : Int))) := (Turn.refl _ W').setCell (p := ⟨np, 0, none⟩) (.inl (by simp)) _
  have hD := h'.a.far hE ht (fun b hb => by rw [List.mem_singleton] at hb; subst hb; exact h.nf)
  have hm : v / 8 % 8 < 8 := Nat.mod_lt _ (by omega)
  have hn := h.nw
  rw [e, hc]
  exact ⟨rfl, ⟨⟨hD.x, hD.y, hD.ap, hD.dk, hD.ix.more (Nat.le_succ k) (Nat.le_add_right _ _), hD.iy.more (Nat.le_succ k) (Nat.le_add_right _ _)⟩, h'.nk.set_ 0 _, by show d.2 + (1 + v / 8 % 8) ≤ 8 * (k + 1); omega, h.nf⟩, (Turn.of_below hb : Turn (np :: (p.bs ++ q.bs)) W W').then (ht.more fun b hb => by rw [List.mem_singleton] at hb; subst hb; exact List.mem_cons_self)⟩
/-- Both pick. -/
theorem Du.both (h : Du ea w W dp np lo hi lo2 hi2 p q k d) (h7 : v % 8 = 7) {w1 : World} (h1 : TwoAt ea w lo hi lo2 hi2 p q k d.2 ((pickS c22 d.1.1 0 d.2).2, d.1.2) W w1) (h2 : TwoAt ea w lo2 hi2 lo hi q p (k + 1) d.2 ((pickS c22 d.1.2 0 d.2).2, (pickS c22 d.1.1 0 d.2).2) w1 W') :
    OnePost ea w dp np lo hi lo2 hi2 p q (k + 1) (oneS v d) W (.returned (errZ ea (if (pickS c22 d.1.1 0 d.2).1.2.2 = 0 then (pickS c22 d.1.2 0 d.2).1.2.2 else (pickS c22 d.1.1 0 d.2).1.2.2))) W' := by
  have e : oneS v d = bothS d := by unfold oneS; rw [if_neg (by omega), if_pos h7]
  rw [e]
  refine ⟨rfl, h.two (r := ((pickS c22 d.1.1 0 d.2).2, (pickS c22 d.1.2 0 d.2).2)) ⟨h2.y, h2.x, h1.t.then (h2.t.more fun b hb => by rw [List.mem_append] at hb ⊢; exact hb.symm), h2.iy, h2.ix⟩⟩
theorem TwoAt.from_ {k' now' : Nat} {r : BS × BS} {W1 : World} (h : TwoAt ea w lo hi lo2 hi2 p q k' now' r W1 W') (hb : Below W.heap.size W W1) : TwoAt ea w lo hi lo2 hi2 p q k' now' r W W' :=
  ⟨h.x, h.y, (Turn.of_below hb : Turn (p.bs ++ q.bs) W W1).then h.t, h.ix, h.iy⟩
theorem hosts_as (v : Nat) (W : World) : Calls Tryz.prog 55 #[] W (HostsAs (v / 8 / 2 % 4) (hostNo (v / 8)) W) :=
  (playHosts_any W).mono fun e w' ⟨a, b⟩ => ⟨a, by rw [b]; exact (Below.refl _ _).alloc (Nat.le_refl _) _, by rw [b]; exact ((Blk.new W 9 _).cell _).trans (hostNo_at (v / 8))⟩
theorem one_any (hv : v ≤ 9223372036854775807) (hE : ErrsB ea w) (hW : CarW w) (hK : ErrsK ea w) (h : Du ea w W dp np lo hi lo2 hi2 p q k d) (hk : k ≤ 100000) :
    Calls Tryz.prog 57 #[.pointer (some ⟨dp, 0, none⟩), .int .i64 (v : Int), .pointer (some ⟨np, 0, none⟩)] W (OnePost ea w dp np lo hi lo2 hi2 p q (k + 1) (oneS v d) W) := by
  have hP := Parts.of v
  have hC : DuoC dp np p.bp q.bp d.2 W := ⟨h.a.dk.cell 0, h.a.dk.cell 1, h.nk.cell 0⟩
  have HH := fun W' => hosts_as v W'
  have hn : d.2 ≤ 1000000 := by have := h.nw; omega
  by_cases h5 : v % 8 = 5
  · refine (one_tick hP hv h5 hn hC (fun W' hb => (h.nk.below hb h.nk.lt).frozen 0) HH).mono ?_
    rintro e w' ⟨rfl, W', hb, rfl⟩
    rw [show ((v / 8 : Nat) : Int) = (v : Int) / 8 by omega]
    exact h.tick hE hb h5
  by_cases h7 : v % 8 = 7
  · have hcase : (errZ ea (pickS c22 d.1.1 0 d.2).1.2.2 = .nilIface ∧ errZ ea (if (pickS c22 d.1.1 0 d.2).1.2.2 = 0 then (pickS c22 d.1.2 0 d.2).1.2.2 else (pickS c22 d.1.1 0 d.2).1.2.2) = errZ ea (pickS c22 d.1.2 0 d.2).1.2.2) ∨ (∃ t x, errZ ea (pickS c22 d.1.1 0 d.2).1.2.2 = .iface t x ∧ errZ ea (if (pickS c22 d.1.1 0 d.2).1.2.2 = 0 then (pickS c22 d.1.2 0 d.2).1.2.2 else (pickS c22 d.1.1 0 d.2).1.2.2) = errZ ea (pickS c22 d.1.1 0 d.2).1.2.2) := by
      by_cases h0 : (pickS c22 d.1.1 0 d.2).1.2.2 = 0
      · exact .inl ⟨by rw [h0]; rfl, by rw [if_pos h0]⟩
      · exact .inr ⟨_, _, by rw [errZ_some ea h0]; rfl, by rw [if_neg h0]⟩
    refine (one_both (Q := fun w' => OnePost ea w dp np lo hi lo2 hi2 p q (k + 1) (oneS v d) W (.returned (errZ ea (if (pickS c22 d.1.1 0 d.2).1.2.2 = 0 then (pickS c22 d.1.2 0 d.2).1.2.2 else (pickS c22 d.1.1 0 d.2).1.2.2))) w') hcase hP hv h7 hC HH (fun W1 hb => ?_)).mono fun e w' ⟨a, b⟩ => a ▸ b
    have hB := h.a.below hb
    refine (duo_pick 0 (Nat.le_refl k) hB.x hB.y hB.ap (by unfold U64; decide) hB.ix hB.iy hn).mono fun e w1 ⟨x, b, a, t⟩ => ⟨x, b, a, ?_, Lib.hid fun W2 hb2 => ?_⟩
    · have t' := t.from_ hb
      have hd := h.turn (d' := (((pickS c22 d.1.1 0 d.2).2, d.1.2), d.2)) t'.x t'.y t'.t rfl t'.ix t'.iy (Nat.le_refl k)
      exact ⟨hd.a.dk.cell 0, hd.a.dk.cell 1, hd.nk.cell 0⟩
    · have t' := t.from_ hb
      have hd := (h.turn (d' := (((pickS c22 d.1.1 0 d.2).2, d.1.2), d.2)) t'.x t'.y t'.t rfl t'.ix t'.iy (Nat.le_refl k)).below hb2
      refine (duo_pick 0 (Nat.le_succ k) hd.a.y hd.a.x hd.a.ap.symm (by unfold U64; decide) hd.a.iy hd.a.ix hn).mono fun e w2 ⟨x2, b2, a2, t2⟩ => ⟨x2, b2, a2, ?_, ?_⟩
      · have hd2 := hd.turn (d' := (((pickS c22 d.1.1 0 d.2).2, (pickS c22 d.1.2 0 d.2).2), d.2)) t2.y t2.x (t2.t.more fun b hb => by rw [List.mem_append] at hb ⊢; exact hb.symm) rfl t2.iy t2.ix (Nat.le_succ k)
        exact ⟨hd2.a.dk.cell 0, hd2.a.dk.cell 1, hd2.nk.cell 0⟩
      · exact h.both h7 t' (t2.from_ hb2)
  by_cases h3 : v % 8 = 3
  · have ea3 : ∀ x y : BS, actXY v x y d.2 = ((lookB c22 x (hostNo (v / 8)) (decide (v / 8 / 8 % 2 = 1))).1.2, ((lookB c22 x (hostNo (v / 8)) (decide (v / 8 / 8 % 2 = 1))).2, y)) := fun x y => by unfold actXY; rw [if_pos h3]
    by_cases hq : v / 8 % 2 = 1
    · refine (one_look (Q := fun w' => OnePost ea w dp np lo hi lo2 hi2 p q (k + 1) (oneS v d) W (.returned (errZ ea (actXY v d.1.2 d.1.1 d.2).1)) w') hP (.inl ⟨by simpa using hq, rfl, rfl⟩) hv h3 hC.c0 hC.c1 (fun W' hb => (hC.below hb).cn) HH (fun W1 hb => ?_)).mono fun e w' ⟨a, b⟩ => a ▸ b
      have hB := h.a.below hb
      refine (duo_look (hostNo (v / 8)) (decide (v / 8 / 8 % 2 = 1)) hB.y hB.x hB.ap.symm hB.iy hB.ix).mono fun e w2 ⟨b, a, t⟩ => ⟨b, ?_, h.endB h5 h7 hq ?_⟩
      · rw [a, ea3]
      · rw [ea3]; exact t.from_ hb
    · refine (one_look (Q := fun w' => OnePost ea w dp np lo hi lo2 hi2 p q (k + 1) (oneS v d) W (.returned (errZ ea (actXY v d.1.1 d.1.2 d.2).1)) w') hP (.inr ⟨by simpa using hq, rfl, rfl⟩) hv h3 hC.c0 hC.c1 (fun W' hb => (hC.below hb).cn) HH (fun W1 hb => ?_)).mono fun e w' ⟨a, b⟩ => a ▸ b
      have hB := h.a.below hb
      refine (duo_look (hostNo (v / 8)) (decide (v / 8 / 8 % 2 = 1)) hB.x hB.y hB.ap hB.ix hB.iy).mono fun e w2 ⟨b, a, t⟩ => ⟨b, ?_, h.endA h5 h7 hq ?_⟩
      · rw [a, ea3]
      · rw [ea3]; exact t.from_ hb
  by_cases h4 : v % 8 = 4
  · have ea4 : ∀ x y : BS, actXY v x y d.2 = (0, (drainS x (hostNo (v / 8)) (decide (v / 8 / 8 % 2 = 1)), y)) := fun x y => by unfold actXY; rw [if_neg h3, if_pos h4]
    by_cases hq : v / 8 % 2 = 1
    · refine (one_drain (Q := fun w' => OnePost ea w dp np lo hi lo2 hi2 p q (k + 1) (oneS v d) W (.returned (errZ ea (actXY v d.1.2 d.1.1 d.2).1)) w') hP (.inl ⟨by simpa using hq, rfl, rfl⟩) hv h4 hC.c0 hC.c1 (fun W' hb => (hC.below hb).cn) HH (fun W1 hb => ?_)).mono fun e w' ⟨a, b⟩ => a ▸ b
      have hB := h.a.below hb
      refine (duo_drain (hostNo (v / 8)) (decide (v / 8 / 8 % 2 = 1)) (hostNo_mem _) hB.y hB.x hB.ap.symm hB.iy hB.ix hk).mono fun e w2 ⟨a, t⟩ => ⟨?_, h.endB h5 h7 hq ?_⟩
      · rw [a, ea4]
      · rw [ea4]; exact t.from_ hb
    · refine (one_drain (Q := fun w' => OnePost ea w dp np lo hi lo2 hi2 p q (k + 1) (oneS v d) W (.returned (errZ ea (actXY v d.1.1 d.1.2 d.2).1)) w') hP (.inr ⟨by simpa using hq, rfl, rfl⟩) hv h4 hC.c0 hC.c1 (fun W' hb => (hC.below hb).cn) HH (fun W1 hb => ?_)).mono fun e w' ⟨a, b⟩ => a ▸ b
      have hB := h.a.below hb
      refine (duo_drain (hostNo (v / 8)) (decide (v / 8 / 8 % 2 = 1)) (hostNo_mem _) hB.x hB.y hB.ap hB.ix hB.iy hk).mono fun e w2 ⟨a, t⟩ => ⟨?_, h.endA h5 h7 hq ?_⟩
      · rw [a, ea4]
      · rw [ea4]; exact t.from_ hb
  by_cases h6 : v % 8 = 6
  · have ea6 : ∀ x y : BS, actXY v x y d.2 = overS x y d.2 := fun x y => by unfold actXY; rw [if_neg h3, if_neg h4, if_pos h6]
    by_cases hq : v / 8 % 2 = 1
    · refine (one_over (Q := fun w' => OnePost ea w dp np lo hi lo2 hi2 p q (k + 1) (oneS v d) W (.returned (errZ ea (actXY v d.1.2 d.1.1 d.2).1)) w') hP (.inl ⟨by simpa using hq, rfl, rfl⟩) hv h6 hC.c0 hC.c1 (fun W' hb => (hC.below hb).cn) HH (fun W1 hb => ?_)).mono fun e w' ⟨a, b⟩ => a ▸ b
      have hB := h.a.below hb
      refine (duo_over hB.y hB.x hB.ap.symm hW hK hB.iy hB.ix hk hn).mono fun e w2 ⟨a, t⟩ => ⟨?_, h.endB h5 h7 hq ?_⟩
      · rw [a, ea6]
      · rw [ea6]; exact t.from_ hb
    · refine (one_over (Q := fun w' => OnePost ea w dp np lo hi lo2 hi2 p q (k + 1) (oneS v d) W (.returned (errZ ea (actXY v d.1.1 d.1.2 d.2).1)) w') hP (.inr ⟨by simpa using hq, rfl, rfl⟩) hv h6 hC.c0 hC.c1 (fun W' hb => (hC.below hb).cn) HH (fun W1 hb => ?_)).mono fun e w' ⟨a, b⟩ => a ▸ b
      have hB := h.a.below hb
      refine (duo_over hB.x hB.y hB.ap hW hK hB.ix hB.iy hk hn).mono fun e w2 ⟨a, t⟩ => ⟨?_, h.endA h5 h7 hq ?_⟩
      · rw [a, ea6]
      · rw [ea6]; exact t.from_ hb
  have ea0 : ∀ x y : BS, actXY v x y d.2 = ((pickS c22 x (v / 8 / 2) d.2).1.2.2, ((pickS c22 x (v / 8 / 2) d.2).2, y)) := fun x y => by unfold actXY; rw [if_neg h3, if_neg h4, if_neg h6]
  have hU : U64 (v / 8 / 2) := by unfold U64; omega
  by_cases hq : v / 8 % 2 = 1
  · refine (one_pick (Q := fun w' => OnePost ea w dp np lo hi lo2 hi2 p q (k + 1) (oneS v d) W (.returned (errZ ea (actXY v d.1.2 d.1.1 d.2).1)) w') hP (.inl ⟨by simpa using hq, rfl, rfl⟩) hv ⟨h3, h4, h5, h6, h7⟩ hC.c0 hC.c1 (fun W' hb => (hC.below hb).cn) HH (fun W1 hb => ?_)).mono fun e w' ⟨a, b⟩ => a ▸ b
    have hB := h.a.below hb
    rw [show ((v / 8 : Nat) : Int) / 2 = ((v / 8 / 2 : Nat) : Int) by omega]
    refine (duo_pick (v / 8 / 2) (Nat.le_succ k) hB.y hB.x hB.ap.symm hU hB.iy hB.ix hn).mono fun e w2 ⟨x, b, a, t⟩ => ⟨x, b, ?_, h.endB h5 h7 hq ?_⟩
    · rw [a, ea0]
    · rw [ea0]; exact t.from_ hb
  · refine (one_pick (Q := fun w' => OnePost ea w dp np lo hi lo2 hi2 p q (k + 1) (oneS v d) W (.returned (errZ ea (actXY v d.1.1 d.1.2 d.2).1)) w') hP (.inr ⟨by simpa using hq, rfl, rfl⟩) hv ⟨h3, h4, h5, h6, h7⟩ hC.c0 hC.c1 (fun W' hb => (hC.below hb).cn) HH (fun W1 hb => ?_)).mono fun e w' ⟨a, b⟩ => a ▸ b
    have hB := h.a.below hb
    rw [show ((v / 8 : Nat) : Int) / 2 = ((v / 8 / 2 : Nat) : Int) by omega]
    refine (duo_pick (v / 8 / 2) (Nat.le_succ k) hB.x hB.y hB.ap hU hB.ix hB.iy hn).mono fun e w2 ⟨x, b, a, t⟩ => ⟨x, b, ?_, h.endA h5 h7 hq ?_⟩
    · rw [a, ea0]
    · rw [ea0]; exact t.from_ hb
end
end
end Go.Proofs.YteilefpjfbholaaGreatDoor
