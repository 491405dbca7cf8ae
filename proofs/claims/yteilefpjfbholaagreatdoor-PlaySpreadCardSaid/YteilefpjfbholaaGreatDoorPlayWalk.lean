/-
  Package play's one: its walks, a kind of number each.
-/
import Derived.Test.YteilefpjfbholaaGreatDoorBase
import Derived.Deep.RegionHeld3
namespace Go.Proofs.YteilefpjfbholaaGreatDoor
open Go.RowKit

/-- What a number is parted into: its kind, the host's number, the host, what is told of it. -/
structure Parts (v m q k : Nat) (sw is : Bool) : Prop where
  m8 : (v : Int) % 8 = (m : Int)
  q8 : (v : Int) / 8 = (q : Int)
  k4 : (q : Int) / 2 % 4 = (k : Int)
  kl : k < 4
  s2 : ((q : Int) % 2 == 1) = sw
  i2 : ((q : Int) / 8 % 2 == 1) = is
theorem Parts.of (v : Nat) : Parts v (v % 8) (v / 8) (v / 8 / 2 % 4) (decide (v / 8 % 2 = 1)) (decide (v / 8 / 8 % 2 = 1)) := by
  refine ⟨by omega, by omega, by omega, Nat.mod_lt _ (by omega), ?_, ?_⟩
  · rw [Bool.eq_iff_iff, beq_iff_eq, decide_eq_true_iff]; omega
  · rw [Bool.eq_iff_iff, beq_iff_eq, decide_eq_true_iff]; omega
theorem bl_drewP {B : Nat} {a w : World} (h : Below B a w) : Below B a w.drew := ⟨h.os, h.tape, h.output, h.size, h.block⟩
def HostsAs (k : Nat) (hs : ByteArray) (W : World) (e : Ending) (w' : World) : Prop := e = .returned (.slice (some ⟨W.heap.size, 0, none⟩) 4 4) ∧ Below W.heap.size W w' ∧ w'.cell? ⟨W.heap.size, k, none⟩ = some (.string hs)
section
variable {W : World} {dp np ab bb xb yb v m q k now : Nat} {sw is : Bool} {hs : ByteArray} {Q : World → Prop} {ev : Value}
/-- Which of two is asked. -/
def Turned (sw : Bool) (ab bb xb yb : Nat) : Prop := (sw = true ∧ xb = bb ∧ yb = ab) ∨ (sw = false ∧ xb = ab ∧ yb = bb)

set_option maxRecDepth 100000 in
set_option maxHeartbeats 2000000 in
theorem one_look (hP : Parts v m q k sw is) (hx : Turned sw ab bb xb yb) (hv : v ≤ 9223372036854775807) (hm : m = 3)
    (c0 : W.cell? ⟨dp, 0, none⟩ = some (.pointer (some ⟨ab, 0, none⟩))) (c1 : W.cell? ⟨dp, 1, none⟩ = some (.pointer (some ⟨bb, 0, none⟩))) (cn : ∀ W', Below W.heap.size W W' → W'.cell? ⟨np, 0, none⟩ = some (.int .i64 (now : Int)))
    (HH : ∀ W', Calls Tryz.prog 55 #[] W' (HostsAs k hs W'))
    (HL : ∀ W', Below W.heap.size W W' → Calls Tryz.prog 12 #[.pointer (some ⟨xb, 0, none⟩), .string hs, .bool is] W' fun e w' => ∃ b : Bool, e = .returned (.tuple #[.bool b, ev]) ∧ Q w') :
    Calls Tryz.prog 57 #[.pointer (some ⟨dp, 0, none⟩), .int .i64 (v : Int), .pointer (some ⟨np, 0, none⟩)] W fun e w' => e = .returned ev ∧ Q w' := by
  obtain ⟨m8, q8, k4, kl, s2, i2⟩ := hP
  have HH := Lib.hid HH
  have HL := Lib.hid HL
  have HCn := Lib.hid cn
  have hk4 : (k : Int) < 4 := by omega
  have hq0 : (0 : Int) ≤ (q : Int) := by omega
  have hqm : (q : Int) ≤ 9223372036854775807 := by omega

  subst hm
  unfold HostsAs at HH
  clear cn hv
  rcases hx with ⟨rfl, rfl, rfl⟩ | ⟨rfl, rfl, rfl⟩
  all_goals
    go_enter Tryz.func57, Tryz.ntmps57
    go_wp2_with fail
    go_quiet (fail)
    go_wp2_with fail
    refine (HH.out _).mono ?_
    rintro e w1 ⟨rfl, hb1, ck⟩
    have hbW : Below W.heap.size W w1 := below_two (below_drewN (Below.refl _ _) _) hb1
    have HLW := Lib.hid (HL.out _ hbW)
    have cnw := HCn.out _ hbW
    have ck2 : w1.cell? ⟨W.heap.size, k, none⟩ = some (.string hs) := ck
    clear ck
    clear hb1 hbW HL HCn HH
    go_wp2_with fail
    refine HLW.out.mono ?_
    rintro e w2 ⟨b2, rfl, hQ⟩
    clear HLW
    go_wp2
    go_ret
    exact ⟨rfl, hQ⟩
set_option maxRecDepth 100000 in
set_option maxHeartbeats 2000000 in
theorem one_drain (hP : Parts v m q k sw is) (hx : Turned sw ab bb xb yb) (hv : v ≤ 9223372036854775807) (hm : m = 4)
    (c0 : W.cell? ⟨dp, 0, none⟩ = some (.pointer (some ⟨ab, 0, none⟩))) (c1 : W.cell? ⟨dp, 1, none⟩ = some (.pointer (some ⟨bb, 0, none⟩))) (cn : ∀ W', Below W.heap.size W W' → W'.cell? ⟨np, 0, none⟩ = some (.int .i64 (now : Int)))
    (HH : ∀ W', Calls Tryz.prog 55 #[] W' (HostsAs k hs W'))
    (HL : ∀ W', Below W.heap.size W W' → Calls Tryz.prog 18 #[.pointer (some ⟨xb, 0, none⟩), .string hs, .bool is] W' fun e w' => e = .returned ev ∧ Q w') :
    Calls Tryz.prog 57 #[.pointer (some ⟨dp, 0, none⟩), .int .i64 (v : Int), .pointer (some ⟨np, 0, none⟩)] W fun e w' => e = .returned ev ∧ Q w' := by
  obtain ⟨m8, q8, k4, kl, s2, i2⟩ := hP
  have HH := Lib.hid HH
  have HL := Lib.hid HL
  have HCn := Lib.hid cn
  have hk4 : (k : Int) < 4 := by omega
  have hq0 : (0 : Int) ≤ (q : Int) := by omega
  have hqm : (q : Int) ≤ 9223372036854775807 := by omega

  subst hm
  unfold HostsAs at HH
  clear cn hv
  rcases hx with ⟨rfl, rfl, rfl⟩ | ⟨rfl, rfl, rfl⟩
  all_goals
    go_enter Tryz.func57, Tryz.ntmps57
    go_wp2_with fail
    go_quiet (fail)
    go_wp2_with fail
    refine (HH.out _).mono ?_
    rintro e w1 ⟨rfl, hb1, ck⟩
    have hbW : Below W.heap.size W w1 := below_two (below_drewN (Below.refl _ _) _) hb1
    have HLW := Lib.hid (HL.out _ hbW)
    have cnw := HCn.out _ hbW
    have ck2 : w1.cell? ⟨W.heap.size, k, none⟩ = some (.string hs) := ck
    clear ck
    clear hb1 hbW HL HCn HH
    go_wp2_with fail
    refine HLW.out.mono ?_
    rintro e w2 ⟨rfl, hQ⟩
    clear HLW
    go_wp2
    go_ret
    exact ⟨rfl, hQ⟩
set_option maxRecDepth 100000 in
set_option maxHeartbeats 2000000 in
theorem one_over (hP : Parts v m q k sw is) (hx : Turned sw ab bb xb yb) (hv : v ≤ 9223372036854775807) (hm : m = 6)
    (c0 : W.cell? ⟨dp, 0, none⟩ = some (.pointer (some ⟨ab, 0, none⟩))) (c1 : W.cell? ⟨dp, 1, none⟩ = some (.pointer (some ⟨bb, 0, none⟩))) (cn : ∀ W', Below W.heap.size W W' → W'.cell? ⟨np, 0, none⟩ = some (.int .i64 (now : Int)))
    (HH : ∀ W', Calls Tryz.prog 55 #[] W' (HostsAs k hs W'))
    (HL : ∀ W', Below W.heap.size W W' → Calls Tryz.prog 100 #[.pointer (some ⟨xb, 0, none⟩), .pointer (some ⟨yb, 0, none⟩), .int .i64 (now : Int)] W' fun e w' => e = .returned ev ∧ Q w') :
    Calls Tryz.prog 57 #[.pointer (some ⟨dp, 0, none⟩), .int .i64 (v : Int), .pointer (some ⟨np, 0, none⟩)] W fun e w' => e = .returned ev ∧ Q w' := by
  obtain ⟨m8, q8, k4, kl, s2, i2⟩ := hP
  have HH := Lib.hid HH
  have HL := Lib.hid HL
  have HCn := Lib.hid cn
  have hk4 : (k : Int) < 4 := by omega
  have hq0 : (0 : Int) ≤ (q : Int) := by omega
  have hqm : (q : Int) ≤ 9223372036854775807 := by omega

  subst hm
  unfold HostsAs at HH
  clear cn hv
  rcases hx with ⟨rfl, rfl, rfl⟩ | ⟨rfl, rfl, rfl⟩
  all_goals
    go_enter Tryz.func57, Tryz.ntmps57
    go_wp2_with fail
    go_quiet (fail)
    go_wp2_with fail
    refine (HH.out _).mono ?_
    rintro e w1 ⟨rfl, hb1, ck⟩
    have hbW : Below W.heap.size W w1 := below_two (below_drewN (Below.refl _ _) _) hb1
    have HLW := Lib.hid (HL.out _ hbW)
    have cnw := HCn.out _ hbW
    have ck2 : w1.cell? ⟨W.heap.size, k, none⟩ = some (.string hs) := ck
    clear ck
    clear hb1 hbW HL HCn HH
    go_wp2_with fail
    refine HLW.out.mono ?_
    rintro e w2 ⟨rfl, hQ⟩
    clear HLW
    go_wp2
    go_ret
    exact ⟨rfl, hQ⟩
set_option maxRecDepth 100000 in
set_option maxHeartbeats 2000000 in
theorem one_pick (hP : Parts v m q k sw is) (hx : Turned sw ab bb xb yb) (hv : v ≤ 9223372036854775807) (hm : m ≠ 3 ∧ m ≠ 4 ∧ m ≠ 5 ∧ m ≠ 6 ∧ m ≠ 7)
    (c0 : W.cell? ⟨dp, 0, none⟩ = some (.pointer (some ⟨ab, 0, none⟩))) (c1 : W.cell? ⟨dp, 1, none⟩ = some (.pointer (some ⟨bb, 0, none⟩))) (cn : ∀ W', Below W.heap.size W W' → W'.cell? ⟨np, 0, none⟩ = some (.int .i64 (now : Int)))
    (HH : ∀ W', Calls Tryz.prog 55 #[] W' (HostsAs k hs W'))
    (HL : ∀ W', Below W.heap.size W W' → Calls Tryz.prog 11 #[.pointer (some ⟨xb, 0, none⟩), .int .u64 ((q : Int) / 2), .int .i64 (now : Int)] W' fun e w' => ∃ (x : ByteArray) (b : Bool), e = .returned (.tuple #[.string x, .bool b, ev]) ∧ Q w') :
    Calls Tryz.prog 57 #[.pointer (some ⟨dp, 0, none⟩), .int .i64 (v : Int), .pointer (some ⟨np, 0, none⟩)] W fun e w' => e = .returned ev ∧ Q w' := by
  obtain ⟨m8, q8, k4, kl, s2, i2⟩ := hP
  have HH := Lib.hid HH
  have HL := Lib.hid HL
  have HCn := Lib.hid cn
  have hk4 : (k : Int) < 4 := by omega
  have hq0 : (0 : Int) ≤ (q : Int) := by omega
  have hqm : (q : Int) ≤ 9223372036854775807 := by omega

  have hw2 : IntKind.u64.wrap ((q : Int) / 2) = (q : Int) / 2 := by rw [IntKind.wrap_u64]; omega
  have hm3 : ((m : Int) == 3) = false := beq_eq_false_iff_ne.2 (by omega)
  have hm4 : ((m : Int) == 4) = false := beq_eq_false_iff_ne.2 (by omega)
  have hm5 : ((m : Int) == 5) = false := beq_eq_false_iff_ne.2 (by omega)
  have hm6 : ((m : Int) == 6) = false := beq_eq_false_iff_ne.2 (by omega)
  have hm7 : ((m : Int) == 7) = false := beq_eq_false_iff_ne.2 (by omega)
  clear hm
  unfold HostsAs at HH
  clear cn hv
  rcases hx with ⟨rfl, rfl, rfl⟩ | ⟨rfl, rfl, rfl⟩
  all_goals
    go_enter Tryz.func57, Tryz.ntmps57
    go_wp2_with fail
    go_quiet (fail)
    go_wp2_with fail
    refine (HH.out _).mono ?_
    rintro e w1 ⟨rfl, hb1, ck⟩
    have hbW : Below W.heap.size W w1 := below_two (below_drewN (Below.refl _ _) _) hb1
    have HLW := Lib.hid (HL.out _ hbW)
    have cnw := HCn.out _ hbW
    have ck2 : w1.cell? ⟨W.heap.size, k, none⟩ = some (.string hs) := ck
    clear ck
    clear hb1 hbW HL HCn HH
    go_wp2_with fail
    refine HLW.out.mono ?_
    rintro e w2 ⟨x2, b2, rfl, hQ⟩
    clear HLW
    go_wp2
    go_ret
    exact ⟨rfl, hQ⟩
/-- The cells of a duo, and of the tick. -/
structure DuoC (dp np ab bb now : Nat) (W : World) : Prop where
  c0 : W.cell? ⟨dp, 0, none⟩ = some (.pointer (some ⟨ab, 0, none⟩))
  c1 : W.cell? ⟨dp, 1, none⟩ = some (.pointer (some ⟨bb, 0, none⟩))
  cn : W.cell? ⟨np, 0, none⟩ = some (.int .i64 (now : Int))
theorem cell_ltP {W : World} {g i : Nat} {v : Value} (hc : W.cell? ⟨g, i, none⟩ = some v) : g < W.heap.size := by
  rcases Nat.lt_or_ge g W.heap.size with h | h
  · exact h
  · have : W.heap[g]? = none := Array.getElem?_eq_none h
    simp [World.cell?, this] at hc
theorem DuoC.below {W W' : World} (h : DuoC dp np ab bb now W) (hb : Below W.heap.size W W') : DuoC dp np ab bb now W' :=
  ⟨(hb.cell (cell_ltP h.c0)).trans h.c0, (hb.cell (cell_ltP h.c1)).trans h.c1, (hb.cell (cell_ltP h.cn)).trans h.cn⟩
set_option maxRecDepth 100000 in
set_option maxHeartbeats 2000000 in
theorem one_tick (hP : Parts v m q k sw is) (hv : v ≤ 9223372036854775807) (hm : m = 5) (hn : now ≤ 1000000) (hC : DuoC dp np ab bb now W) (fz : ∀ W', Below W.heap.size W W' → W'.frozen? ⟨np, 0, none⟩ = false)
    (HH : ∀ W', Calls Tryz.prog 55 #[] W' (HostsAs k hs W')) :
    Calls Tryz.prog 57 #[.pointer (some ⟨dp, 0, none⟩), .int .i64 (v : Int), .pointer (some ⟨np, 0, none⟩)] W fun e w' => e = .returned .nilIface ∧ ∃ W', Below W.heap.size W W' ∧ w' = W'.setCell ⟨np, 0, none⟩ (.int .i64 ((now : Int) + (1 + (q : Int) % 8))) := by
  obtain ⟨m8, q8, k4, kl, s2, i2⟩ := hP
  have HH := Lib.hid HH
  have HC := Lib.hid (fun W' (hb : Below W.heap.size W W') => And.intro (hC.below hb).cn (fz W' hb))
  have c0 := hC.c0
  have c1 := hC.c1
  have hk4 : (k : Int) < 4 := by omega
  have hq0 : (0 : Int) ≤ (q : Int) := by omega
  have hqm : (q : Int) ≤ 9223372036854775807 := by omega
  have hr8 : (0 : Int) ≤ (q : Int) % 8 := by omega
  have hr9 : (q : Int) % 8 < 8 := by omega
  subst hm
  unfold HostsAs at HH
  clear hC fz hv
  cases sw
  all_goals
    go_enter Tryz.func57, Tryz.ntmps57
    go_wp2_with fail
    go_quiet (fail)
    go_wp2_with fail
    refine (HH.out _).mono ?_
    rintro e w1 ⟨rfl, hb1, ck⟩
    have hbW : Below W.heap.size W w1 := below_two (below_drewN (Below.refl _ _) _) hb1
    obtain ⟨cnw, fzw⟩ := HC.out _ hbW
    have HB := Lib.hid hbW
    have ck2 : w1.cell? ⟨W.heap.size, k, none⟩ = some (.string hs) := ck
    clear hb1 hbW HH HC ck
    go_wp2_with fail
    go_ret
    exact ⟨rfl, _, HB.out, rfl⟩
set_option maxRecDepth 100000 in
set_option maxHeartbeats 4000000 in
theorem one_both {ev1 ev2 evr : Value} (hcase : (ev1 = .nilIface ∧ evr = ev2) ∨ (∃ t p, ev1 = .iface t p ∧ evr = ev1)) (hP : Parts v m q k sw is) (hv : v ≤ 9223372036854775807) (hm : m = 7) (hC : DuoC dp np ab bb now W)
    (HH : ∀ W', Calls Tryz.prog 55 #[] W' (HostsAs k hs W'))
    (HA : ∀ W', Below W.heap.size W W' → Calls Tryz.prog 11 #[.pointer (some ⟨ab, 0, none⟩), .int .u64 0, .int .i64 (now : Int)] W' fun e w' => ∃ (x : ByteArray) (b : Bool), e = .returned (.tuple #[.string x, .bool b, ev1]) ∧ DuoC dp np ab bb now w' ∧
      Hid (∀ W2, Below w'.heap.size w' W2 → Calls Tryz.prog 11 #[.pointer (some ⟨bb, 0, none⟩), .int .u64 0, .int .i64 (now : Int)] W2 fun e w2 => ∃ (x : ByteArray) (b : Bool), e = .returned (.tuple #[.string x, .bool b, ev2]) ∧ DuoC dp np ab bb now w2 ∧ Q w2)) :
    Calls Tryz.prog 57 #[.pointer (some ⟨dp, 0, none⟩), .int .i64 (v : Int), .pointer (some ⟨np, 0, none⟩)] W fun e w' => e = .returned evr ∧ Q w' := by
  obtain ⟨m8, q8, k4, kl, s2, i2⟩ := hP
  have HH := Lib.hid HH
  have HA := Lib.hid HA
  have HC := Lib.hid (fun W' (hb : Below W.heap.size W W') => hC.below hb)
  have c0 := hC.c0
  have c1 := hC.c1
  have hk4 : (k : Int) < 4 := by omega
  have hq0 : (0 : Int) ≤ (q : Int) := by omega
  have hqm : (q : Int) ≤ 9223372036854775807 := by omega
  subst hm
  unfold HostsAs at HH
  clear hC hv
  rcases hcase with ⟨rfl, rfl⟩ | ⟨et, ep, rfl, rfl⟩ <;> cases sw
  all_goals
    go_enter Tryz.func57, Tryz.ntmps57
    go_wp2_with fail
    go_quiet (fail)
    go_wp2_with fail
    refine (HH.out _).mono ?_
    rintro e w1 ⟨rfl, hb1, ck⟩
    have hbW : Below W.heap.size W w1 := below_two (below_drewN (Below.refl _ _) _) hb1
    have HC1 := Lib.hid (HC.out _ (bl_drewP hbW))
    have HA1 := Lib.hid (HA.out _ (bl_drewP hbW))
    have ck2 : w1.cell? ⟨W.heap.size, k, none⟩ = some (.string hs) := ck
    clear hb1 hbW HH HC HA ck
    go_wp2_with fail
    go_region_held3 (fun w' => w'.cell? ⟨dp, 0, none⟩ = some (.pointer (some ⟨ab, 0, none⟩)) ∧ w'.cell? ⟨np, 0, none⟩ = some (.int .i64 (now : Int))) (first | exact ⟨HC1.out.c0, HC1.out.cn⟩ | exact ⟨hC2.c0, hC2.cn⟩ | go_keep) (first
      | (go_at_call 11
         refine HA1.out.mono ?_
         rintro e w2 ⟨x2, b2, rfl, hC2, HB2⟩))
    have HC2 := Lib.hid hC2
    have HB3 := Lib.hid (HB2.out _ (bl_drewP (Below.refl w2.heap.size w2)))
    have HC3 := Lib.hid (hC2.below (bl_drewP (Below.refl w2.heap.size w2)))
    clear HB2 hC2
    go_wp2_with fail
    go_region_held3 (fun w' => w'.cell? ⟨dp, 1, none⟩ = some (.pointer (some ⟨bb, 0, none⟩)) ∧ w'.cell? ⟨np, 0, none⟩ = some (.int .i64 (now : Int))) (first | exact ⟨HC3.out.c1, HC3.out.cn⟩ | exact ⟨hC4.c1, hC4.cn⟩ | go_keep) (first
      | (go_at_call 11
         refine HB3.out.mono ?_
         rintro e w3 ⟨x3, b3, rfl, hC4, hQ⟩))
    clear HB3
    go_wp2_with fail
    go_ret
    exact ⟨rfl, hQ⟩
end
end Go.Proofs.YteilefpjfbholaaGreatDoor
