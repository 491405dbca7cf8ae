/-
  The reference's One: its walks, a kind of number each. Printed by genref.py.
  The reference's One at kind 6: all is carried over.
  The reference's One at a duo.
-/
import Derived.Test.YteilefpjfbholaaGreatDoorPlayOne
import Derived.Test.YteilefpjfbholaaGreatDoorTurn
import Derived.Test.YteilefpjfbholaaGreatDoorRefBal
namespace Go.Proofs.YteilefpjfbholaaGreatDoor
open Go.RowKit

/-- What a duo of the reference holds. -/
structure DuoRC (dp g cap ab bb now : Nat) (W : World) : Prop where
  l : W.cell? ⟨dp, 0, none⟩ = some (.slice (some ⟨g, 0, none⟩) 2 cap)
  c0 : W.cell? ⟨g, 0, none⟩ = some (.pointer (some ⟨ab, 0, none⟩))
  c1 : W.cell? ⟨g, 1, none⟩ = some (.pointer (some ⟨bb, 0, none⟩))
  cn : W.cell? ⟨dp, 1, none⟩ = some (.int .i64 (now : Int))
section
variable {W : World} {dp g cap ab bb xb yb v m q k now : Nat} {sw is : Bool} {hs : ByteArray} {Q : World → Prop} {cv : Nat}
set_option maxRecDepth 100000 in
set_option maxHeartbeats 2000000 in
theorem rone_look (hP : Parts v m q k sw is) (hx : Turned sw ab bb xb yb) (hv : v ≤ 9223372036854775807) (hm : m = 3)
    (hC : ∀ W', Below W.heap.size W W' → DuoRC dp g cap ab bb now W') (ck : (W.alloc (.cells #[.string ⟨#[97]⟩, .string ⟨#[98]⟩, .string ⟨#[99]⟩, .string ⟨#[100]⟩] 9)).cell? ⟨W.heap.size, k, none⟩ = some (.string hs))
    (HL : ∀ W', Below W.heap.size W W' → Calls Tryz.prog 102 #[.pointer (some ⟨xb, 0, none⟩), .string hs, .bool is] W' fun e w' => ∃ b : Bool, e = .returned (.tuple #[.bool b, .int .i64 (cv : Int)]) ∧ Q w') :
    Calls Tryz.prog 59 #[.pointer (some ⟨dp, 0, none⟩), .int .i64 (v : Int)] W fun e w' => e = .returned (.int .i64 (cv : Int)) ∧ Q w' := by
  obtain ⟨m8, q8, k4, kl, s2, i2⟩ := hP
  have HL := Lib.hid HL
  have HC := Lib.hid hC
  have hk4 : (k : Int) < 4 := by omega
  have hq0 : (0 : Int) ≤ (q : Int) := by omega
  have hqm : (q : Int) ≤ 9223372036854775807 := by omega
  have hv0 : ¬ (v : Int) < 0 := by omega
  have hb0 := (Below.refl W.heap.size W).alloc (Nat.le_refl _) (.cells #[.string ⟨#[97]⟩, .string ⟨#[98]⟩, .string ⟨#[99]⟩, .string ⟨#[100]⟩] 9)
  have HB0 := Lib.hid hb0
  obtain ⟨l0, c00, c10, cn0⟩ := hC W (Below.refl _ _)
  obtain ⟨l1, c01, c11, cn1⟩ := hC _ hb0
  subst hm
  clear hC hv hb0
  rcases hx with ⟨rfl, rfl, rfl⟩ | ⟨rfl, rfl, rfl⟩
  all_goals
    have hq2 : (q : Int) % 2 = 1 ∨ (q : Int) % 2 = 0 := by omega
    simp only [beq_iff_eq, beq_eq_false_iff_ne, ne_eq] at s2
    rcases hq2 with hq2 | hq2
    all_goals first
      | (exfalso; omega)
      | skip
    go_enter Tryz.func59, Tryz.ntmps59
    go_wp2_with fail
    refine (HL.out _ HB0.out).mono ?_
    rintro e w2 ⟨b2, rfl, hQ⟩
    clear HL HC HB0 l0 l1 c00 c01 c10 c11 cn0 cn1 ck
    go_wp2
    go_ret
    exact ⟨rfl, hQ⟩
set_option maxRecDepth 100000 in
set_option maxHeartbeats 2000000 in
theorem rone_drain (hP : Parts v m q k sw is) (hx : Turned sw ab bb xb yb) (hv : v ≤ 9223372036854775807) (hm : m = 4)
    (hC : ∀ W', Below W.heap.size W W' → DuoRC dp g cap ab bb now W') (ck : (W.alloc (.cells #[.string ⟨#[97]⟩, .string ⟨#[98]⟩, .string ⟨#[99]⟩, .string ⟨#[100]⟩] 9)).cell? ⟨W.heap.size, k, none⟩ = some (.string hs))
    (HL : ∀ W', Below W.heap.size W W' → Calls Tryz.prog 103 #[.pointer (some ⟨xb, 0, none⟩), .string hs, .bool is] W' fun e w' => e = .returned (.int .i64 (cv : Int)) ∧ Q w') :
    Calls Tryz.prog 59 #[.pointer (some ⟨dp, 0, none⟩), .int .i64 (v : Int)] W fun e w' => e = .returned (.int .i64 (cv : Int)) ∧ Q w' := by
  obtain ⟨m8, q8, k4, kl, s2, i2⟩ := hP
  have HL := Lib.hid HL
  have HC := Lib.hid hC
  have hk4 : (k : Int) < 4 := by omega
  have hq0 : (0 : Int) ≤ (q : Int) := by omega
  have hqm : (q : Int) ≤ 9223372036854775807 := by omega
  have hv0 : ¬ (v : Int) < 0 := by omega
  have hb0 := (Below.refl W.heap.size W).alloc (Nat.le_refl _) (.cells #[.string ⟨#[97]⟩, .string ⟨#[98]⟩, .string ⟨#[99]⟩, .string ⟨#[100]⟩] 9)
  have HB0 := Lib.hid hb0
  obtain ⟨l0, c00, c10, cn0⟩ := hC W (Below.refl _ _)
  obtain ⟨l1, c01, c11, cn1⟩ := hC _ hb0
  subst hm
  clear hC hv hb0
  rcases hx with ⟨rfl, rfl, rfl⟩ | ⟨rfl, rfl, rfl⟩
  all_goals
    have hq2 : (q : Int) % 2 = 1 ∨ (q : Int) % 2 = 0 := by omega
    simp only [beq_iff_eq, beq_eq_false_iff_ne, ne_eq] at s2
    rcases hq2 with hq2 | hq2
    all_goals first
      | (exfalso; omega)
      | skip
    go_enter Tryz.func59, Tryz.ntmps59
    go_wp2_with fail
    refine (HL.out _ HB0.out).mono ?_
    rintro e w2 ⟨rfl, hQ⟩
    clear HL HC HB0 l0 l1 c00 c01 c10 c11 cn0 cn1 ck
    go_wp2
    go_ret
    exact ⟨rfl, hQ⟩
set_option maxRecDepth 100000 in
set_option maxHeartbeats 2000000 in
theorem rone_pick (hP : Parts v m q k sw is) (hx : Turned sw ab bb xb yb) (hv : v ≤ 9223372036854775807) (hm : m ≠ 3 ∧ m ≠ 4 ∧ m ≠ 5 ∧ m ≠ 6 ∧ m ≠ 7)
    (hC : ∀ W', Below W.heap.size W W' → DuoRC dp g cap ab bb now W') (ck : (W.alloc (.cells #[.string ⟨#[97]⟩, .string ⟨#[98]⟩, .string ⟨#[99]⟩, .string ⟨#[100]⟩] 9)).cell? ⟨W.heap.size, k, none⟩ = some (.string hs))
    (HL : ∀ W', Below W.heap.size W W' → Calls Tryz.prog 106 #[.pointer (some ⟨xb, 0, none⟩), .int .u64 ((q : Int) / 2), .int .i64 (now : Int)] W' fun e w' => ∃ (x : ByteArray) (b : Bool), e = .returned (.tuple #[.string x, .bool b, .int .i64 (cv : Int)]) ∧ Q w') :
    Calls Tryz.prog 59 #[.pointer (some ⟨dp, 0, none⟩), .int .i64 (v : Int)] W fun e w' => e = .returned (.int .i64 (cv : Int)) ∧ Q w' := by
  obtain ⟨m8, q8, k4, kl, s2, i2⟩ := hP
  have HL := Lib.hid HL
  have HC := Lib.hid hC
  have hk4 : (k : Int) < 4 := by omega
  have hq0 : (0 : Int) ≤ (q : Int) := by omega
  have hqm : (q : Int) ≤ 9223372036854775807 := by omega
  have hv0 : ¬ (v : Int) < 0 := by omega
  have hb0 := (Below.refl W.heap.size W).alloc (Nat.le_refl _) (.cells #[.string ⟨#[97]⟩, .string ⟨#[98]⟩, .string ⟨#[99]⟩, .string ⟨#[100]⟩] 9)
  have HB0 := Lib.hid hb0
  obtain ⟨l0, c00, c10, cn0⟩ := hC W (Below.refl _ _)
  obtain ⟨l1, c01, c11, cn1⟩ := hC _ hb0
  obtain ⟨n3, n4, n5, n6, n7⟩ := hm
  clear hC hv hb0
  rcases hx with ⟨rfl, rfl, rfl⟩ | ⟨rfl, rfl, rfl⟩
  all_goals
    have hq2 : (q : Int) % 2 = 1 ∨ (q : Int) % 2 = 0 := by omega
    simp only [beq_iff_eq, beq_eq_false_iff_ne, ne_eq] at s2
    rcases hq2 with hq2 | hq2
    all_goals first
      | (exfalso; omega)
      | skip
    go_enter Tryz.func59, Tryz.ntmps59
    go_wp2_with fail
    refine (HL.out _ HB0.out).mono ?_
    rintro e w2 ⟨x2, b2, rfl, hQ⟩
    clear HL HC HB0 l0 l1 c00 c01 c10 c11 cn0 cn1 ck
    go_wp2
    go_ret
    exact ⟨rfl, hQ⟩
set_option maxHeartbeats 1000000 in
theorem rone_neg (v : Int) (h : v < 0) : Calls Tryz.prog 59 #[.pointer (some ⟨dp, 0, none⟩), .int .i64 v] W fun e w' => e = .returned (.int .i64 (-1)) ∧ W = w' := by
  go_enter Tryz.func59, Tryz.ntmps59
  go_wp2
  go_ret
  exact ⟨rfl, rfl⟩
set_option maxRecDepth 100000 in
set_option maxHeartbeats 2000000 in
theorem rone_tick (hP : Parts v m q k sw is) (hx : Turned sw ab bb xb yb) (hv : v ≤ 9223372036854775807) (hm : m = 5) (hn : now ≤ 1000000) (fz : ∀ W', Below W.heap.size W W' → W'.frozen? ⟨dp, 1, none⟩ = false)
    (hC : ∀ W', Below W.heap.size W W' → DuoRC dp g cap ab bb now W') (ck : (W.alloc (.cells #[.string ⟨#[97]⟩, .string ⟨#[98]⟩, .string ⟨#[99]⟩, .string ⟨#[100]⟩] 9)).cell? ⟨W.heap.size, k, none⟩ = some (.string hs))
    (HL : ∀ W', Below W.heap.size W W' → True) :
    Calls Tryz.prog 59 #[.pointer (some ⟨dp, 0, none⟩), .int .i64 (v : Int)] W fun e w' => e = .returned (.int .i64 0) ∧ ∃ W', Below W.heap.size W W' ∧ w' = W'.setCell ⟨dp, 1, none⟩ (.int .i64 ((now : Int) + (q : Int) % 8 + 1)) := by
  obtain ⟨m8, q8, k4, kl, s2, i2⟩ := hP
  have HL := Lib.hid HL
  have HC := Lib.hid hC
  have hk4 : (k : Int) < 4 := by omega
  have hq0 : (0 : Int) ≤ (q : Int) := by omega
  have hqm : (q : Int) ≤ 9223372036854775807 := by omega
  have hv0 : ¬ (v : Int) < 0 := by omega
  have hb0 := (Below.refl W.heap.size W).alloc (Nat.le_refl _) (.cells #[.string ⟨#[97]⟩, .string ⟨#[98]⟩, .string ⟨#[99]⟩, .string ⟨#[100]⟩] 9)
  have HB0 := Lib.hid hb0
  obtain ⟨l0, c00, c10, cn0⟩ := hC W (Below.refl _ _)
  obtain ⟨l1, c01, c11, cn1⟩ := hC _ hb0
  subst hm
  clear hC hv hb0
  rcases hx with ⟨rfl, rfl, rfl⟩ | ⟨rfl, rfl, rfl⟩
  all_goals
    have hq2 : (q : Int) % 2 = 1 ∨ (q : Int) % 2 = 0 := by omega
    simp only [beq_iff_eq, beq_eq_false_iff_ne, ne_eq] at s2
    rcases hq2 with hq2 | hq2
    all_goals first
      | (exfalso; omega)
      | skip
    have hr8 : (0 : Int) ≤ (q : Int) % 8 := by omega
    have hr9 : (q : Int) % 8 < 8 := by omega
    have hw1 : IntKind.i64.wrap ((now : Int) + (q : Int) % 8) = (now : Int) + (q : Int) % 8 := IntWalk.i64_in _ (by omega)
    have hw2 : IntKind.i64.wrap ((now : Int) + (q : Int) % 8 + 1) = (now : Int) + (q : Int) % 8 + 1 := IntWalk.i64_in _ (by omega)
    have fz1 := fz _ HB0.out
    go_enter Tryz.func59, Tryz.ntmps59
    go_wp2_with fail
    go_ret
    exact ⟨rfl, _, HB0.out, rfl⟩
set_option maxRecDepth 100000 in
set_option maxHeartbeats 2000000 in
theorem rone_both {cv1 cv2 : Nat} (hcase : (cv1 = 0 ∧ cv = cv2) ∨ (0 < cv1 ∧ cv = cv1)) (hP : Parts v m q k sw is) (hx : Turned sw ab bb xb yb) (hv : v ≤ 9223372036854775807) (hm : m = 7)
    (hC : ∀ W', Below W.heap.size W W' → DuoRC dp g cap ab bb now W') (ck : (W.alloc (.cells #[.string ⟨#[97]⟩, .string ⟨#[98]⟩, .string ⟨#[99]⟩, .string ⟨#[100]⟩] 9)).cell? ⟨W.heap.size, k, none⟩ = some (.string hs))
    (HL : ∀ W', Below W.heap.size W W' → Calls Tryz.prog 106 #[.pointer (some ⟨ab, 0, none⟩), .int .u64 0, .int .i64 (now : Int)] W' fun e w1 => ∃ (x : ByteArray) (b : Bool), e = .returned (.tuple #[.string x, .bool b, .int .i64 (cv1 : Int)]) ∧ DuoRC dp g cap ab bb now w1 ∧
      Hid (∀ W2, Below w1.heap.size w1 W2 → Calls Tryz.prog 106 #[.pointer (some ⟨bb, 0, none⟩), .int .u64 0, .int .i64 (now : Int)] W2 fun e w2 => ∃ (x : ByteArray) (b : Bool), e = .returned (.tuple #[.string x, .bool b, .int .i64 (cv2 : Int)]) ∧ DuoRC dp g cap ab bb now w2 ∧ Q w2)) :
    Calls Tryz.prog 59 #[.pointer (some ⟨dp, 0, none⟩), .int .i64 (v : Int)] W fun e w' => e = .returned (.int .i64 (cv : Int)) ∧ Q w' := by
  obtain ⟨m8, q8, k4, kl, s2, i2⟩ := hP
  have HL := Lib.hid HL
  have HC := Lib.hid hC
  have hk4 : (k : Int) < 4 := by omega
  have hq0 : (0 : Int) ≤ (q : Int) := by omega
  have hqm : (q : Int) ≤ 9223372036854775807 := by omega
  have hv0 : ¬ (v : Int) < 0 := by omega
  have hb0 := (Below.refl W.heap.size W).alloc (Nat.le_refl _) (.cells #[.string ⟨#[97]⟩, .string ⟨#[98]⟩, .string ⟨#[99]⟩, .string ⟨#[100]⟩] 9)
  have HB0 := Lib.hid hb0
  obtain ⟨l0, c00, c10, cn0⟩ := hC W (Below.refl _ _)
  obtain ⟨l1, c01, c11, cn1⟩ := hC _ hb0
  subst hm
  clear hC hv hb0
  rcases hx with ⟨rfl, -, -⟩ | ⟨rfl, -, -⟩
  all_goals
    have hq2 : (q : Int) % 2 = 1 ∨ (q : Int) % 2 = 0 := by omega
    simp only [beq_iff_eq, beq_eq_false_iff_ne, ne_eq] at s2
    rcases hq2 with hq2 | hq2
    all_goals first
      | (exfalso; omega)
      | skip
    have hS1 : (W.alloc (.cells #[.string ⟨#[97]⟩, .string ⟨#[98]⟩, .string ⟨#[99]⟩, .string ⟨#[100]⟩] 9)).drew.cell? ⟨dp, 0, none⟩ = some (.slice (some ⟨g, 0, none⟩) 2 cap) ∧ (W.alloc (.cells #[.string ⟨#[97]⟩, .string ⟨#[98]⟩, .string ⟨#[99]⟩, .string ⟨#[100]⟩] 9)).drew.cell? ⟨g, 0, none⟩ = some (.pointer (some ⟨ab, 0, none⟩)) ∧ (W.alloc (.cells #[.string ⟨#[97]⟩, .string ⟨#[98]⟩, .string ⟨#[99]⟩, .string ⟨#[100]⟩] 9)).drew.cell? ⟨dp, 1, none⟩ = some (.int .i64 (now : Int)) := ⟨l1, c01, cn1⟩
    go_enter Tryz.func59, Tryz.ntmps59
    go_wp2_with fail
    go_region_held3 (fun w' => w'.cell? ⟨dp, 0, none⟩ = some (.slice (some ⟨g, 0, none⟩) 2 cap) ∧ w'.cell? ⟨g, 0, none⟩ = some (.pointer (some ⟨ab, 0, none⟩)) ∧ w'.cell? ⟨dp, 1, none⟩ = some (.int .i64 (now : Int))) (first | exact hS1 | exact ⟨hD.l, hD.c0, hD.cn⟩ | go_keep) (first
      | (go_at_call 106
         refine (HL.out _ (bl_drew HB0.out)).mono ?_
         rintro e w2 ⟨x2, b2, rfl, hD, HI⟩))
    all_goals
      have hS2 : w2.drew.cell? ⟨dp, 0, none⟩ = some (.slice (some ⟨g, 0, none⟩) 2 cap) ∧ w2.drew.cell? ⟨g, 1, none⟩ = some (.pointer (some ⟨bb, 0, none⟩)) ∧ w2.drew.cell? ⟨dp, 1, none⟩ = some (.int .i64 (now : Int)) := ⟨hD.l, hD.c1, hD.cn⟩
      clear HL HC HB0 l0 l1 c00 c01 c10 c11 cn0 cn1 ck hS1 hD
      go_wp2_with fail
      go_region_held3 (fun w' => w'.cell? ⟨dp, 0, none⟩ = some (.slice (some ⟨g, 0, none⟩) 2 cap) ∧ w'.cell? ⟨g, 1, none⟩ = some (.pointer (some ⟨bb, 0, none⟩)) ∧ w'.cell? ⟨dp, 1, none⟩ = some (.int .i64 (now : Int))) (first | exact hS2 | exact ⟨hE.l, hE.c1, hE.cn⟩ | go_keep) (first
        | (go_at_call 106
           refine (HI.out _ (bl_drew (Below.refl _ _))).mono ?_
           rintro e w3 ⟨x3, b3, rfl, hE, hQ⟩
           have HQ := Lib.hid hQ
           clear hQ))
      all_goals
        clear hS2 hE HI
        rcases hcase with ⟨rfl, rfl⟩ | ⟨hc, rfl⟩
        · go_wp2
          go_ret
          exact ⟨rfl, HQ.out⟩
        · have hc2 : ¬ (cv : Int) = 0 := by omega
          have hc3 : ((cv : Int) == 0) = false := beq_eq_false_iff_ne.2 hc2
          have hc4 : ¬ cv = 0 := by omega
          go_wp2
          go_ret
          exact ⟨rfl, HQ.out⟩
end
end Go.Proofs.YteilefpjfbholaaGreatDoor

namespace Go.Proofs.YteilefpjfbholaaGreatDoor
open Go.RowKit

/-- A fault's blocks stand. -/
def FKeep (w w' : World) : Prop := (∀ g cs, Blk w g 87 cs → Blk w' g 87 cs) ∧ w.heap.size ≤ w'.heap.size
theorem over_end {W w3 : World} {g dp now cv : Nat} {Q : World → Prop} (HQ : ∀ w g cs w', Q w → Blk w g 87 cs → W.heap.size ≤ g → Turn [g] w w' → Q w') (hQ : Q w3) (hb : Blk w3 g 87 #[.int .i64 0, .int .i64 0]) (hg : W.heap.size ≤ g) (hdp : dp < W.heap.size) (cn : w3.cell? ⟨dp, 1, none⟩ = some (.int .i64 (now : Int))) :
    w3.cell? ⟨g, 0, none⟩ = some (.int .i64 0) ∧ w3.cell? ⟨g, 1, none⟩ = some (.int .i64 0) ∧ w3.frozen? ⟨g, 0, none⟩ = false ∧ w3.frozen? ⟨g, 1, none⟩ = false ∧
    (((w3.setCell ⟨g, 0, none⟩ (.int .i64 (cv : Int))).setCell ⟨g, 1, none⟩ (.int .i64 (-1))).cell? ⟨dp, 1, none⟩ = some (.int .i64 (now : Int)) ∧ ((w3.setCell ⟨g, 0, none⟩ (.int .i64 (cv : Int))).setCell ⟨g, 1, none⟩ (.int .i64 (-1))).cell? ⟨g, 0, none⟩ = some (.int .i64 (cv : Int)) ∧ Q ((w3.setCell ⟨g, 0, none⟩ (.int .i64 (cv : Int))).setCell ⟨g, 1, none⟩ (.int .i64 (-1)))) := by
  have ht : Turn [g] w3 ((w3.setCell ⟨g, 0, none⟩ (.int .i64 (cv : Int))).setCell ⟨g, 1, none⟩ (.int .i64 (-1))) := ((Turn.refl [g] w3).setCell (p := ⟨g, 0, none⟩) (.inl (by simp)) _).setCell (p := ⟨g, 1, none⟩) (.inl (by simp)) _
  exact ⟨hb.cell 0, hb.cell 1, hb.frozen 0, hb.frozen 1, ht.cell cn (by simp; omega), ((hb.set_ 0 _).set_ 1 _).cell 0, HQ _ g _ _ hQ hb hg ht⟩
theorem over_endB {w3 : World} {dp now cv : Nat} {Q : World → Prop} (HQ : ∀ w w', Q w → Below w.heap.size w w' → Q w') (hQ : Q w3) (cn : w3.cell? ⟨dp, 1, none⟩ = some (.int .i64 (now : Int))) (hlt : dp < w3.heap.size) :
    (w3.alloc (.cells #[.int .i64 (cv : Int), .int .i64 (-1)] 87)).cell? ⟨dp, 1, none⟩ = some (.int .i64 (now : Int)) ∧ (w3.alloc (.cells #[.int .i64 (cv : Int), .int .i64 (-1)] 87)).cell? ⟨w3.heap.size, 0, none⟩ = some (.int .i64 (cv : Int)) ∧ Q (w3.alloc (.cells #[.int .i64 (cv : Int), .int .i64 (-1)] 87)) := by
  have hb : Below w3.heap.size w3 (w3.alloc (.cells #[.int .i64 (cv : Int), .int .i64 (-1)] 87)) := (Below.refl _ _).alloc (Nat.le_refl _) _
  refine ⟨?_, (Blk.new w3 87 #[.int .i64 (cv : Int), .int .i64 (-1)]).cell 0, HQ _ _ hQ hb⟩
  exact (hb.cell hlt).trans cn
section
variable {W : World} {dp g cap ab bb xb yb v m q k now : Nat} {sw is : Bool} {hs : ByteArray} {Q : World → Prop} {cv : Nat}
set_option maxRecDepth 100000 in
set_option maxHeartbeats 2000000 in
theorem rone_over {tx : ByteArray} (hP : Parts v m q k sw is) (hx : Turned sw ab bb xb yb) (hv : v ≤ 9223372036854775807) (hm : m = 6)
    (hC : ∀ W', Below W.heap.size W W' → DuoRC dp g cap ab bb now W') (ck : (W.alloc (.cells #[.string ⟨#[97]⟩, .string ⟨#[98]⟩, .string ⟨#[99]⟩, .string ⟨#[100]⟩] 9)).cell? ⟨W.heap.size, k, none⟩ = some (.string hs))
    (HL : ∀ W', Below W.heap.size W W' → Calls Tryz.prog 105 #[.pointer (some ⟨xb, 0, none⟩)] W' fun e w1 => e = .returned (.string tx) ∧ w1.cell? ⟨dp, 1, none⟩ = some (.int .i64 (now : Int)) ∧ FKeep W' w1 ∧
      Hid (∀ W2, Below w1.heap.size w1 W2 → Calls Tryz.prog 104 #[.pointer (some ⟨yb, 0, none⟩), .string tx, .int .i64 (now : Int)] W2 fun e w2 => ∃ n : Nat, e = .returned (.tuple #[.int .i64 (n : Int), .agg #[.int .i64 (cv : Int), .int .i64 (-1)]]) ∧ w2.cell? ⟨dp, 1, none⟩ = some (.int .i64 (now : Int)) ∧ FKeep W2 w2 ∧ Q w2)) (hdp : dp < W.heap.size)
    (HQF : ∀ w g cs w', Q w → Blk w g 87 cs → W.heap.size ≤ g → Turn [g] w w' → Q w') (HQB : ∀ w w', Q w → Below w.heap.size w w' → Q w') :
    Calls Tryz.prog 59 #[.pointer (some ⟨dp, 0, none⟩), .int .i64 (v : Int)] W fun e w' => e = .returned (.int .i64 (cv : Int)) ∧ Q w' := by
  obtain ⟨m8, q8, k4, kl, s2, i2⟩ := hP
  have HL := Lib.hid HL
  have HC := Lib.hid hC
  have hk4 : (k : Int) < 4 := by omega
  have hq0 : (0 : Int) ≤ (q : Int) := by omega
  have hqm : (q : Int) ≤ 9223372036854775807 := by omega
  have hv0 : ¬ (v : Int) < 0 := by omega
  have hb0 := (Below.refl W.heap.size W).alloc (Nat.le_refl _) (.cells #[.string ⟨#[97]⟩, .string ⟨#[98]⟩, .string ⟨#[99]⟩, .string ⟨#[100]⟩] 9)
  have HB0 := Lib.hid hb0
  obtain ⟨l0, c00, c10, cn0⟩ := hC W (Below.refl _ _)
  obtain ⟨l1, c01, c11, cn1⟩ := hC _ hb0
  subst hm
  clear hC hv hb0
  rcases hx with ⟨rfl, rfl, rfl⟩ | ⟨rfl, rfl, rfl⟩
  all_goals
    have hq2 : (q : Int) % 2 = 1 ∨ (q : Int) % 2 = 0 := by omega
    simp only [beq_iff_eq, beq_eq_false_iff_ne, ne_eq] at s2
    rcases hq2 with hq2 | hq2
    all_goals first
      | (exfalso; omega)
      | skip
    have cn1d : (W.alloc (.cells #[.string ⟨#[97]⟩, .string ⟨#[98]⟩, .string ⟨#[99]⟩, .string ⟨#[100]⟩] 9)).drew.cell? ⟨dp, 1, none⟩ = some (.int .i64 (now : Int)) := cn1
    have hB1 : Below W.heap.size W ((W.alloc (.cells #[.string ⟨#[97]⟩, .string ⟨#[98]⟩, .string ⟨#[99]⟩, .string ⟨#[100]⟩] 9)).alloc (.cells #[.int .i64 0, .int .i64 0] 87)).drew := bl_drew (HB0.out.alloc HB0.out.size _)
    have cn2d : ((W.alloc (.cells #[.string ⟨#[97]⟩, .string ⟨#[98]⟩, .string ⟨#[99]⟩, .string ⟨#[100]⟩] 9)).alloc (.cells #[.int .i64 0, .int .i64 0] 87)).drew.cell? ⟨dp, 1, none⟩ = some (.int .i64 (now : Int)) := (HC.out _ hB1).cn
    have HBA : Hid (Blk ((W.alloc (.cells #[.string ⟨#[97]⟩, .string ⟨#[98]⟩, .string ⟨#[99]⟩, .string ⟨#[100]⟩] 9)).alloc (.cells #[.int .i64 0, .int .i64 0] 87)).drew (W.heap.size + 1) 87 #[.int .i64 0, .int .i64 0]) := Lib.hid (by
      have h3 := Blk.new (W.alloc (.cells #[.string ⟨#[97]⟩, .string ⟨#[98]⟩, .string ⟨#[99]⟩, .string ⟨#[100]⟩] 9)) 87 #[.int .i64 0, .int .i64 0]
      have e3 : (W.alloc (.cells #[.string ⟨#[97]⟩, .string ⟨#[98]⟩, .string ⟨#[99]⟩, .string ⟨#[100]⟩] 9)).heap.size = W.heap.size + 1 := by simp
      rw [e3] at h3
      exact h3)
    have HB1 := Lib.hid hB1
    have HQF' := Lib.hid HQF
    have HQB' := Lib.hid HQB
    clear HQF HQB hB1
    go_enter Tryz.func59, Tryz.ntmps59
    go_wp2_with fail
    go_region_held3 (fun w' => w'.cell? ⟨dp, 1, none⟩ = some (.int .i64 (now : Int))) (first | exact cn1d | exact cn2d | exact cnx | exact cni | exact hend.1 | go_keep) (first
      | (go_at_call 104
         first
         | (refine (HI.out _ (Below.refl _ _)).mono ?_
            rintro e w3 ⟨n3, rfl, cni, hf3, hQ⟩
            first
            | (have hb := hf3.1 _ _ (HA2.out.1 _ _ HBA.out)
               obtain ⟨r0, r1, f0, f1, hend⟩ := over_end (cv := cv) (now := now) HQF'.out hQ hb (Nat.le_succ _) hdp cni)
            | (have hend := over_endB (cv := cv) HQB'.out hQ cni (Nat.lt_of_lt_of_le hdp (Nat.le_trans HS2.out hf3.2))))
         | (refine (HI.out _ ((Below.refl _ _).alloc (Nat.le_refl _) _)).mono ?_
            rintro e w3 ⟨n3, rfl, cni, hf3, hQ⟩
            have hb := hf3.1 _ _ (Blk.new w2 87 #[.int .i64 0, .int .i64 0])
            obtain ⟨r0, r1, f0, f1, hend⟩ := over_end (cv := cv) (now := now) HQF'.out hQ hb HS2.out hdp cni))
      | (go_at_call 105
         first
         | (refine (HL.out _ (bl_drew HB0.out)).mono ?_
            rintro e w2 ⟨rfl, cnx, hf2, HI⟩
            have HA2 := Lib.hid hf2
            have HS2 := Lib.hid (Nat.le_trans HB0.out.size hf2.2)
            clear hf2)
         | (refine (HL.out _ HB1.out).mono ?_
            rintro e w2 ⟨rfl, cnx, hf2, HI⟩
            have HA2 := Lib.hid hf2
            have HS2 := Lib.hid (Nat.le_trans HB1.out.size hf2.2)
            clear hf2)))
    all_goals
      have q0 := hend.2.1
      have HQE := Lib.hid hend.2.2
      clear hend
      go_wp2
      go_ret
      exact ⟨rfl, HQE.out⟩
end
end Go.Proofs.YteilefpjfbholaaGreatDoor

namespace Go.Proofs.YteilefpjfbholaaGreatDoor
open Go.RowKit

section
variable {w w' W W' : World} {B dp n n' now : Nat} {v : Value} {p q p' : RBp} {s t s' : BS} {st : BS × BS}
theorem DuoR.swapRow (h : DuoR W B dp v p q n now st) : ∃ g cap, v = .slice (some ⟨g, 0, none⟩) 2 cap ∧ W.cell? ⟨g, 0, none⟩ = some (.pointer (some ⟨p.mb, 0, none⟩)) ∧ W.cell? ⟨g, 1, none⟩ = some (.pointer (some ⟨q.mb, 0, none⟩)) := by
  obtain ⟨g, cap, hv, _, hlt⟩ := h.row.form (by omega)
  have hc := h.row.cells (g := g) (by rw [hv]; rfl)
  exact ⟨g, cap, hv, hc 0 _ rfl, hc 1 _ rfl⟩
/-- One of two has acted. -/
theorem DuoR.actX (h : DuoR W B dp v p q n now (s, t)) (hr : RepTo B p c22 n' s' W W') (hn : n ≤ n') : ∃ p', DuoR W' B dp v p' q n' now (s', t) ∧ Stood p p' ∧ Turn p.ws W W' ∧ ∀ b ∈ p'.ws, b ∈ p.ws ∨ W.heap.size ≤ b := by
  obtain ⟨p1, r1, e1, t1, b1⟩ := hr
  refine ⟨p1, ⟨t1.blk h.blk (h.x.notWs h.blk (by decide) (by decide) (by decide) (by decide) (by decide)), ?_, r1, (h.y.away h.x t1 fun b hq hp => h.ap b hp hq).more hn, fun b hb hq => ?_, h.b⟩, e1, t1, b1⟩
  · rw [e1.1]
    exact t1.own h.row fun g hg => by
      obtain ⟨cs, hC⟩ := own_isBlk h.row hg
      exact h.x.notWs hC (by decide) (by decide) (by decide) (by decide) (by decide)
  · rcases b1 b hb with h1 | h1
    · exact h.ap b h1 hq
    · have := (h.y.wsLt b hq).2
      omega
theorem DuoR.actY (h : DuoR W B dp v p q n now (s, t)) (hr : RepTo B q c22 n' s' W W') (hn : n ≤ n') : ∃ q', DuoR W' B dp v p q' n' now (s, s') ∧ Stood q q' ∧ Turn q.ws W W' ∧ ∀ b ∈ q'.ws, b ∈ q.ws ∨ W.heap.size ≤ b := by
  obtain ⟨p1, r1, e1, t1, b1⟩ := hr
  refine ⟨p1, ⟨t1.blk h.blk (h.y.notWs h.blk (by decide) (by decide) (by decide) (by decide) (by decide)), ?_, (h.x.away h.y t1 fun b hq hp => h.ap b hq hp).more hn, r1, fun b hb hq => ?_, h.b⟩, e1, t1, b1⟩
  · rw [e1.1]
    exact t1.own h.row fun g hg => by
      obtain ⟨cs, hC⟩ := own_isBlk h.row hg
      exact h.y.notWs hC (by decide) (by decide) (by decide) (by decide) (by decide)
  · rcases b1 b hq with h1 | h1
    · exact h.ap b hb h1
    · have := (h.x.wsLt b hb).2
      omega
theorem DuoR.below (h : DuoR W B dp v p q n now st) (hb : Below W.heap.size W W') : DuoR W' B dp v p q n now st :=
  ⟨h.blk.below hb h.blk.lt, own_below h.row hb, h.x.below hb, h.y.below hb, h.ap, h.b⟩
/-- What turns lies behind B and is neither a row of numbers nor a fault. -/
def TurnR (B : Nat) (W w' : World) : Prop := ∃ bs, Turn bs W w' ∧ ∀ b ∈ bs, B ≤ b ∧ ∀ t cs, Blk W b t cs → t ≠ 3 ∧ t ≠ 87
theorem RepB.turnR {c : BCfg} {s : BS} (h : RepB W B p c n s) (ht : Turn p.ws W W') : TurnR B W W' :=
  ⟨p.ws, ht, fun b hb => ⟨(h.wsLt b hb).1, fun t cs hC => ⟨fun e => by subst e; exact h.notWs hC (by decide) (by decide) (by decide) (by decide) (by decide) hb, fun e => by subst e; exact h.notWs hC (by decide) (by decide) (by decide) (by decide) (by decide) hb⟩⟩⟩
theorem TurnR.fkeep (h : TurnR B W W') : FKeep W W' := by
  obtain ⟨bs, ht, hb⟩ := h
  exact ⟨fun g cs hC => ht.blk hC fun hm => ((hb g hm).2 _ _ hC).2 rfl, ht.size⟩
theorem TurnR.own (h : TurnR B W W') {b k size : Nat} {v : Value} {xs : List Value} (ho : W.ownsRow b 3 size v k xs) : W'.ownsRow b 3 size v k xs := by
  obtain ⟨bs, ht, hb⟩ := h
  exact ht.own ho fun g hg hm => by
    obtain ⟨cs, hC⟩ := own_isBlk ho hg
    exact ((hb g hm).2 _ _ hC).1 rfl
theorem TurnR.below (h : TurnR B W W') (hB : B ≤ W.heap.size) : Below B W W' := by
  obtain ⟨bs, ht, hb⟩ := h
  exact ht.below hB fun b hm => (hb b hm).1
theorem TurnR.refl (B : Nat) (W : World) : TurnR B W W := ⟨[], Turn.refl _ _, fun b hb => by simp at hb⟩
def OneR (B dp : Nat) (v : Value) (n : Nat) (r : Nat × DS) (W : World) (e : Ending) (w' : World) : Prop :=
  e = .returned (.int .i64 (r.1 : Int)) ∧ ∃ p' q', DuoR w' B dp v p' q' n r.2.2 r.2.1 ∧ TurnR B W w'
theorem DuoR.rc (h : DuoR W B dp v p q n now st) : ∃ g cap, ∀ W', Below W.heap.size W W' → DuoRC dp g cap p.mb q.mb now W' := by
  obtain ⟨g, cap, rfl, _, _⟩ := h.swapRow
  refine ⟨g, cap, fun W' hb => ?_⟩
  have h' := h.below hb
  obtain ⟨g', cap', e, a, b⟩ := h'.swapRow
  cases e
  exact ⟨h'.blk.cell 0, a, b, h'.blk.cell 1⟩
theorem ck_of (v : Nat) (W : World) : (W.alloc (.cells #[.string ⟨#[97]⟩, .string ⟨#[98]⟩, .string ⟨#[99]⟩, .string ⟨#[100]⟩] 9)).cell? ⟨W.heap.size, v / 8 / 2 % 4, none⟩ = some (.string (hostNo (v / 8))) :=
  ((Blk.new W 9 _).cell _).trans (hostNo_at (v / 8))
theorem TurnR.from_ {W1 : World} (h : TurnR B W1 W') (hb : Below W.heap.size W W1) : TurnR B W W' := by
  obtain ⟨bs, ht, hs⟩ := h
  refine ⟨bs.filter (fun b => decide (b < W.heap.size)), ((Turn.of_below hb : Turn (bs.filter (fun b => decide (b < W.heap.size))) W W1)).trans ht (fun c hc => ?_), fun b hm => ?_⟩
  · by_cases hlt : c < W.heap.size
    · exact .inl (List.mem_filter.2 ⟨hc, by simpa using hlt⟩)
    · exact .inr (by omega)
  · have h1 := hs b (List.mem_filter.1 hm).1
    exact ⟨h1.1, fun t cs hC => h1.2 t cs (hC.below hb hC.lt)⟩
theorem endRA {x : Nat} {d : DS} (h5 : ¬ x % 8 = 5) (h7 : ¬ x % 8 = 7) (hq : ¬ x / 8 % 2 = 1) (hD : ∃ p' q', DuoR W' B dp v p' q' n d.2 (actXY x d.1.1 d.1.2 d.2).2) (ht : TurnR B W W') : OneR B dp v n (oneS x d) W (.returned (.int .i64 ((actXY x d.1.1 d.1.2 d.2).1 : Int))) W' := by
  have e : oneS x d = ((actXY x d.1.1 d.1.2 d.2).1, ((actXY x d.1.1 d.1.2 d.2).2, d.2)) := by unfold oneS; rw [if_neg h5, if_neg h7, if_neg hq]
  obtain ⟨p', q', hD⟩ := hD
  rw [e]
  exact ⟨rfl, p', q', hD, ht⟩
theorem endRB {x : Nat} {d : DS} (h5 : ¬ x % 8 = 5) (h7 : ¬ x % 8 = 7) (hq : x / 8 % 2 = 1) (hD : ∃ p' q', DuoR W' B dp v p' q' n d.2 ((actXY x d.1.2 d.1.1 d.2).2.2, (actXY x d.1.2 d.1.1 d.2).2.1)) (ht : TurnR B W W') : OneR B dp v n (oneS x d) W (.returned (.int .i64 ((actXY x d.1.2 d.1.1 d.2).1 : Int))) W' := by
  have e : oneS x d = ((actXY x d.1.2 d.1.1 d.2).1, (((actXY x d.1.2 d.1.1 d.2).2.2, (actXY x d.1.2 d.1.1 d.2).2.1), d.2)) := by unfold oneS; rw [if_neg h5, if_neg h7, if_pos hq]
  obtain ⟨p', q', hD⟩ := hD
  rw [e]
  exact ⟨rfl, p', q', hD, ht⟩
theorem refOne_look {x : Nat} {d : DS} (hx : x ≤ 9223372036854775807) (h : DuoR W B dp v p q n d.2 d.1) (hB : B ≤ W.heap.size) (hn : n ≤ 900) (h3 : x % 8 = 3) :
    Calls Tryz.prog 59 #[.pointer (some ⟨dp, 0, none⟩), .int .i64 (x : Int)] W (OneR B dp v (n + 1) (oneS x d) W) := by
  have hP := Parts.of x
  obtain ⟨g, cap, hC⟩ := h.rc
  have ea3 : ∀ a b : BS, actXY x a b d.2 = ((lookB c22 a (hostNo (x / 8)) (decide (x / 8 / 8 % 2 = 1))).1.2, ((lookB c22 a (hostNo (x / 8)) (decide (x / 8 / 8 % 2 = 1))).2, b)) := fun a b => by unfold actXY; rw [if_pos h3]
  by_cases hq : x / 8 % 2 = 1
  · refine (rone_look (Q := fun w' => OneR B dp v (n + 1) (oneS x d) W (.returned (.int .i64 ((actXY x d.1.2 d.1.1 d.2).1 : Int))) w') hP (.inl ⟨by simpa using hq, rfl, rfl⟩) hx h3 hC (ck_of x W) (fun W1 hb => ?_)).mono fun e w' ⟨a, b⟩ => a ▸ b
    have hD := h.below hb
    refine (refB_look (hostNo (x / 8)) (decide (x / 8 / 8 % 2 = 1)) hD.y (Nat.le_trans hB hb.size) hn (by decide) (by decide)).mono fun e w2 ⟨a, r⟩ => ⟨_, by rw [ea3]; exact a, endRB (by omega) (by omega) hq ?_ ?_⟩
    · obtain ⟨q', h', _⟩ := hD.actY r (Nat.le_succ n)
      rw [ea3]
      exact ⟨p, q', h'⟩
    · obtain ⟨q', _, _, t, _⟩ := hD.actY r (Nat.le_succ n)
      exact (hD.y.turnR t).from_ hb
  · refine (rone_look (Q := fun w' => OneR B dp v (n + 1) (oneS x d) W (.returned (.int .i64 ((actXY x d.1.1 d.1.2 d.2).1 : Int))) w') hP (.inr ⟨by simpa using hq, rfl, rfl⟩) hx h3 hC (ck_of x W) (fun W1 hb => ?_)).mono fun e w' ⟨a, b⟩ => a ▸ b
    have hD := h.below hb
    refine (refB_look (hostNo (x / 8)) (decide (x / 8 / 8 % 2 = 1)) hD.x (Nat.le_trans hB hb.size) hn (by decide) (by decide)).mono fun e w2 ⟨a, r⟩ => ⟨_, by rw [ea3]; exact a, endRA (by omega) (by omega) hq ?_ ?_⟩
    · obtain ⟨p', h', _⟩ := hD.actX r (Nat.le_succ n)
      rw [ea3]
      exact ⟨p', q, h'⟩
    · obtain ⟨p', _, _, t, _⟩ := hD.actX r (Nat.le_succ n)
      exact (hD.x.turnR t).from_ hb
theorem RepTo.moreN {c : BCfg} (h : RepTo B p c n s W W') (hn : n ≤ n') : RepTo B p c n' s W W' := by
  obtain ⟨p1, r1, e1, t1, b1⟩ := h
  exact ⟨p1, r1.more hn, e1, t1, b1⟩
theorem refOne_drain {x : Nat} {d : DS} (hx : x ≤ 9223372036854775807) (h : DuoR W B dp v p q n d.2 d.1) (hB : B ≤ W.heap.size) (hn : n ≤ 900) (hs1 : hosts d.1.1.st = c22.hosts) (hs2 : hosts d.1.2.st = c22.hosts) (h4 : x % 8 = 4) :
    Calls Tryz.prog 59 #[.pointer (some ⟨dp, 0, none⟩), .int .i64 (x : Int)] W (OneR B dp v (n + 1) (oneS x d) W) := by
  have hP := Parts.of x
  obtain ⟨g, cap, hC⟩ := h.rc
  have ea4 : ∀ a b : BS, actXY x a b d.2 = (0, (drainS a (hostNo (x / 8)) (decide (x / 8 / 8 % 2 = 1)), b)) := fun a b => by unfold actXY; rw [if_neg (by omega), if_pos h4]
  by_cases hq : x / 8 % 2 = 1
  · refine (rone_drain (Q := fun w' => OneR B dp v (n + 1) (oneS x d) W (.returned (.int .i64 ((actXY x d.1.2 d.1.1 d.2).1 : Int))) w') hP (.inl ⟨by simpa using hq, rfl, rfl⟩) hx h4 hC (ck_of x W) (fun W1 hb => ?_)).mono fun e w' ⟨a, b⟩ => a ▸ b
    have hD := h.below hb
    refine (refB_drain (hostNo (x / 8)) (decide (x / 8 / 8 % 2 = 1)) hD.y (Nat.le_trans hB hb.size) (by rw [hs2]; exact hostNo_mem _) hn).mono fun e w2 ⟨a, r⟩ => ⟨by rw [ea4]; exact a, endRB (by omega) (by omega) hq ?_ ?_⟩
    · obtain ⟨q', h', _⟩ := hD.actY r (Nat.le_succ n)
      rw [ea4]
      exact ⟨p, q', h'⟩
    · obtain ⟨q', _, _, t, _⟩ := hD.actY r (Nat.le_succ n)
      exact (hD.y.turnR t).from_ hb
  · refine (rone_drain (Q := fun w' => OneR B dp v (n + 1) (oneS x d) W (.returned (.int .i64 ((actXY x d.1.1 d.1.2 d.2).1 : Int))) w') hP (.inr ⟨by simpa using hq, rfl, rfl⟩) hx h4 hC (ck_of x W) (fun W1 hb => ?_)).mono fun e w' ⟨a, b⟩ => a ▸ b
    have hD := h.below hb
    refine (refB_drain (hostNo (x / 8)) (decide (x / 8 / 8 % 2 = 1)) hD.x (Nat.le_trans hB hb.size) (by rw [hs1]; exact hostNo_mem _) hn).mono fun e w2 ⟨a, r⟩ => ⟨by rw [ea4]; exact a, endRA (by omega) (by omega) hq ?_ ?_⟩
    · obtain ⟨p', h', _⟩ := hD.actX r (Nat.le_succ n)
      rw [ea4]
      exact ⟨p', q, h'⟩
    · obtain ⟨p', _, _, t, _⟩ := hD.actX r (Nat.le_succ n)
      exact (hD.x.turnR t).from_ hb
theorem refOne_pick {x : Nat} {d : DS} (hx : x ≤ 9223372036854775807) (h : DuoR W B dp v p q n d.2 d.1) (hB : B ≤ W.heap.size) (hn : n ≤ 900) (hs1 : hosts d.1.1.st = c22.hosts) (hs2 : hosts d.1.2.st = c22.hosts) {k : Nat} (i1 : BInv k d.2 d.1.1) (i2 : BInv k d.2 d.1.2) (hnow : d.2 ≤ 1000000) (hk : x % 8 ≠ 3 ∧ x % 8 ≠ 4 ∧ x % 8 ≠ 5 ∧ x % 8 ≠ 6 ∧ x % 8 ≠ 7) :
    Calls Tryz.prog 59 #[.pointer (some ⟨dp, 0, none⟩), .int .i64 (x : Int)] W (OneR B dp v (n + 1) (oneS x d) W) := by
  have hP := Parts.of x
  obtain ⟨g, cap, hC⟩ := h.rc
  have ea0 : ∀ a b : BS, actXY x a b d.2 = ((pickS c22 a (x / 8 / 2) d.2).1.2.2, ((pickS c22 a (x / 8 / 2) d.2).2, b)) := fun a b => by unfold actXY; rw [if_neg hk.1, if_neg hk.2.1, if_neg hk.2.2.2.1]
  have hU : U64 (x / 8 / 2) := by unfold U64; omega
  by_cases hq : x / 8 % 2 = 1
  · refine (rone_pick (Q := fun w' => OneR B dp v (n + 1) (oneS x d) W (.returned (.int .i64 ((actXY x d.1.2 d.1.1 d.2).1 : Int))) w') hP (.inl ⟨by simpa using hq, rfl, rfl⟩) hx hk hC (ck_of x W) (fun W1 hb => ?_)).mono fun e w' ⟨a, b⟩ => a ▸ b
    have hD := h.below hb
    rw [show ((x / 8 : Nat) : Int) / 2 = ((x / 8 / 2 : Nat) : Int) by omega]
    refine (refB_pick (x / 8 / 2) d.2 hD.y (Nat.le_trans hB hb.size) ok_22 hs2 i2.rise i2.last hnow hn hU).mono fun e w2 ⟨a, r⟩ => ⟨_, _, by rw [ea0]; exact a, endRB (by omega) (by omega) hq ?_ ?_⟩
    · obtain ⟨q', h', _⟩ := hD.actY (RepTo.moreN r (Nat.le_succ n)) (Nat.le_succ n)
      rw [ea0]
      exact ⟨p, q', h'⟩
    · obtain ⟨q', _, _, t, _⟩ := hD.actY (RepTo.moreN r (Nat.le_succ n)) (Nat.le_succ n)
      exact (hD.y.turnR t).from_ hb
  · refine (rone_pick (Q := fun w' => OneR B dp v (n + 1) (oneS x d) W (.returned (.int .i64 ((actXY x d.1.1 d.1.2 d.2).1 : Int))) w') hP (.inr ⟨by simpa using hq, rfl, rfl⟩) hx hk hC (ck_of x W) (fun W1 hb => ?_)).mono fun e w' ⟨a, b⟩ => a ▸ b
    have hD := h.below hb
    rw [show ((x / 8 : Nat) : Int) / 2 = ((x / 8 / 2 : Nat) : Int) by omega]
    refine (refB_pick (x / 8 / 2) d.2 hD.x (Nat.le_trans hB hb.size) ok_22 hs1 i1.rise i1.last hnow hn hU).mono fun e w2 ⟨a, r⟩ => ⟨_, _, by rw [ea0]; exact a, endRA (by omega) (by omega) hq ?_ ?_⟩
    · obtain ⟨p', h', _⟩ := hD.actX (RepTo.moreN r (Nat.le_succ n)) (Nat.le_succ n)
      rw [ea0]
      exact ⟨p', q, h'⟩
    · obtain ⟨p', _, _, t, _⟩ := hD.actX (RepTo.moreN r (Nat.le_succ n)) (Nat.le_succ n)
      exact (hD.x.turnR t).from_ hb
theorem refOne_tick {x : Nat} {d : DS} (hx : x ≤ 9223372036854775807) (h : DuoR W B dp v p q n d.2 d.1) (hnow : d.2 ≤ 1000000) (h5 : x % 8 = 5) :
    Calls Tryz.prog 59 #[.pointer (some ⟨dp, 0, none⟩), .int .i64 (x : Int)] W (OneR B dp v (n + 1) (oneS x d) W) := by
  obtain ⟨g, cap, hC⟩ := h.rc
  have e5 : oneS x d = (0, (d.1, d.2 + (1 + x / 8 % 8))) := by unfold oneS; rw [if_pos h5]
  have hdk : ∀ W', Below W.heap.size W W' → Blk W' dp 68 #[v, .int .i64 (d.2 : Int)] := fun W' hb => (h.below hb).blk
  refine (rone_tick (xb := if x / 8 % 2 = 1 then q.mb else p.mb) (yb := if x / 8 % 2 = 1 then p.mb else q.mb) (Parts.of x) (by by_cases hq : x / 8 % 2 = 1 <;> simp [Turned, hq]) hx h5 hnow (fun W' hb => (hdk W' hb).frozen 1) hC (ck_of x W) (fun _ _ => trivial)).mono fun e w' ⟨a, W1, hb, hw⟩ => ?_
  subst a
  subst hw
  rw [e5]
  have h1 := h.below hb
  have ht : Turn [dp] W1 (W1.setCell ⟨dp, 1, none⟩ (.int .i64 ((d.2 : Int) + ((x / 8 : Nat) : Int) % 8 + 1))) := (Turn.refl [dp] W1).setCell (p := ⟨dp, 1, none⟩) (.inl (by simp)) _
  have hG : ∀ b ∈ [dp], ∃ t cs, Blk W1 b t cs ∧ (t = 65 ∨ t = 68 ∨ t = 87 ∨ t = 3) := fun b hb => by
    rw [List.mem_singleton] at hb
    subst hb
    exact ⟨_, _, h1.blk, .inr (.inl rfl)⟩
  refine ⟨rfl, p, q, ⟨?_, ht.own h1.row fun g hg hm => ?_, (h1.x.turnT ht hG).more (Nat.le_succ n), (h1.y.turnT ht hG).more (Nat.le_succ n), h1.ap, h1.b⟩, TurnR.from_ ⟨[dp], ht, fun b hb => ?_⟩ hb⟩
  · have := h1.blk.set_ 1 (.int .i64 ((d.2 : Int) + ((x / 8 : Nat) : Int) % 8 + 1))
    rw [show ((d.2 + (1 + x / 8 % 8) : Nat) : Int) = (d.2 : Int) + ((x / 8 : Nat) : Int) % 8 + 1 by omega]
    exact this
  · obtain ⟨cs, hC2⟩ := own_isBlk h1.row hg
    exact hC2.ne_ h1.blk (by decide) (List.mem_singleton.1 hm)
  · rw [List.mem_singleton] at hb
    subst hb
    exact ⟨h1.b, fun t cs hC2 => ⟨fun e => hC2.ne_ h1.blk (by rw [e]; decide) rfl, fun e => hC2.ne_ h1.blk (by rw [e]; decide) rfl⟩⟩
theorem DuoR.rcAt {g cap : Nat} (h : DuoR W B dp (.slice (some ⟨g, 0, none⟩) 2 cap) p q n now st) : DuoRC dp g cap p.mb q.mb now W := by
  obtain ⟨g', cap', e, a, b⟩ := h.swapRow
  cases e
  exact ⟨h.blk.cell 0, a, b, h.blk.cell 1⟩
theorem TurnR.then {W1 : World} (h : TurnR B W W1) (h2 : TurnR B W1 W') : TurnR B W W' := by
  obtain ⟨bs, ht, hs⟩ := h
  obtain ⟨cs, ht2, hs2⟩ := h2
  refine ⟨bs ++ cs.filter (fun b => decide (b < W.heap.size ∧ b ∉ bs)), (ht.more fun b hb => List.mem_append.2 (.inl hb)).trans ht2 (fun c hc => ?_), fun b hm => ?_⟩
  · by_cases hlt : c < W.heap.size
    · by_cases hin : c ∈ bs
      · exact .inl (List.mem_append.2 (.inl hin))
      · exact .inl (List.mem_append.2 (.inr (List.mem_filter.2 ⟨hc, by simp [hlt, hin]⟩)))
    · exact .inr (by omega)
  · rcases List.mem_append.1 hm with h1 | h1
    · exact hs b h1
    · obtain ⟨h3, h4⟩ := List.mem_filter.1 h1
      simp only [decide_eq_true_eq] at h4
      exact ⟨(hs2 b h3).1, fun t cs' hC => (hs2 b h3).2 t cs' (ht.blk hC h4.2)⟩
theorem refOne_both {x : Nat} {d : DS} (hx : x ≤ 9223372036854775807) (h : DuoR W B dp v p q n d.2 d.1) (hB : B ≤ W.heap.size) (hn : n ≤ 900) (hs1 : hosts d.1.1.st = c22.hosts) (hs2 : hosts d.1.2.st = c22.hosts) {k : Nat} (i1 : BInv k d.2 d.1.1) (i2 : BInv k d.2 d.1.2) (hnow : d.2 ≤ 1000000) (h7 : x % 8 = 7) :
    Calls Tryz.prog 59 #[.pointer (some ⟨dp, 0, none⟩), .int .i64 (x : Int)] W (OneR B dp v n (oneS x d) W) := by
  obtain ⟨g, cap, rfl, _, _⟩ := h.swapRow
  have e7 : oneS x d = bothS d := by unfold oneS; rw [if_neg (by omega), if_pos h7]
  have hU : U64 0 := by unfold U64; decide
  have hcase : ((pickS c22 d.1.1 0 d.2).1.2.2 = 0 ∧ (bothS d).1 = (pickS c22 d.1.2 0 d.2).1.2.2) ∨ (0 < (pickS c22 d.1.1 0 d.2).1.2.2 ∧ (bothS d).1 = (pickS c22 d.1.1 0 d.2).1.2.2) := by
    unfold bothS
    by_cases h0 : (pickS c22 d.1.1 0 d.2).1.2.2 = 0
    · exact .inl ⟨h0, if_pos h0⟩
    · exact .inr ⟨by omega, if_neg h0⟩
  rw [e7]
  refine (rone_both (xb := if x / 8 % 2 = 1 then q.mb else p.mb) (yb := if x / 8 % 2 = 1 then p.mb else q.mb) (Q := fun w' => OneR B dp _ n (bothS d) W (.returned (.int .i64 ((bothS d).1 : Int))) w') hcase (Parts.of x) (by by_cases hq : x / 8 % 2 = 1 <;> simp [Turned, hq]) hx h7 (fun W' hb => (h.below hb).rcAt) (ck_of x W) (fun W1 hb => ?_)).mono fun e w' ⟨a, b⟩ => a ▸ b
  have hD := h.below hb
  refine (refB_pick 0 d.2 hD.x (Nat.le_trans hB hb.size) ok_22 hs1 i1.rise i1.last hnow hn hU).mono fun e w1 ⟨a, r⟩ => ?_
  obtain ⟨p1, h1, e1, t1, _⟩ := hD.actX r (Nat.le_refl n)
  have hrc := h1.rcAt
  rw [e1.1] at hrc
  refine ⟨_, _, a, hrc, Lib.hid fun W2 hb2 => ?_⟩
  have hD2 := h1.below hb2
  have hs := Nat.le_trans (Nat.le_trans (Nat.le_trans hB hb.size) t1.size) hb2.size
  refine (refB_pick 0 d.2 hD2.y hs ok_22 hs2 i2.rise i2.last hnow hn hU).mono fun e w2 ⟨a2, r2⟩ => ?_
  obtain ⟨q1, h2, e2, t2, _⟩ := hD2.actY r2 (Nat.le_refl n)
  have hrc2 := h2.rcAt
  rw [e1.1, e2.1] at hrc2
  exact ⟨_, _, a2, hrc2, rfl, p1, q1, h2, ((hD.x.turnR t1).from_ hb).then ((hD2.y.turnR t2).from_ hb2)⟩
theorem DuoR.fault {g : Nat} {cs : Array Value} (h : DuoR W B dp v p q n now st) (hG : Blk W g 87 cs) (ht : Turn [g] W W') : DuoR W' B dp v p q n now st :=
  ⟨ht.blk h.blk (fun hm => h.blk.ne_ hG (by decide) (List.mem_singleton.1 hm)), ht.own h.row (fun g' hg hm => by
    obtain ⟨cs', hC⟩ := own_isBlk h.row hg
    exact hC.ne_ hG (by decide) (List.mem_singleton.1 hm)), h.x.fault hG ht, h.y.fault hG ht, h.ap, h.b⟩
theorem TurnR.beyond {W1 : World} {g : Nat} (h : TurnR B W W1) (ht : Turn [g] W1 W') (hg : W.heap.size ≤ g) : TurnR B W W' := by
  obtain ⟨bs, h1, hs⟩ := h
  exact ⟨bs, h1.trans ht (fun c hc => .inr (by rw [List.mem_singleton] at hc; omega)), hs⟩
theorem TurnR.thenB {W1 : World} (h : TurnR B W W1) (hb : Below W1.heap.size W1 W') : TurnR B W W' := by
  obtain ⟨bs, h1, hs⟩ := h
  exact ⟨bs, h1.thenB hb, hs⟩
/-- Export of one, Import by the other: what the walk of kind 6 asks, x the first. -/
theorem over_xy {k : Nat} (h : DuoR W B dp v p q n now (s, t)) (i1 : BInv k now s) (hk : k ≤ 100000) (hnow : now ≤ 1000000) (hu : ∀ y ∈ s.fs.2, U64 y.key) :
    Calls Tryz.prog 105 #[.pointer (some ⟨p.mb, 0, none⟩)] W fun e w1 => e = .returned (.string ⟨(textOf ((s.epoch : Int) + 1) s.fs.2).toArray⟩) ∧ ∃ p', DuoR w1 B dp v p' q n now ({ s with epoch := s.epoch + 1 }, t) ∧ Stood p p' ∧ Turn p.ws W w1 := by
  have hep := i1.ep
  have hck := i1.check h.x.f.len hnow ((s.epoch : Int) + 1) (by omega) (by omega)
  refine (refB_export (s := s) h.x (show s.epoch ≤ 1000000 by omega) hck hu).mono fun e w1 ⟨a, r⟩ => ⟨a, ?_⟩
  obtain ⟨p', h', e', t', _⟩ := h.actX r (Nat.le_refl n)
  exact ⟨p', h', e', t'⟩
theorem imp_xy {k : Nat} (h : DuoR W B dp v p q n now ({ s with epoch := s.epoch + 1 }, t)) (hB : B ≤ W.heap.size) (i1 : BInv k now s) (i2 : BInv k now t) (hk : k ≤ 100000) (hnow : now ≤ 1000000) (hl : s.fs.2.length ≤ 200) (hu : ∀ y ∈ s.fs.2, U64 y.key) :
    Calls Tryz.prog 104 #[.pointer (some ⟨q.mb, 0, none⟩), .string ⟨(textOf ((s.epoch : Int) + 1) s.fs.2).toArray⟩, .int .i64 (now : Int)] W fun e w2 => ∃ n0 : Nat, e = .returned (.tuple #[.int .i64 (n0 : Int), .agg #[.int .i64 ((overS s t now).1 : Int), .int .i64 (-1)]]) ∧ ∃ q', DuoR w2 B dp v p q' n now (overS s t now).2 ∧ Stood q q' ∧ Turn q.ws W w2 := by
  have hep := i1.ep
  have hck := i1.check hl hnow ((s.epoch : Int) + 1) (by omega) (by omega)
  rw [show ((s.epoch : Int) + 1) = ((s.epoch + 1 : Nat) : Int) from rfl] at hck ⊢
  unfold overS
  by_cases hlt : s.epoch + 1 < t.epoch
  · rw [if_pos hlt]
    refine (refB_importOld (s.epoch + 1) now s.fs.2 (s := t) h.y hck hu hlt).mono fun e w2 ⟨a, r⟩ => ⟨0, a, ?_⟩
    obtain ⟨q', h', e', t', _⟩ := h.actY r (Nat.le_refl n)
    exact ⟨q', h', e', t'⟩
  · rw [if_neg hlt]
    refine (refB_import (s.epoch + 1) now s.fs.2 (s := t) h.y hB hck hu (fun y hy => hosts_small ok_22 y.host (i1.fl y hy).1) (by omega) i2.last hnow).mono fun e w2 ⟨n0, a, r⟩ => ⟨n0, a, ?_⟩
    obtain ⟨q', h', e', t', _⟩ := h.actY r (Nat.le_refl n)
    exact ⟨q', h', e', t'⟩
/-- The same, x the second. -/
theorem over_yx {k : Nat} (h : DuoR W B dp v q p n now (t, s)) (i1 : BInv k now s) (hk : k ≤ 100000) (hnow : now ≤ 1000000) (hu : ∀ y ∈ s.fs.2, U64 y.key) :
    Calls Tryz.prog 105 #[.pointer (some ⟨p.mb, 0, none⟩)] W fun e w1 => e = .returned (.string ⟨(textOf ((s.epoch : Int) + 1) s.fs.2).toArray⟩) ∧ ∃ p', DuoR w1 B dp v q p' n now (t, { s with epoch := s.epoch + 1 }) ∧ Stood p p' ∧ Turn p.ws W w1 := by
  have hep := i1.ep
  have hck := i1.check h.y.f.len hnow ((s.epoch : Int) + 1) (by omega) (by omega)
  refine (refB_export (s := s) h.y (show s.epoch ≤ 1000000 by omega) hck hu).mono fun e w1 ⟨a, r⟩ => ⟨a, ?_⟩
  obtain ⟨p', h', e', t', _⟩ := h.actY r (Nat.le_refl n)
  exact ⟨p', h', e', t'⟩
theorem imp_yx {k : Nat} (h : DuoR W B dp v q p n now (t, { s with epoch := s.epoch + 1 })) (hB : B ≤ W.heap.size) (i1 : BInv k now s) (i2 : BInv k now t) (hk : k ≤ 100000) (hnow : now ≤ 1000000) (hl : s.fs.2.length ≤ 200) (hu : ∀ y ∈ s.fs.2, U64 y.key) :
    Calls Tryz.prog 104 #[.pointer (some ⟨q.mb, 0, none⟩), .string ⟨(textOf ((s.epoch : Int) + 1) s.fs.2).toArray⟩, .int .i64 (now : Int)] W fun e w2 => ∃ n0 : Nat, e = .returned (.tuple #[.int .i64 (n0 : Int), .agg #[.int .i64 ((overS s t now).1 : Int), .int .i64 (-1)]]) ∧ ∃ q', DuoR w2 B dp v q' p n now ((overS s t now).2.2, (overS s t now).2.1) ∧ Stood q q' ∧ Turn q.ws W w2 := by
  have hep := i1.ep
  have hck := i1.check hl hnow ((s.epoch : Int) + 1) (by omega) (by omega)
  rw [show ((s.epoch : Int) + 1) = ((s.epoch + 1 : Nat) : Int) from rfl] at hck ⊢
  unfold overS
  by_cases hlt : s.epoch + 1 < t.epoch
  · rw [if_pos hlt]
    refine (refB_importOld (s.epoch + 1) now s.fs.2 (s := t) h.x hck hu hlt).mono fun e w2 ⟨a, r⟩ => ⟨0, a, ?_⟩
    obtain ⟨q', h', e', t', _⟩ := h.actX r (Nat.le_refl n)
    exact ⟨q', h', e', t'⟩
  · rw [if_neg hlt]
    refine (refB_import (s.epoch + 1) now s.fs.2 (s := t) h.x hB hck hu (fun y hy => hosts_small ok_22 y.host (i1.fl y hy).1) (by omega) i2.last hnow).mono fun e w2 ⟨n0, a, r⟩ => ⟨n0, a, ?_⟩
    obtain ⟨q', h', e', t', _⟩ := h.actX r (Nat.le_refl n)
    exact ⟨q', h', e', t'⟩
theorem refOne_over {x : Nat} {d : DS} (hx : x ≤ 9223372036854775807) (h : DuoR W B dp v p q n d.2 d.1) (hB : B ≤ W.heap.size) {k : Nat} (i1 : BInv k d.2 d.1.1) (i2 : BInv k d.2 d.1.2) (hk : k ≤ 100000) (hnow : d.2 ≤ 1000000) (hu1 : ∀ y ∈ d.1.1.fs.2, U64 y.key) (hu2 : ∀ y ∈ d.1.2.fs.2, U64 y.key) (h6 : x % 8 = 6) :
    Calls Tryz.prog 59 #[.pointer (some ⟨dp, 0, none⟩), .int .i64 (x : Int)] W (OneR B dp v n (oneS x d) W) := by
  have hP := Parts.of x
  obtain ⟨g, cap, hC⟩ := h.rc
  have ea6 : ∀ a b : BS, actXY x a b d.2 = overS a b d.2 := fun a b => by unfold actXY; rw [if_neg (by omega), if_neg (by omega), if_pos h6]
  have hQF : ∀ (r : Nat × DS) (cv : Value) w g cs w', OneR B dp v n r W (.returned cv) w → Blk w g 87 cs → W.heap.size ≤ g → Turn [g] w w' → OneR B dp v n r W (.returned cv) w' := fun r cv w g cs w' ⟨a, p', q', hD, hT⟩ hG hg ht => ⟨a, p', q', hD.fault hG ht, hT.beyond ht hg⟩
  have hQB : ∀ (r : Nat × DS) (cv : Value) w w', OneR B dp v n r W (.returned cv) w → Below w.heap.size w w' → OneR B dp v n r W (.returned cv) w' := fun r cv w w' ⟨a, p', q', hD, hT⟩ hb => ⟨a, p', q', hD.below hb, hT.thenB hb⟩
  by_cases hq : x / 8 % 2 = 1
  · refine (rone_over (tx := ⟨(textOf ((d.1.2.epoch : Int) + 1) d.1.2.fs.2).toArray⟩) (Q := fun w' => OneR B dp v n (oneS x d) W (.returned (.int .i64 ((actXY x d.1.2 d.1.1 d.2).1 : Int))) w') hP (.inl ⟨by simpa using hq, rfl, rfl⟩) hx h6 hC (ck_of x W) (fun W1 hb => ?_) h.blk.lt (hQF _ _) (hQB _ _)).mono fun e w' ⟨a, b⟩ => a ▸ b
    have hD := h.below hb
    refine (over_yx (s := d.1.2) (t := d.1.1) hD i2 hk hnow hu2).mono fun e w1 ⟨a, p', h1, e1, t1⟩ => ⟨a, h1.blk.cell 1, (hD.y.turnR t1).fkeep, Lib.hid fun W2 hb2 => ?_⟩
    have hD2 := h1.below hb2
    refine (imp_yx (s := d.1.2) (t := d.1.1) hD2 (Nat.le_trans (Nat.le_trans (Nat.le_trans hB hb.size) t1.size) hb2.size) i2 i1 hk hnow hD.y.f.len hu2).mono fun e w2 ⟨n0, a, q', h2, e2, t2⟩ => ⟨n0, by rw [ea6]; exact a, h2.blk.cell 1, (hD2.x.turnR t2).fkeep, endRB (by omega) (by omega) hq ⟨_, _, by rw [ea6]; exact h2⟩ (((hD.y.turnR t1).from_ hb).then ((hD2.x.turnR t2).from_ hb2))⟩
  · refine (rone_over (tx := ⟨(textOf ((d.1.1.epoch : Int) + 1) d.1.1.fs.2).toArray⟩) (Q := fun w' => OneR B dp v n (oneS x d) W (.returned (.int .i64 ((actXY x d.1.1 d.1.2 d.2).1 : Int))) w') hP (.inr ⟨by simpa using hq, rfl, rfl⟩) hx h6 hC (ck_of x W) (fun W1 hb => ?_) h.blk.lt (hQF _ _) (hQB _ _)).mono fun e w' ⟨a, b⟩ => a ▸ b
    have hD := h.below hb
    refine (over_xy (s := d.1.1) (t := d.1.2) hD i1 hk hnow hu1).mono fun e w1 ⟨a, p', h1, e1, t1⟩ => ⟨a, h1.blk.cell 1, (hD.x.turnR t1).fkeep, Lib.hid fun W2 hb2 => ?_⟩
    have hD2 := h1.below hb2
    refine (imp_xy (s := d.1.1) (t := d.1.2) hD2 (Nat.le_trans (Nat.le_trans (Nat.le_trans hB hb.size) t1.size) hb2.size) i1 i2 hk hnow hD.x.f.len hu1).mono fun e w2 ⟨n0, a, q', h2, e2, t2⟩ => ⟨n0, by rw [ea6]; exact a, h2.blk.cell 1, (hD2.y.turnR t2).fkeep, endRA (by omega) (by omega) hq ⟨_, _, by rw [ea6]; exact h2⟩ (((hD.x.turnR t1).from_ hb).then ((hD2.y.turnR t2).from_ hb2))⟩
end
end Go.Proofs.YteilefpjfbholaaGreatDoor
