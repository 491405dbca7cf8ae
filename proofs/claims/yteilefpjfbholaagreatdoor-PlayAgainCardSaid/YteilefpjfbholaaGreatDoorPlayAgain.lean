/-
  The law PlayAgain: its walk.
-/
import Derived.Test.YteilefpjfbholaaGreatDoorPlayed
import Derived.Test.YteilefpjfbholaaGreatDoorSameFl
namespace Go.Proofs.YteilefpjfbholaaGreatDoor
open Go.RowKit

theorem again_ways {a b : Nat} (h : 200 < a ∨ 200 < b) : decide ((a : Int) > 200) = true ∨ (decide ((a : Int) > 200) = false ∧ decide ((b : Int) > 200) = true) := by
  simp only [decide_eq_true_eq, decide_eq_false_iff_not]; omega
set_option maxRecDepth 100000 in
set_option maxHeartbeats 1000000 in
theorem again_skip (ea : Nat → Addr) (A C : Option Addr) (ca cc a b : Nat) (w : World) (hE : ErrsB ea w) (hE9 : ErrsW ea w) (hG : HandleAt w) (hW : CarW w) (hK : ErrsK ea w) (_h1 : a ≤ maxLen) (_h2 : b ≤ maxLen) (h : 200 < a ∨ 200 < b) :
    Calls Tryz.prog 6 #[.slice A a ca, .slice C b cc] w (True1 w) := by
  unfold maxLen at _h1 _h2
  have HW := Lib.hid (played_any ea w hE hE9 hG hW hK)
  have hw := again_ways h
  clear hE hE9 hG hW hK h
  rcases hw with d1 | ⟨d1, d2⟩
  all_goals
    go_enter Tryz.func6, Tryz.ntmps6
    go_wp2_with fail
    refine HW.out.mono ?_
    rintro e w1 ⟨rfl, hb1⟩
    go_wp2
    go_ret
    exact ⟨rfl, hb1⟩
/-- What stands of three duos. -/
structure Trio (ea : Nat → Addr) (w W : World) (x y z : DPl) (i j k n m o : Nat) (a b c : BS × BS) : Prop where
  hx : DuoS ea w W x i n a
  hy : DuoS ea w W y j m b
  hz : DuoS ea w W z k o c
  xy : x.H ≤ y.L
  yz : y.H ≤ z.L
  xz : x.H ≤ z.L
  b : Below w.heap.size w W
section
variable {ea : Nat → Addr} {w W W' : World} {x y z : DPl} {i j k n m o : Nat} {a b c : BS × BS}
theorem Trio.below (h : Trio ea w W x y z i j k n m o a b c) (hb : Below W.heap.size W W') : Trio ea w W' x y z i j k n m o a b c := ⟨h.hx.below hb, h.hy.below hb, h.hz.below hb, h.xy, h.yz, h.xz, below_two h.b hb⟩
theorem DuoS.low (h : DuoS ea w W x k n a) (hb : Below w.heap.size w W) (ht : Turn x.bs W W') : Below w.heap.size w W' := hb.trans (ht.below hb.size fun g hg => (h.bsIn g hg).1)
theorem Trio.runX (h : Trio ea w W x y z i j k n m o a b c) (hE : ErrsB ea w) (ht : Turn x.bs W W') {i' n' : Nat} {a' : BS × BS} (hx : DuoS ea w W' x i' n' a') : Trio ea w W' x y z i' j k n' m o a' b c :=
  ⟨hx, h.hy.other h.hx hE ht (.inr h.xy), h.hz.other h.hx hE ht (.inr h.xz), h.xy, h.yz, h.xz, h.hx.low h.b ht⟩
theorem Trio.runY (h : Trio ea w W x y z i j k n m o a b c) (hE : ErrsB ea w) (ht : Turn y.bs W W') {i' n' : Nat} {b' : BS × BS} (hx : DuoS ea w W' y i' n' b') : Trio ea w W' x y z i i' k n n' o a b' c :=
  ⟨h.hx.other h.hy hE ht (.inl h.xy), hx, h.hz.other h.hy hE ht (.inr h.yz), h.xy, h.yz, h.xz, h.hy.low h.b ht⟩
theorem Trio.runZ (h : Trio ea w W x y z i j k n m o a b c) (hE : ErrsB ea w) (ht : Turn z.bs W W') {i' n' : Nat} {c' : BS × BS} (hx : DuoS ea w W' z i' n' c') : Trio ea w W' x y z i j i' n m n' a b c' :=
  ⟨h.hx.other h.hz hE ht (.inl h.xz), h.hy.other h.hz hE ht (.inl h.yz), hx, h.xy, h.yz, h.xz, h.hz.low h.b ht⟩
end
theorem own_zero {w : World} {B n cap size : Nat} {A : Option Addr} {e : TypeId} {xs : List Value} (h : w.ownsRow B e size (.slice A n cap) n xs) (h0 : 0 < n) : ∃ g, A = some ⟨g, 0, none⟩ := by
  rcases own_two h with ⟨_, h1, _⟩ | h1
  · omega
  · exact h1
set_option maxRecDepth 100000 in
set_option maxHeartbeats 4000000 in
theorem again_walk (ea : Nat → Addr) (A C : Option Addr) (ca cc : Nat) (l o : List Int) (w : World) (hE : ErrsB ea w) (hE9 : ErrsW ea w) (hG : HandleAt w) (hW : CarW w) (hK : ErrsK ea w)
    (hr : Reads w w.heap.size 1 A l.length (l.map intV)) (hro : Reads w w.heap.size 1 C o.length (o.map intV)) (_hlc : l.length ≤ ca) (hoc : o.length ≤ cc) (hv : ∀ z ∈ l, z ≤ 9223372036854775807) (hvo : ∀ z ∈ o, z ≤ 9223372036854775807) (h1 : l.length ≤ 200) (h2 : o.length ≤ 200) :
    Calls Tryz.prog 6 #[.slice A l.length ca, .slice C o.length cc] w (True1 w) := by
  obtain ⟨i0, hi0, hz0, hz1, hz2⟩ := info_parts info_num
  have HWB := Lib.hid (played_any ea w hE hE9 hG hW hK)
  have d1 : decide ((l.length : Int) > 200) = false := by simp; omega
  have d2 : decide ((o.length : Int) > 200) = false := by simp; omega
  have HN : Hid (∀ W, Below w.heap.size w W → Calls Tryz.prog 20 #[] W (NewDuoS ea w W)) := Lib.hid fun W hW => playNewS hE hW
  -- the three runs
  have HRx : Hid (∀ W x y z s1 s2 s3 B A1 c1, Trio ea w W x y z 0 0 0 0 0 0 s1 s2 s3 → W.ownsRow B 3 1 (.slice A1 l.length c1) l.length (l.map intV) → x.H ≤ B → Calls Tryz.prog 21 #[.pointer (some ⟨x.dp, 0, none⟩), .slice A1 l.length c1] W fun e w' => ∃ A' cap n, e = .returned (.slice A' l.length cap) ∧ w'.ownsRow W.heap.size 3 1 (.slice A' l.length cap) l.length ((runS l (s1, 0)).1.map intV) ∧ Trio ea w w' x y z l.length 0 0 n 0 0 (runS l (s1, 0)).2.1 s2 s3) := Lib.hid fun W x y z s1 s2 s3 B A1 c1 h ho hB =>
    (runS_any hE hE9 hG hW hK h.hx (fun W' ht => Reads.of_own (h.hx.row ho hB ht)) (by omega) (own_cap1 ho) hv).mono fun e w' ⟨A', cap, a, b, ⟨n, c⟩, d⟩ => ⟨A', cap, n, a, b, h.runX hE d c⟩
  have HRz : Hid (∀ W x y z i n s1 s2 s3, Trio ea w W x y z i 0 0 n 0 0 s1 s2 s3 → Calls Tryz.prog 21 #[.pointer (some ⟨z.dp, 0, none⟩), .slice C o.length cc] W fun e w' => ∃ A' cap n' c', e = .returned (.slice A' o.length cap) ∧ Trio ea w w' x y z i 0 o.length n 0 n' s1 s2 c' ∧ Turn z.bs W w') := Lib.hid fun W x y z i n s1 s2 s3 h =>
    (runS_any hE hE9 hG hW hK h.hz (fun W' ht => (hro.below (h.hz.low h.b ht)).more (h.hz.low h.b ht).size) (by omega) hoc hvo).mono fun e w' ⟨A', cap, a, b, ⟨n', c⟩, d⟩ => ⟨A', cap, n', _, a, h.runZ hE d c, d⟩
  have HRy : Hid (∀ W x y z i k n o' s1 s2 s3 B A1 c1, Trio ea w W x y z i 0 k n 0 o' s1 s2 s3 → W.ownsRow B 3 1 (.slice A1 l.length c1) l.length (l.map intV) → y.H ≤ B → Calls Tryz.prog 21 #[.pointer (some ⟨y.dp, 0, none⟩), .slice A1 l.length c1] W fun e w' => ∃ A' cap n', e = .returned (.slice A' l.length cap) ∧ w'.ownsRow W.heap.size 3 1 (.slice A' l.length cap) l.length ((runS l (s2, 0)).1.map intV) ∧ Trio ea w w' x y z i l.length k n n' o' s1 (runS l (s2, 0)).2.1 s3 ∧ Turn y.bs W w') := Lib.hid fun W x y z i k n o' s1 s2 s3 B A1 c1 h ho hB =>
    (runS_any hE hE9 hG hW hK h.hy (fun W' ht => Reads.of_own (h.hy.row ho hB ht)) (by omega) (own_cap1 ho) hv).mono fun e w' ⟨A', cap, a, b, ⟨n', c⟩, d⟩ => ⟨A', cap, n', a, b, h.runY hE d c, d⟩
  have HRd := Lib.hid (fun W (hb : Below w.heap.size w W) => (show Reads W W.heap.size 1 A l.length (l.map intV) from (hr.below hb).more hb.size))
  have hone : ∀ u ∈ l.map intV, u.oneCell' = true := fun u hu => by
    obtain ⟨v, _, rfl⟩ := List.mem_map.1 hu
    rfl
  have HOne := Lib.hid hone
  have hrlen : (runS l ((newS c22, newS c22), 0)).1.length = l.length := by have := runS_len l ((newS c22, newS c22), 0) l.length (Nat.le_refl _); rwa [List.take_length] at this
  obtain ⟨R, hR⟩ : ∃ R, R = runS l ((newS c22, newS c22), 0) := ⟨_, rfl⟩
  have HRR := Lib.hid hR
  rw [← hR] at hrlen
  unfold NewDuoS at HN
  clear hE hE9 hG hW hK hr hro _hlc hoc hv hvo hone hR
  go_enter Tryz.func6, Tryz.ntmps6
  go_wp2_with fail
  refine HWB.out.mono ?_
  rintro e w1 ⟨rfl, hb1⟩
  have HN1 := Lib.hid (HN.out w1 hb1)
  have HB1 := Lib.hid hb1
  clear hb1 HWB
  go_wp2_with fail
  refine HN1.out.mono ?_
  rintro e w2 ⟨x, rfl, hx2, hxL, hb2⟩
  have HN2 := Lib.hid (HN.out w2 (below_two HB1.out hb2))
  have HX2 := Lib.hid hx2
  have HB2 := Lib.hid (below_two HB1.out hb2)
  clear hx2 hb2 hxL HN1 HB1
  go_wp2_with fail
  refine HN2.out.mono ?_
  rintro e w3 ⟨y, rfl, hy3, hyL, hb3⟩
  have HN3 := Lib.hid (HN.out w3 (below_two HB2.out hb3))
  have HX3 := Lib.hid (HX2.out.below hb3)
  have HY3 := Lib.hid hy3
  have HXY : Hid (x.H ≤ y.L) := Lib.hid (by have := HX2.out.z; omega)
  have HB3 := Lib.hid (below_two HB2.out hb3)
  clear hy3 hb3 hyL HN2 HB2 HX2
  go_wp2_with fail
  refine HN3.out.mono ?_
  rintro e w4 ⟨z, rfl, hz4, hzL, hb4⟩
  have HT4 : Hid (Trio ea w w4 x y z 0 0 0 0 0 0 (newS c22, newS c22) (newS c22, newS c22) (newS c22, newS c22)) := Lib.hid ⟨HX3.out.below hb4, HY3.out.below hb4, hz4, HXY.out, by have := HY3.out.z; omega, by have := HX3.out.z; omega, below_two HB3.out hb4⟩
  have HR4 := Lib.hid (HRd.out w4 HT4.out.b)
  clear hz4 hb4 hzL HN3 HB3 HX3 HY3 HXY HN
  go_wp2_with (first
    | (at_builtin
       go_must (refine wpList_append_any _ rfl (.tmp 41) (.tmp 42) _ rfl w4.heap.size 3 i0 _ 1 8 Tryz.underlying51 hi0 hz0 hz1 hz2 rfl (by omega) (.slice none 0 0) 0 [] rfl (World.ownsRow_nil _ _ _ _) _ A l.length ca (l.map intV) rfl HR4.out HOne.out (by simp only [maxLen]; omega) (by omega) (Nat.le_refl _) ?_)
       intro v1 w5 hown1 hg1 _
       rw [Nat.zero_add, List.nil_append] at hown1
       obtain ⟨A1, c1, hv1, _⟩ := own_slice hown1
       subst hv1
       have hb5 : Below w4.heap.size w4 w5 := ⟨hg1.os, hg1.tape, hg1.output, hg1.size, fun i hi => hg1.block i hi (by intro h; cases h)⟩
       have HT5 := Lib.hid (HT4.out.below hb5)
       have HR5 := Lib.hid (HRx.out w5 x y z _ _ _ w4.heap.size A1 c1 HT5.out hown1 HT4.out.hx.z)
       rw [← HRR.out] at HR5
       clear hown1 hg1 hb5))
  clear HT4 HR4 HRx
  go_wp2_with fail
  refine HR5.out.mono ?_
  rintro e w6 ⟨A6, c6, n6, rfl, ho6, hT6⟩
  have HO6 := Lib.hid ho6
  have HT6 := Lib.hid hT6
  have HR6 := Lib.hid (HRz.out w6 x y z _ _ _ _ _ hT6)
  clear ho6 hT6 HR5 HRz
  go_wp2_with fail
  refine HR6.out.mono ?_
  rintro e w7 ⟨A7, c7, n7, s7, rfl, hT7, ht7⟩
  have HO7 := Lib.hid (HT6.out.hz.row HO6.out HT5.out.hz.z ht7)
  have HT7 := Lib.hid hT7
  have HR7 := Lib.hid (HRd.out w7 hT7.b)
  clear hT7 ht7 HR6 HO6 HT6
  go_wp2_with (first
    | (at_builtin
       go_must (refine wpList_append_any _ rfl (.tmp 49) (.tmp 50) _ rfl w7.heap.size 3 i0 _ 1 8 Tryz.underlying51 hi0 hz0 hz1 hz2 rfl (by omega) (.slice none 0 0) 0 [] rfl (World.ownsRow_nil _ _ _ _) _ A l.length ca (l.map intV) rfl HR7.out HOne.out (by simp only [maxLen]; omega) (by omega) (Nat.le_refl _) ?_)
       intro v1 w8 hown1 hg1 _
       rw [Nat.zero_add, List.nil_append] at hown1
       obtain ⟨A8, c8, hv1, _⟩ := own_slice hown1
       subst hv1
       have hb8 : Below w7.heap.size w7 w8 := ⟨hg1.os, hg1.tape, hg1.output, hg1.size, fun i hi => hg1.block i hi (by intro h; cases h)⟩
       have HT8 := Lib.hid (HT7.out.below hb8)
       have HO8 := Lib.hid (own_below HO7.out hb8)
       have HR8 := Lib.hid (HRy.out w8 x y z _ _ _ _ _ _ _ w7.heap.size A8 c8 HT8.out hown1 HT7.out.hy.z)
       rw [← HRR.out] at HR8
       clear hown1 hg1 hb8))
  clear HT7 HR7 HRy HO7
  go_wp2_with fail
  refine HR8.out.mono ?_
  rintro e w9 ⟨A9, c9, n9, rfl, ho9, hT9, ht9⟩
  have HO9 := Lib.hid (HT8.out.hy.row HO8.out HT5.out.hy.z ht9)
  have hA6 := Reads.of_own HO9.out
  have hA9 := Reads.of_own ho9
  have HSI : Hid (∀ W', Below w9.heap.size w9 W' → Calls Tryz.prog 22 #[.slice A6 l.length c6, .slice A9 l.length c9] W' fun e w' => e = .returned (.bool true) ∧ ∃ m, w' = W'.drewN m) := Lib.hid fun W' hb => by
    have h := sameInts A6 A9 c6 c9 W'.heap.size R.1 R.1 W' (by rw [hrlen]; exact (hA6.below hb).more hb.size) (by rw [hrlen]; exact (hA9.below hb).more hb.size) (by rw [hrlen]; unfold maxLen; omega) (by rw [hrlen]; unfold maxLen; omega)
    rw [hrlen] at h
    refine h.mono fun e w' ⟨a, b⟩ => ⟨?_, b⟩
    rw [a, decide_eq_true rfl]
  have HSx : Hid (∀ W', Below w9.heap.size w9 W' → W'.cell? ⟨x.dp, 0, none⟩ = some (.pointer (some ⟨x.p.bp, 0, none⟩)) ∧ W'.cell? ⟨x.dp, 1, none⟩ = some (.pointer (some ⟨x.q.bp, 0, none⟩)) ∧ W'.cell? ⟨y.dp, 0, none⟩ = some (.pointer (some ⟨y.p.bp, 0, none⟩)) ∧ W'.cell? ⟨y.dp, 1, none⟩ = some (.pointer (some ⟨y.q.bp, 0, none⟩))) := Lib.hid fun W' hb =>
    ⟨(hT9.hx.a.below hb).dk.cell 0, (hT9.hx.a.below hb).dk.cell 1, (hT9.hy.a.below hb).dk.cell 0, (hT9.hy.a.below hb).dk.cell 1⟩
  have HF1 := Lib.hid (fun W' (hb : Below w9.heap.size w9 W') => flowsB_any W' (hT9.hx.a.below hb).x.b)
  have HF2 := Lib.hid (fun W' (hb : Below w9.heap.size w9 W') => flowsB_any W' (hT9.hy.a.below hb).x.b)
  have HF3 := Lib.hid (fun W' (hb : Below w9.heap.size w9 W') => flowsB_any W' (hT9.hx.a.below hb).y.b)
  have HF4 := Lib.hid (fun W' (hb : Below w9.heap.size w9 W') => flowsB_any W' (hT9.hy.a.below hb).y.b)
  have HL1 : Hid (R.2.1.1.fs.2.length ≤ 1000) := Lib.hid (by have := hT9.hx.a.x.b.f.len; omega)
  have HL2 : Hid (R.2.1.2.fs.2.length ≤ 1000) := Lib.hid (by have := hT9.hx.a.y.b.f.len; omega)
  have HBW := Lib.hid (fun W' (hb : Below w9.heap.size w9 W') => below_two hT9.b hb)
  unfold FlsPost at HF1 HF2 HF3 HF4
  clear hT9 ht9 ho9 hA6 hA9 HO9 HR8 HO8 HT8 HT5 HRR HRd HOne
  generalize R.2.1.1.fs.2 = L1 at *
  generalize R.2.1.2.fs.2 = L2 at *
  have HSF : Hid (∀ (L : List Fl) W' A1 A2 c1 c2, L.length ≤ 1000 → (∃ B, W'.ownsRow B 43 3 (.slice A1 L.length c1) L.length (flsC L)) → (∃ B, W'.ownsRow B 43 3 (.slice A2 L.length c2) L.length (flsC L)) → Calls Tryz.prog 16 #[.slice A1 L.length c1, .slice A2 L.length c2] W' fun e w' => e = .returned (.bool true) ∧ ∃ m, w' = W'.drewN m) := Lib.hid fun L W' A1 A2 c1 c2 hl ⟨B1, o1⟩ ⟨B2, o2⟩ =>
    sameFlows_yes A1 A2 c1 c2 _ _ L W' (Reads.of_own o1) (Reads.of_own o2) (own_zero o1) (own_zero o2) hl
  have hRef := Below.refl w9.heap.size w9
  go_wp2_with fail
  go_region_held3 (fun w' => w'.cell? ⟨x.dp, 0, none⟩ = some (.pointer (some ⟨x.p.bp, 0, none⟩)) ∧ w'.cell? ⟨x.dp, 1, none⟩ = some (.pointer (some ⟨x.q.bp, 0, none⟩)) ∧ w'.cell? ⟨y.dp, 0, none⟩ = some (.pointer (some ⟨y.p.bp, 0, none⟩)) ∧ w'.cell? ⟨y.dp, 1, none⟩ = some (.pointer (some ⟨y.q.bp, 0, none⟩)))
    (first | exact HSx.out _ hbG | exact HSx.out _ hbF | exact HSx.out _ hbE | exact HSx.out _ hbD | exact HSx.out _ hbC | exact HSx.out _ hbB | exact HSx.out _ hbA | exact HSx.out _ (bl_drew hRef) | go_keep)
    (first
      | (go_at_call 22
         refine (HSI.out _ (bl_drew hRef)).mono ?_
         rintro e wA ⟨rfl, mA, rfl⟩
         have hbA := below_drewN hRef (1 + mA))
      | (go_at_call 15
         first
           | (refine (HF4.out _ hbE).mono ?_
              rintro e wF ⟨vF, rfl, oF, hbF'⟩
              obtain ⟨AF, cF, rfl, _⟩ := own_slice oF
              have oE2 := own_below oE hbF'
              have hbF := below_two hbE hbF')
           | (refine (HF3.out _ hbD).mono ?_
              rintro e wE ⟨vE, rfl, oE, hbE'⟩
              obtain ⟨AE, cE, rfl, _⟩ := own_slice oE
              have hbE := below_two hbD hbE')
           | (refine (HF2.out _ hbB).mono ?_
              rintro e wC ⟨vC, rfl, oC, hbC'⟩
              obtain ⟨AC, cC, rfl, _⟩ := own_slice oC
              have oB2 := own_below oB hbC'
              have hbC := below_two hbB hbC')
           | (refine (HF1.out _ hbA).mono ?_
              rintro e wB ⟨vB, rfl, oB, hbB'⟩
              obtain ⟨AB, cB, rfl, _⟩ := own_slice oB
              have hbB := below_two hbA hbB'))
      | (go_at_call 16
         first
           | (refine (HSF.out L2 _ _ _ _ _ HL2.out ⟨_, oE2⟩ ⟨_, oF⟩).mono ?_
              rintro e wG ⟨rfl, mG, rfl⟩
              have hbG := below_drewN hbF mG)
           | (refine (HSF.out L1 _ _ _ _ _ HL1.out ⟨_, oB2⟩ ⟨_, oC⟩).mono ?_
              rintro e wD ⟨rfl, mD, rfl⟩
              have hbD := below_drewN hbC mD)))
  all_goals
    have HBG := Lib.hid (HBW.out _ hbG)
    go_wp2
    go_ret
    exact ⟨rfl, HBG.out⟩
theorem again_any (ea : Nat → Addr) (A C : Option Addr) (ca cc : Nat) (l o : List Int) (w : World) (hE : ErrsB ea w) (hE9 : ErrsW ea w) (hG : HandleAt w) (hW : CarW w) (hK : ErrsK ea w)
    (hr : Reads w w.heap.size 1 A l.length (l.map intV)) (hlc : l.length ≤ ca) (hcm : ca ≤ maxLen) (wf : ∀ n ∈ l, (Lit.int .i64 n).wf = true) (hro : Reads w w.heap.size 1 C o.length (o.map intV)) (hoc : o.length ≤ cc) (hcm2 : cc ≤ maxLen) (wfo : ∀ n ∈ o, (Lit.int .i64 n).wf = true) :
    Calls Tryz.prog 6 #[.slice A l.length ca, .slice C o.length cc] w (True1 w) := by
  by_cases h : 200 < l.length ∨ 200 < o.length
  · exact again_skip ea A C ca cc l.length o.length w hE hE9 hG hW hK (by omega) (by omega) h
  · exact again_walk ea A C ca cc l o w hE hE9 hG hW hK hr hro hlc hoc (fun z hz => (bounds_i64 (wf z hz)).2) (fun z hz => (bounds_i64 (wfo z hz)).2) (by omega) (by omega)
end Go.Proofs.YteilefpjfbholaaGreatDoor
