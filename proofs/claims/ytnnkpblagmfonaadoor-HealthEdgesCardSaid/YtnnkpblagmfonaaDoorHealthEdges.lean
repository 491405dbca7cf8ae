/-
  The law HealthEdges: its walk.
-/
import Derived.Test.YtnnkpblagmfonaaDoorWatched
namespace Go.Proofs.YtnnkpblagmfonaaDoor
open Go.RowKit

abbrev nameX : ByteArray := ⟨#[120]⟩
theorem fault_X : hostsFault [nameX] = none := by decide +kernel
theorem is_oneX {B hp fall rise : Nat} {up : Bool} {looks : Nat} {sv : Value} {ps : List Nat} (w : World) (h : HealthR w B hp fall rise [⟨nameX, up, looks⟩] sv ps) :
    Calls Tryd.prog 23 #[.pointer (some ⟨hp, 0, none⟩), .string nameX] w fun e w' => e = .returned (.bool up) ∧ Below w.heap.size w w' := is_one w h
theorem HealthR.lower {w : World} {B B' hp fall rise : Nat} {st : List St} {sv : Value} {ps : List Nat} (h : HealthR w B hp fall rise st sv ps) (hB : B' ≤ B) : HealthR w B' hp fall rise st sv ps := by
  refine ⟨h.blk, ?_, h.len, h.at_, h.nodup, ⟨Nat.le_trans hB h.base.1, fun p hp => Nat.le_trans hB (h.base.2 p hp)⟩⟩
  rcases h.own.2 with ⟨e, hl⟩ | ⟨g, cap, cur, e, hbase, hrest⟩
  · exact ⟨h.own.1, .inl ⟨e, hl⟩⟩
  · exact ⟨h.own.1, .inr ⟨g, cap, cur, e, Nat.le_trans hB hbase, hrest⟩⟩

set_option maxRecDepth 100000 in
set_option maxHeartbeats 4000000 in
theorem edges_of (ea : Nat → Addr) (A : Option Addr) (c : Nat) (zs : List Int) (fall rise : Nat) (w : World) (hE : Errs3 ea w) (hr : Reads w w.heap.size 1 A zs.length (zs.map (Value.int .i64))) (hl : zs.length ≤ 30)
    (h1 : 1 ≤ fall) (h2 : fall ≤ 10) (h3 : 1 ≤ rise) (h4 : rise ≤ 10) :
    Calls Tryd.prog 6 #[.int .i64 (fall : Int), .int .i64 (rise : Int), .slice A zs.length c] w (True1 w) := by
  have b1 : decide ((fall : Int) < 1) = false := by simp; omega
  have b2 : decide ((fall : Int) > 10) = false := by simp; omega
  have b3 : decide ((rise : Int) < 1) = false := by simp; omega
  have b4 : decide ((rise : Int) > 10) = false := by simp; omega
  have b5 : decide ((zs.length : Int) > 30) = false := by simp; omega
  have HW := Lib.hid (watched_any ea w hE)
  have HE := Lib.hid hE
  clear hE
  go_enter Tryd.func6, Tryd.ntmps6
  go_wp2_with fail
  refine HW.out.mono ?_
  rintro e w1 ⟨rfl, hb1⟩
  have HN := Lib.hid (new_one ea nameX fall rise w1 (HE.out.below hb1) fault_X (by decide) h1 h2 h3 h4)
  go_wp2_with fail
  refine HN.out.mono ?_
  rintro e w2 ⟨hp, sv, ps, rfl, hH, hb2⟩
  have hsz : w.heap.size ≤ (w1.alloc (.cells #[.string nameX] 9)).heap.size := by have := hb1.size; simp; omega
  have hH' := hH.lower hsz
  have hbw : Below w.heap.size w w2 := (hb1.alloc hb1.size _).trans (hb2.mono hsz)
  clear hH hb2 HN HW hsz
  go_wp2_with fail
  go_loopw [10, 11] (fun uv iv wr => ∃ (i : Nat) (up : Bool), i ≤ zs.length ∧ iv = .int .i64 (i : Int) ∧ uv = .bool up ∧ HealthR wr w.heap.size hp fall rise [⟨nameX, up, 0⟩] sv ps ∧ Below w.heap.size w wr) (fun _ iv _ => zs.length - (intOf iv).toNat)
  case atStart => exact ⟨0, true, Nat.zero_le _, rfl, rfl, hH', hbw⟩
  case round =>
    obtain ⟨i, up, hi, rfl, rfl, hH, hb⟩ := hrel
    clear hH' hbw
    by_cases hlt : i < zs.length
    · obtain ⟨ad, u, rfl, hadB, hx, hc⟩ := hr.at_ hlt
      obtain ⟨r, hu⟩ : ∃ r, u = .int .i64 r := by
        rw [List.getElem?_map] at hx
        cases hz : zs[i]? with
        | none => rw [hz] at hx; cases hx
        | some z => rw [hz] at hx; exact ⟨z, (Option.some.inj hx).symm⟩
      subst hu
      have hadB : (ad.add i).block < w.heap.size := by rw [block_of_add]; exact hadB
      have cr0 := hc
      have cr : wr.cell? (ad.add i) = some (.int .i64 r) := (hb.cell hadB).trans hc
      have hlt2 : (i : Int) < zs.length := by omega
      clear hx hc
      by_cases hr1 : r < 0
      · have t1 : decide (r < 0) = true := by simpa using hr1
        clear hr1
        cases up
        all_goals
          go_wp2
          go_roundw
          case rel => exact ⟨i + 1, _, by omega, by go_num, rfl, hH, hb⟩
          case measure => simp [intOf]; omega
      by_cases hr2 : r > 10
      · have t1 : decide (r < 0) = false := by simpa using hr1
        have t2 : decide (r > 10) = true := by simpa using hr2
        clear hr1 hr2
        cases up
        all_goals
          go_wp2
          go_roundw
          case rel => exact ⟨i + 1, _, by omega, by go_num, rfl, hH, hb⟩
          case measure => simp [intOf]; omega
      have t1 : decide (r < 0) = false := by simpa using hr1
      have t2 : decide (r > 10) = false := by simpa using hr2
      obtain ⟨wo, rfl⟩ : ∃ wo : World, wo = wr := ⟨_, rfl⟩
      cases up
      · go_wp2_with fail
        go_loopw [10, 13, 14, 15] (fun uv kv _ _ wi => ∃ j : Nat, uv = .bool false ∧ kv = .int .i64 ((j : Int) + 1) ∧ j < rise ∧ HealthR wi (w.heap.size) hp fall rise [⟨nameX, false, j⟩] sv ps ∧ Below w.heap.size w wi) (fun _ kv _ _ _ => 20 - (intOf kv).toNat)
        case atStart => exact ⟨0, rfl, rfl, by omega, hH, hb⟩
        case round =>
          obtain ⟨j, rfl, rfl, hj, hHi, hbi⟩ := hrel
          have HI := Lib.hid hHi
          have cri : wr.cell? (ad.add i) = some (.int .i64 r) := (hbi.cell hadB).trans cr0
          clear hHi
          by_cases hk : (j : Int) + 1 ≤ r
          · by_cases he : j + 1 < rise
            · have HLK := Lib.hid (fun W (h : Below wr.heap.size wr W) => look_one nameX true ⟨nameX, false, j + 1⟩ false W (HI.out.below h) (Nat.le_trans hbi.size h.size) rfl (by unfold lookSt; simp [he]) (by show j < 100; omega))
              have hne : (((j : Int) + 1) == (rise : Int)) = false := by simp; omega
              go_wp2_with (go_at_call 22; refine (HLK.out _ (Below.refl _ _)).mono ?_; rintro e w2 ⟨rfl, hH2, hb2⟩)
              go_roundw
              case rel => exact ⟨j + 1, rfl, by go_num, by omega, hH2, hbi.trans hb2⟩
              case measure => simp [intOf]; omega
            · have hje : j + 1 = rise := by omega
              have HLK := Lib.hid (fun W (h : Below wr.heap.size wr W) => look_one nameX true ⟨nameX, true, 0⟩ true W (HI.out.below h) (Nat.le_trans hbi.size h.size) rfl (by unfold lookSt; simp [he]) (by show j < 100; omega))
              have heq : (((j : Int) + 1) == (rise : Int)) = true := by simp; omega
              clear he hje
              go_wp2_with fail
              refine (HLK.out _ (Below.refl _ _)).mono ?_
              rintro e w2 ⟨rfl, hH2, hb2⟩
              have H2 := Lib.hid hH2
              have B2 := Lib.hid (hbi.trans hb2)
              clear hH2 hb2
              go_wp2_with fail
              refine (is_oneX _ H2.out).mono ?_
              rintro e w3 ⟨rfl, hb3⟩
              have H3 := Lib.hid (H2.out.below hb3)
              have B3 := Lib.hid (B2.out.trans (hb3.mono B2.out.size))
              clear hb3
              go_wp2_with fail
              refine (look_one nameX true ⟨nameX, true, 0⟩ false _ H3.out B3.out.size rfl rfl (by decide)).mono ?_
              rintro e w4 ⟨rfl, hH4, hb4⟩
              go_wp2
              go_roundw
              case rel => exact ⟨i + 1, true, by omega, by go_num, rfl, hH4, B3.out.trans hb4⟩
              case measure => simp [intOf]; omega
          · have hk' : decide ((j : Int) + 1 ≤ r) = false := by simpa using hk
            clear hk
            go_wp2_with fail
            refine (is_oneX _ HI.out).mono ?_
            rintro e w3 ⟨rfl, hb3⟩
            have H3 := Lib.hid (HI.out.below hb3)
            have B3 := Lib.hid (hbi.trans (hb3.mono hbi.size))
            clear hb3
            go_wp2_with fail
            refine (look_one nameX false ⟨nameX, false, 0⟩ false _ H3.out B3.out.size rfl rfl (by show j < 100; omega)).mono ?_
            rintro e w4 ⟨rfl, hH4, hb4⟩
            go_wp2
            go_roundw
            case rel => exact ⟨i + 1, false, by omega, by go_num, rfl, hH4, B3.out.trans hb4⟩
            case measure => simp [intOf]; omega
      · go_wp2_with fail
        go_loopw [10, 13, 14, 15] (fun uv kv _ _ wi => ∃ j : Nat, uv = .bool true ∧ kv = .int .i64 ((j : Int) + 1) ∧ j < fall ∧ HealthR wi (w.heap.size) hp fall rise [⟨nameX, true, j⟩] sv ps ∧ Below w.heap.size w wi) (fun _ kv _ _ _ => 20 - (intOf kv).toNat)
        case atStart => exact ⟨0, rfl, rfl, by omega, hH, hb⟩
        case round =>
          obtain ⟨j, rfl, rfl, hj, hHi, hbi⟩ := hrel
          have HI := Lib.hid hHi
          have cri : wr.cell? (ad.add i) = some (.int .i64 r) := (hbi.cell hadB).trans cr0
          clear hHi
          by_cases hk : (j : Int) + 1 ≤ r
          · by_cases he : j + 1 < fall
            · have HLK := Lib.hid (fun W (h : Below wr.heap.size wr W) => look_one nameX false ⟨nameX, true, j + 1⟩ false W (HI.out.below h) (Nat.le_trans hbi.size h.size) rfl (by unfold lookSt; simp [he]) (by show j < 100; omega))
              have hne : (((j : Int) + 1) == (fall : Int)) = false := by simp; omega
              go_wp2_with (go_at_call 22; refine (HLK.out _ (Below.refl _ _)).mono ?_; rintro e w2 ⟨rfl, hH2, hb2⟩)
              go_roundw
              case rel => exact ⟨j + 1, rfl, by go_num, by omega, hH2, hbi.trans hb2⟩
              case measure => simp [intOf]; omega
            · have hje : j + 1 = fall := by omega
              have HLK := Lib.hid (fun W (h : Below wr.heap.size wr W) => look_one nameX false ⟨nameX, false, 0⟩ true W (HI.out.below h) (Nat.le_trans hbi.size h.size) rfl (by unfold lookSt; simp [he]) (by show j < 100; omega))
              have heq : (((j : Int) + 1) == (fall : Int)) = true := by simp; omega
              clear he hje
              go_wp2_with fail
              refine (HLK.out _ (Below.refl _ _)).mono ?_
              rintro e w2 ⟨rfl, hH2, hb2⟩
              have H2 := Lib.hid hH2
              have B2 := Lib.hid (hbi.trans hb2)
              clear hH2 hb2
              go_wp2_with fail
              refine (is_oneX _ H2.out).mono ?_
              rintro e w3 ⟨rfl, hb3⟩
              have H3 := Lib.hid (H2.out.below hb3)
              have B3 := Lib.hid (B2.out.trans (hb3.mono B2.out.size))
              clear hb3
              go_wp2_with fail
              refine (look_one nameX false ⟨nameX, false, 0⟩ false _ H3.out B3.out.size rfl rfl (by decide)).mono ?_
              rintro e w4 ⟨rfl, hH4, hb4⟩
              go_wp2
              go_roundw
              case rel => exact ⟨i + 1, false, by omega, by go_num, rfl, hH4, B3.out.trans hb4⟩
              case measure => simp [intOf]; omega
          · have hk' : decide ((j : Int) + 1 ≤ r) = false := by simpa using hk
            clear hk
            go_wp2_with fail
            refine (is_oneX _ HI.out).mono ?_
            rintro e w3 ⟨rfl, hb3⟩
            have H3 := Lib.hid (HI.out.below hb3)
            have B3 := Lib.hid (hbi.trans (hb3.mono hbi.size))
            clear hb3
            go_wp2_with fail
            refine (look_one nameX true ⟨nameX, true, 0⟩ false _ H3.out B3.out.size rfl rfl (by show j < 100; omega)).mono ?_
            rintro e w4 ⟨rfl, hH4, hb4⟩
            go_wp2
            go_roundw
            case rel => exact ⟨i + 1, true, by omega, by go_num, rfl, hH4, B3.out.trans hb4⟩
            case measure => simp [intOf]; omega
    · have hge : decide (i < zs.length) = false := by simp; omega
      have hge2 : (zs.length : Int) ≤ i := by omega
      go_wp2
      go_ret
      exact ⟨rfl, hb⟩
theorem edges_skip0 (ea : Nat → Addr) (A : Option Addr) (n c : Nat) (fall rise : Int) (w : World) (hE : Errs3 ea w) (t0 : decide (fall < 1) = true) :
    Calls Tryd.prog 6 #[.int .i64 fall, .int .i64 rise, .slice A n c] w (True1 w) := by
  have HW := Lib.hid (watched_any ea w hE)
  clear hE
  go_enter Tryd.func6, Tryd.ntmps6
  go_wp2_with fail
  refine HW.out.mono ?_
  rintro e w1 ⟨rfl, hb1⟩
  go_wp2
  go_ret
  exact ⟨rfl, hb1⟩
theorem edges_skip1 (ea : Nat → Addr) (A : Option Addr) (n c : Nat) (fall rise : Int) (w : World) (hE : Errs3 ea w) (t0 : decide (fall < 1) = false) (t1 : decide (fall > 10) = true) :
    Calls Tryd.prog 6 #[.int .i64 fall, .int .i64 rise, .slice A n c] w (True1 w) := by
  have HW := Lib.hid (watched_any ea w hE)
  clear hE
  go_enter Tryd.func6, Tryd.ntmps6
  go_wp2_with fail
  refine HW.out.mono ?_
  rintro e w1 ⟨rfl, hb1⟩
  go_wp2
  go_ret
  exact ⟨rfl, hb1⟩
theorem edges_skip2 (ea : Nat → Addr) (A : Option Addr) (n c : Nat) (fall rise : Int) (w : World) (hE : Errs3 ea w) (t0 : decide (fall < 1) = false) (t1 : decide (fall > 10) = false) (t2 : decide (rise < 1) = true) :
    Calls Tryd.prog 6 #[.int .i64 fall, .int .i64 rise, .slice A n c] w (True1 w) := by
  have HW := Lib.hid (watched_any ea w hE)
  clear hE
  go_enter Tryd.func6, Tryd.ntmps6
  go_wp2_with fail
  refine HW.out.mono ?_
  rintro e w1 ⟨rfl, hb1⟩
  go_wp2
  go_ret
  exact ⟨rfl, hb1⟩
theorem edges_skip3 (ea : Nat → Addr) (A : Option Addr) (n c : Nat) (fall rise : Int) (w : World) (hE : Errs3 ea w) (t0 : decide (fall < 1) = false) (t1 : decide (fall > 10) = false) (t2 : decide (rise < 1) = false) (t3 : decide (rise > 10) = true) :
    Calls Tryd.prog 6 #[.int .i64 fall, .int .i64 rise, .slice A n c] w (True1 w) := by
  have HW := Lib.hid (watched_any ea w hE)
  clear hE
  go_enter Tryd.func6, Tryd.ntmps6
  go_wp2_with fail
  refine HW.out.mono ?_
  rintro e w1 ⟨rfl, hb1⟩
  go_wp2
  go_ret
  exact ⟨rfl, hb1⟩
theorem edges_skip4 (ea : Nat → Addr) (A : Option Addr) (n c : Nat) (fall rise : Int) (w : World) (hE : Errs3 ea w) (t0 : decide (fall < 1) = false) (t1 : decide (fall > 10) = false) (t2 : decide (rise < 1) = false) (t3 : decide (rise > 10) = false) (t4 : decide ((n : Int) > 30) = true) :
    Calls Tryd.prog 6 #[.int .i64 fall, .int .i64 rise, .slice A n c] w (True1 w) := by
  have HW := Lib.hid (watched_any ea w hE)
  clear hE
  go_enter Tryd.func6, Tryd.ntmps6
  go_wp2_with fail
  refine HW.out.mono ?_
  rintro e w1 ⟨rfl, hb1⟩
  go_wp2
  go_ret
  exact ⟨rfl, hb1⟩
theorem healthEdges_any (ea : Nat → Addr) (A : Option Addr) (c : Nat) (zs : List Int) (fall rise : Int) (w : World) (hE : Errs3 ea w) (hr : Reads w w.heap.size 1 A zs.length (zs.map (Value.int .i64))) :
    Calls Tryd.prog 6 #[.int .i64 fall, .int .i64 rise, .slice A zs.length c] w (True1 w) := by
  by_cases h0 : fall < 1
  · exact edges_skip0 ea A zs.length c fall rise w hE (by simpa using h0)
  by_cases h1 : fall > 10
  · exact edges_skip1 ea A zs.length c fall rise w hE (by simpa using h0) (by simpa using h1)
  by_cases h2 : rise < 1
  · exact edges_skip2 ea A zs.length c fall rise w hE (by simpa using h0) (by simpa using h1) (by simpa using h2)
  by_cases h3 : rise > 10
  · exact edges_skip3 ea A zs.length c fall rise w hE (by simpa using h0) (by simpa using h1) (by simpa using h2) (by simpa using h3)
  by_cases h4 : (zs.length : Int) > 30
  · exact edges_skip4 ea A zs.length c fall rise w hE (by simpa using h0) (by simpa using h1) (by simpa using h2) (by simpa using h3) (decide_eq_true h4)
  obtain ⟨f, rfl⟩ := Int.eq_ofNat_of_zero_le (show 0 ≤ fall by omega)
  obtain ⟨r, rfl⟩ := Int.eq_ofNat_of_zero_le (show 0 ≤ rise by omega)
  exact edges_of ea A c zs f r w hE hr (by omega) (by omega) (by omega) (by omega) (by omega)
end Go.Proofs.YtnnkpblagmfonaaDoor
