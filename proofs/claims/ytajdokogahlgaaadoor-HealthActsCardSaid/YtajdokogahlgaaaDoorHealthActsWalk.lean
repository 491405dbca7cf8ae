/-
  The law HealthActs: its walk where all is right.
-/
import Derived.Test.YtajdokogahlgaaaDoorHealthActs
namespace Go.Proofs.YtajdokogahlgaaaDoor
open Go.RowKit

set_option maxRecDepth 100000 in
set_option maxHeartbeats 4000000 in
theorem acts_good (ea : Nat → Addr) (A : Option Addr) (c : Nat) (l : List ByteArray) (fall rise : Nat) (A2 : Option Addr) (c2 : Nat) (acts : List ActV) (w : World) (hE : ErrsW ea w) (hG : HandleAt w) (hI : ActsIn w A c l A2 c2 acts) (hL : longH l = false) (hn : acts.length ≤ 100)
    (hf : healthFault l fall rise = none) :
    Calls Tryd.prog 4 #[.slice A l.length c, .int .i64 (fall : Int), .int .i64 (rise : Int), .slice A2 acts.length c2] w (True1 w) := by
  have hff : hostsFault l = none ∧ edgesOk fall rise := by
    unfold healthFault at hf
    split at hf
    · cases hf
    · split at hf
      · exact ⟨‹_›, ‹_›⟩
      · cases hf
  obtain ⟨hho, hed⟩ := hff
  have hed' := hed
  unfold edgesOk at hed'
  have hl12 : l.length ≤ 12 := by
    rcases Nat.lt_or_ge 12 l.length with h | h
    · unfold hostsFault at hho; rw [if_pos h] at hho; cases hho
    · exact h
  have HL : Hid (∀ W, Below w.heap.size w W → Calls Tryd.prog 18 #[.slice A l.length c] W (LongIs false W)) :=
    Lib.hid fun W hW => by rw [← hL]; exact longHosts_any A c W.heap.size l W (hI.below hW).r (Nat.le_trans hI.lc hI.cm) hI.s
  have HW := Lib.hid (watched_any ea w hE.errs3)
  have t1 : decide ((acts.length : Int) > 100) = false := by simp; omega
  have HI := Lib.hid hI
  have HE := Lib.hid hE
  have HG := Lib.hid hG
  have HF : Hid (∀ W, Below w.heap.size w W → Calls Tryd.prog 21 #[.slice A l.length c, .int .i64 (fall : Int), .int .i64 (rise : Int)] W fun e w' => e = .returned (.agg #[.int .i64 0, .int .i64 (-1)]) ∧ Below W.heap.size W w') :=
    Lib.hid fun W hW => by
      show Calls _ _ _ _ (FaultPost none W)
      rw [← hf]; exact healthFault_ref A c W.heap.size l fall rise W (hI.below hW).r (Nat.le_refl _) (Nat.le_trans hI.lc hI.cm) hI.s
  have HN : Hid (∀ W A' c', Below w.heap.size w W → Reads W W.heap.size 1 A' l.length (strV l) → l.length ≤ c' → Calls Tryd.prog 19 #[.slice A' l.length c', .int .i64 (fall : Int), .int .i64 (rise : Int)] W fun e w' =>
      ∃ hp sv ps, e = .returned (.tuple #[ptr hp, .nilIface]) ∧ HealthR w' W.heap.size hp fall rise (fresh l) sv ps ∧ Below W.heap.size W w') :=
    Lib.hid fun W A' c' hW hr hc => new_ok ea A' c' W.heap.size l fall rise W (hE.below hW).errs3 hr (Nat.le_refl _) hc (Nat.le_trans hI.lc hI.cm) hI.s hho hl12 (by omega) (by omega) (by omega) (by omega)
  have HNR : Hid (∀ W, Below w.heap.size w W → Calls Tryd.prog 23 #[.slice A l.length c, .int .i64 (fall : Int), .int .i64 (rise : Int)] W (NewRef l fall rise W)) :=
    Lib.hid fun W hW => refNew A c W.heap.size l fall rise W (hI.below hW).r (Nat.le_refl _) hl12
  have hf1 : 1 ≤ fall := by omega
  have hr1 : 1 ≤ rise := by omega
  clear hE hG hI hf hL hho hed hed'
  go_enter Tryd.func4, Tryd.ntmps4
  go_wp2_with fail
  refine HW.out.mono ?_
  rintro e w1 ⟨rfl, hb1⟩
  go_wp2_with fail
  refine (HL.out _ hb1).mono ?_
  rintro e w2 ⟨rfl, rfl⟩
  go_wp2_with fail
  refine (ownTexts_any A l.length c w1.heap.size (strV l) w1 (HI.out.below hb1).r (by simp [strV, Value.oneCell']) (by omega)).mono ?_
  rintro e w2 ⟨A', c', rfl, ho2, hb2⟩
  have hb12 := below_two hb1 hb2
  have hr2 := Reads.of_own ho2
  have hnc := own_ncap ho2
  go_wp2_with fail
  refine (HN.out _ _ _ hb12 hr2 hnc).mono ?_
  rintro e w3 ⟨hp, sv, ps, rfl, hH3, hb3⟩
  have hb13 := below_two hb12 hb3
  have HH3 : Hid (HAt w.heap.size hp fall rise (fresh l) w3) := Lib.hid ⟨sv, ps, hH3.mono hb12.size⟩
  clear hH3
  unfold ptr
  go_wp2_with fail
  refine (HF.out _ hb13).mono ?_
  rintro e w4 ⟨rfl, hb4⟩
  have hb14 := below_two hb13 hb4
  have hbx := hb14.alloc hb14.size (.cells #[.int .i64 0, .int .i64 (-1)] 47)
  have HR5 := Lib.hid (HNR.out _ hbx)
  have HH5 := Lib.hid ((HH3.out.below hb4).below ((Below.refl w4.heap.size w4).alloc (Nat.le_refl _) (.cells #[.int .i64 0, .int .i64 (-1)] 47)))
  have HBX := Lib.hid hbx
  clear hbx
  go_wp2_with fail
  refine HR5.out.mono ?_
  rintro e w5 ⟨mp, sv5, vs5, rfl, hM5, hb5⟩
  have HM5 : Hid (MAt w.heap.size mp fall rise (rfresh l) w5) := Lib.hid ⟨sv5, vs5, hM5.mono HBX.out.size⟩
  have HH6 := Lib.hid (HH5.out.below hb5)
  have hb15 := below_two HBX.out hb5
  unfold ptr
  clear hM5
  go_wp2_with fail
  go_loopw [14] (fun iv wr => ∃ (k : Nat) (st : List St) (rs : List Rt), k ≤ acts.length ∧ iv = .int .i64 (k : Int) ∧ Hid (HAt w.heap.size hp fall rise st wr) ∧ Hid (MAt w.heap.size mp fall rise rs wr) ∧ Hid (Mt st rs k) ∧ Below w.heap.size w wr) (fun iv _ => acts.length - (intOf iv).toNat)
  case atStart => exact ⟨0, fresh l, rfresh l, Nat.zero_le _, rfl, HH6, HM5, Lib.hid (Mt.fresh l hl12), hb15⟩
  case round =>
    obtain ⟨k, st, rs, hk, rfl, hh, hm, ht, hbr⟩ := hrel
    by_cases hlt : k < acts.length
    · obtain ⟨ad, hA, hc⟩ := actAt_of HI.out.r2 hbr hlt
      subst hA
      have hsz := HI.out.s2 _ (List.getElem_mem hlt)
      generalize acts[k] = a at *
      obtain ⟨kc0, kc1, kc2⟩ := hc
      have hlt2 : (k : Int) < acts.length := by omega
      have HNow : Hid (Now w (wr.alloc (.cells #[.string a.kind, .string a.host, .bool a.well] 53)) hp mp wr.heap.size fall rise st rs a) :=
        Lib.hid ⟨hh.out.below ((Below.refl _ _).alloc (Nat.le_refl _) _), hm.out.below ((Below.refl _ _).alloc (Nat.le_refl _) _), hbr.alloc hbr.size _, Blk.new _ _ _⟩
      have hstl : st.length ≤ 100 := by have := ht.out.le; omega
      have hrsl : rs.length ≤ 100 := by have := ht.out.len; omega
      have hsz60 : a.host.size ≤ 9223372036854775807 := hsz
      by_cases h60 : 60 < a.host.size
      · have t6 : decide ((a.host.size : Int) > 60) = true := by simp; omega
        go_wp2
        go_ret
        exact ⟨rfl, hbr.alloc hbr.size _⟩
      · have t6 : decide ((a.host.size : Int) > 60) = false := by simp; omega
        cases ka : (a.kind.toList == [97, 100, 100]) with
        | true =>
          go_wp2_with fail
          generalize wr.alloc (.cells #[.string a.kind, .string a.host, .bool a.well] 53) = W0 at *
          have ks : W0.cell? ⟨wr.heap.size, 1, none⟩ = some (.string a.host) := HNow.out.c1
          have ks0 : W0.cell? ⟨wr.heap.size, 0, none⟩ = some (.string a.kind) := HNow.out.c0
          have ks2 : W0.cell? ⟨wr.heap.size, 2, none⟩ = some (.bool a.well) := HNow.out.c2
          have hcl := addCode_le (hosts st) a.host
          have heq : Hid (addCode (rhosts rs) a.host = addCode (hosts st) a.host) := Lib.hid (by rw [ht.out.hosts])
          go_region_held3 (fun w' => w'.cell? ⟨wr.heap.size, 1, none⟩ = some (.string a.host)) (first | exact ks | exact n6.c1 | exact n7.c1 | exact n8.c1 | go_keep)
            (first
              | (go_at_call 25; refine (now_add HE.out HNow.out.drew (by omega) hsz).mono ?_; rintro e w6 ⟨rfl, n6⟩)
              | (go_at_call 26; refine (now_refAdd n6 (by omega) hsz).mono ?_; rintro e w7 ⟨rfl, n7⟩; rw [heq.out])
              | (go_at_call 24; refine (now_coded HE.out HG.out n7 _ hcl).mono ?_; rintro e w8 ⟨rfl, n8⟩))
          clear heq hcl
          have hmt : Hid (Mt (addSt st a.host) (addRt rs a.host) (k + 1)) := Lib.hid ((ht.out.add a.host).mono (by omega))
          have hstl2 : (addSt st a.host).length ≤ 100 := Nat.le_trans hmt.out.le (by omega)
          have hrsl2 : (addRt rs a.host).length ≤ 100 := by rw [← hmt.out.len]; exact hstl2
          have HN9 := Lib.hid n8
          clear n8
          generalize (addSt st a.host) = st2 at *
          generalize (addRt rs a.host) = rs2 at *
          obtain ⟨b, hb⟩ : ∃ b, rUp rs2 a.host = b := ⟨_, rfl⟩
          obtain ⟨us, hus⟩ : ∃ us, rups rs2 = us := ⟨_, rfl⟩
          have hul : us.length ≤ 100 := by
            rw [← hus]
            have := rups_le rs2 rs2.length
            rw [List.take_length] at this
            omega
          have HIs : Hid (∀ W, Now w W hp mp wr.heap.size fall rise st2 rs2 a → Calls Tryd.prog 31 #[ptr hp, .string a.host] W (Then (.bool b) fun w' => Now w w' hp mp wr.heap.size fall rise st2 rs2 a)) :=
            Lib.hid fun W h => by rw [← hb, ← hmt.out.upOf]; exact now_is h
          have HRs : Hid (∀ W, Now w W hp mp wr.heap.size fall rise st2 rs2 a → Calls Tryd.prog 32 #[ptr mp, .string a.host] W (Then (.bool b) fun w' => Now w w' hp mp wr.heap.size fall rise st2 rs2 a)) :=
            Lib.hid fun W h => by rw [← hb]; exact now_refIs h (by omega)
          have HUp : Hid (∀ W, Now w W hp mp wr.heap.size fall rise st2 rs2 a → Calls Tryd.prog 34 #[ptr hp] W fun e w' => ∃ A cap, e = .returned (.slice A us.length cap) ∧ Reads w' w'.heap.size 1 A us.length (strV us) ∧ Now w w' hp mp wr.heap.size fall rise st2 rs2 a) :=
            Lib.hid fun W h => by rw [← hus, ← hmt.out.ups]; exact now_up h hstl2
          have HUr : Hid (∀ W, Now w W hp mp wr.heap.size fall rise st2 rs2 a → Calls Tryd.prog 35 #[ptr mp] W fun e w' => ∃ A cap, e = .returned (.slice A us.length cap) ∧ Reads w' w'.heap.size 1 A us.length (strV us) ∧ Below W.heap.size W w' ∧ Now w w' hp mp wr.heap.size fall rise st2 rs2 a) :=
            Lib.hid fun W h => by rw [← hus]; exact now_ups h hrsl2
          have ks8 := HN9.out.c1
          unfold ptr at HIs HRs HUp HUr
          clear hb hus
          cases b
          all_goals
            go_wp2_with fail
            go_region_held3 (fun w' => w'.cell? ⟨wr.heap.size, 1, none⟩ = some (.string a.host)) (first | exact ks8 | exact n10.c1 | exact n11.c1 | exact n12.c1 | exact n13.c1 | exact n14.c1 | go_keep)
              (first
                | (go_at_call 31; refine (HIs.out _ HN9.out.drew).mono ?_; rintro e w10 ⟨rfl, n10⟩)
                | (go_at_call 32; refine (HRs.out _ n10).mono ?_; rintro e w11 ⟨rfl, n11⟩)
                | (go_at_call 34; refine (HUp.out _ n11).mono ?_; rintro e w12 ⟨Au, cu, rfl, ru, n12⟩)
                | (go_at_call 35; refine (HUr.out _ n12).mono ?_; rintro e w13 ⟨Av, cv, rfl, rv, bv, n13⟩)
                | (go_at_call 33; refine (sameTexts_yes _ _ _ _ w13.heap.size us w13 ((ru.below bv).more bv.size) rv (by unfold maxLen; omega)).mono ?_; rintro e w14 ⟨rfl, m14, rfl⟩; have n14 := n13.drewN m14))
            go_wp2
            go_roundw
            case rel => exact ⟨k + 1, _, _, by omega, by go_num, Lib.hid n14.h, Lib.hid n14.m, hmt, n14.b⟩
            case measure => simp [intOf]; omega
        | false =>
          cases kr : (a.kind.toList == [114, 101, 109, 111, 118, 101]) with
          | true =>
            go_wp2_with fail
            generalize wr.alloc (.cells #[.string a.kind, .string a.host, .bool a.well] 53) = W0 at *
            have ks : W0.cell? ⟨wr.heap.size, 1, none⟩ = some (.string a.host) := HNow.out.c1
            have ks0 : W0.cell? ⟨wr.heap.size, 0, none⟩ = some (.string a.kind) := HNow.out.c0
            have ks2 : W0.cell? ⟨wr.heap.size, 2, none⟩ = some (.bool a.well) := HNow.out.c2
            have hcl := remCode_le (hosts st) a.host
            have heq : Hid (remCode (rhosts rs) a.host = remCode (hosts st) a.host) := Lib.hid (by rw [ht.out.hosts])
            go_region_held3 (fun w' => w'.cell? ⟨wr.heap.size, 1, none⟩ = some (.string a.host)) (first | exact ks | exact n6.c1 | exact n7.c1 | exact n8.c1 | go_keep)
              (first
                | (go_at_call 27; refine (now_remove HE.out HNow.out.drew (by omega)).mono ?_; rintro e w6 ⟨rfl, n6⟩)
                | (go_at_call 28; refine (now_refRemove n6 (by omega)).mono ?_; rintro e w7 ⟨rfl, n7⟩; rw [heq.out])
                | (go_at_call 24; refine (now_coded HE.out HG.out n7 _ hcl).mono ?_; rintro e w8 ⟨rfl, n8⟩))
            clear heq hcl
            have hmt : Hid (Mt (remAt st (idx (hosts st) a.host)) (remAt rs (idx (rhosts rs) a.host)) (k + 1)) := Lib.hid (by rw [ht.out.hosts]; exact (ht.out.rem _).mono (by omega))
            have hstl2 : (remAt st (idx (hosts st) a.host)).length ≤ 100 := Nat.le_trans hmt.out.le (by omega)
            have hrsl2 : (remAt rs (idx (rhosts rs) a.host)).length ≤ 100 := by rw [← hmt.out.len]; exact hstl2
            have HN9 := Lib.hid n8
            clear n8
            generalize (remAt st (idx (hosts st) a.host)) = st2 at *
            generalize (remAt rs (idx (rhosts rs) a.host)) = rs2 at *
            obtain ⟨b, hb⟩ : ∃ b, rUp rs2 a.host = b := ⟨_, rfl⟩
            obtain ⟨us, hus⟩ : ∃ us, rups rs2 = us := ⟨_, rfl⟩
            have hul : us.length ≤ 100 := by
              rw [← hus]
              have := rups_le rs2 rs2.length
              rw [List.take_length] at this
              omega
            have HIs : Hid (∀ W, Now w W hp mp wr.heap.size fall rise st2 rs2 a → Calls Tryd.prog 31 #[ptr hp, .string a.host] W (Then (.bool b) fun w' => Now w w' hp mp wr.heap.size fall rise st2 rs2 a)) :=
              Lib.hid fun W h => by rw [← hb, ← hmt.out.upOf]; exact now_is h
            have HRs : Hid (∀ W, Now w W hp mp wr.heap.size fall rise st2 rs2 a → Calls Tryd.prog 32 #[ptr mp, .string a.host] W (Then (.bool b) fun w' => Now w w' hp mp wr.heap.size fall rise st2 rs2 a)) :=
              Lib.hid fun W h => by rw [← hb]; exact now_refIs h (by omega)
            have HUp : Hid (∀ W, Now w W hp mp wr.heap.size fall rise st2 rs2 a → Calls Tryd.prog 34 #[ptr hp] W fun e w' => ∃ A cap, e = .returned (.slice A us.length cap) ∧ Reads w' w'.heap.size 1 A us.length (strV us) ∧ Now w w' hp mp wr.heap.size fall rise st2 rs2 a) :=
              Lib.hid fun W h => by rw [← hus, ← hmt.out.ups]; exact now_up h hstl2
            have HUr : Hid (∀ W, Now w W hp mp wr.heap.size fall rise st2 rs2 a → Calls Tryd.prog 35 #[ptr mp] W fun e w' => ∃ A cap, e = .returned (.slice A us.length cap) ∧ Reads w' w'.heap.size 1 A us.length (strV us) ∧ Below W.heap.size W w' ∧ Now w w' hp mp wr.heap.size fall rise st2 rs2 a) :=
              Lib.hid fun W h => by rw [← hus]; exact now_ups h hrsl2
            have ks8 := HN9.out.c1
            unfold ptr at HIs HRs HUp HUr
            clear hb hus
            cases b
            all_goals
              go_wp2_with fail
              go_region_held3 (fun w' => w'.cell? ⟨wr.heap.size, 1, none⟩ = some (.string a.host)) (first | exact ks8 | exact n10.c1 | exact n11.c1 | exact n12.c1 | exact n13.c1 | exact n14.c1 | go_keep)
                (first
                  | (go_at_call 31; refine (HIs.out _ HN9.out.drew).mono ?_; rintro e w10 ⟨rfl, n10⟩)
                  | (go_at_call 32; refine (HRs.out _ n10).mono ?_; rintro e w11 ⟨rfl, n11⟩)
                  | (go_at_call 34; refine (HUp.out _ n11).mono ?_; rintro e w12 ⟨Au, cu, rfl, ru, n12⟩)
                  | (go_at_call 35; refine (HUr.out _ n12).mono ?_; rintro e w13 ⟨Av, cv, rfl, rv, bv, n13⟩)
                  | (go_at_call 33; refine (sameTexts_yes _ _ _ _ w13.heap.size us w13 ((ru.below bv).more bv.size) rv (by unfold maxLen; omega)).mono ?_; rintro e w14 ⟨rfl, m14, rfl⟩; have n14 := n13.drewN m14))
              go_wp2
              go_roundw
              case rel => exact ⟨k + 1, _, _, by omega, by go_num, Lib.hid n14.h, Lib.hid n14.m, hmt, n14.b⟩
              case measure => simp [intOf]; omega
          | false =>
            go_wp2_with fail
            generalize wr.alloc (.cells #[.string a.kind, .string a.host, .bool a.well] 53) = W0 at *
            have ks : W0.cell? ⟨wr.heap.size, 1, none⟩ = some (.string a.host) := HNow.out.c1
            have ks0 : W0.cell? ⟨wr.heap.size, 0, none⟩ = some (.string a.kind) := HNow.out.c0
            have ks2 : W0.cell? ⟨wr.heap.size, 2, none⟩ = some (.bool a.well) := HNow.out.c2
            have hcl := remCode_le (hosts st) a.host
            have heq : Hid (remCode (rhosts rs) a.host = remCode (hosts st) a.host) := Lib.hid (by rw [ht.out.hosts])
            have hlk := ht.out.look (fall := fall) (rise := rise) (idx (hosts st) a.host) a.well hf1 hr1
            have HLK := Lib.hid hlk.2
            have HL2 := Lib.hid hlk.1
            have HIX : Hid (idx (rhosts rs) a.host = idx (hosts st) a.host) := Lib.hid (by rw [ht.out.hosts])
            have HA1 := Lib.hid (now_look HE.out HNow.out (ht.out.looks (by omega)))
            have HA2 : Hid (∀ W st', Now w W hp mp wr.heap.size fall rise st' rs a → Calls Tryd.prog 30 #[ptr mp, .string a.host, .bool a.well] W (Then (.tuple #[.bool (lookAll st (idx (hosts st) a.host) fun s => lookSt fall rise s a.well).2, .int .i64 (remCode (hosts st) a.host : Int)]) fun w' => Now w w' hp mp wr.heap.size fall rise st' (lookAll rs (idx (hosts st) a.host) fun r => lookR fall rise r a.well).1 a)) :=
              Lib.hid fun W st' h => by
                have := now_refLook h (by omega) (ht.out.rlooks (by omega))
                rwa [HIX.out, heq.out, ← HL2.out] at this
            clear hlk
            generalize (lookAll st (idx (hosts st) a.host) fun s => lookSt fall rise s a.well) = q at *
            generalize (lookAll rs (idx (hosts st) a.host) fun r => lookR fall rise r a.well) = q2 at *
            obtain ⟨stq, bq⟩ := q
            obtain ⟨rsq, bq2⟩ := q2
            dsimp only at HLK HL2 HA1 HA2
            unfold ptr at HA1 HA2
            cases bq
            all_goals
              go_wp2_with fail
              refine HA1.out.mono ?_
              rintro e w6 ⟨rfl, n6⟩
              have ks6 := n6.c1
              have kt6 := n6.c2
              go_wp2_with fail
              refine (HA2.out _ _ n6).mono ?_
              rintro e w7 ⟨rfl, n7⟩
              go_wp2_with fail
              refine (now_coded HE.out HG.out n7 _ hcl).mono ?_
              rintro e w8 ⟨rfl, n8⟩
              have hmt : Hid (Mt (stq) (rsq) (k + 1)) := Lib.hid (HLK.out)
              have hstl2 : (stq).length ≤ 100 := Nat.le_trans hmt.out.le (by omega)
              have hrsl2 : (rsq).length ≤ 100 := by rw [← hmt.out.len]; exact hstl2
              have HN9 := Lib.hid n8
              clear n8
              generalize (stq) = st2 at *
              generalize (rsq) = rs2 at *
              obtain ⟨b, hb⟩ : ∃ b, rUp rs2 a.host = b := ⟨_, rfl⟩
              obtain ⟨us, hus⟩ : ∃ us, rups rs2 = us := ⟨_, rfl⟩
              have hul : us.length ≤ 100 := by
                rw [← hus]
                have := rups_le rs2 rs2.length
                rw [List.take_length] at this
                omega
              have HIs : Hid (∀ W, Now w W hp mp wr.heap.size fall rise st2 rs2 a → Calls Tryd.prog 31 #[ptr hp, .string a.host] W (Then (.bool b) fun w' => Now w w' hp mp wr.heap.size fall rise st2 rs2 a)) :=
                Lib.hid fun W h => by rw [← hb, ← hmt.out.upOf]; exact now_is h
              have HRs : Hid (∀ W, Now w W hp mp wr.heap.size fall rise st2 rs2 a → Calls Tryd.prog 32 #[ptr mp, .string a.host] W (Then (.bool b) fun w' => Now w w' hp mp wr.heap.size fall rise st2 rs2 a)) :=
                Lib.hid fun W h => by rw [← hb]; exact now_refIs h (by omega)
              have HUp : Hid (∀ W, Now w W hp mp wr.heap.size fall rise st2 rs2 a → Calls Tryd.prog 34 #[ptr hp] W fun e w' => ∃ A cap, e = .returned (.slice A us.length cap) ∧ Reads w' w'.heap.size 1 A us.length (strV us) ∧ Now w w' hp mp wr.heap.size fall rise st2 rs2 a) :=
                Lib.hid fun W h => by rw [← hus, ← hmt.out.ups]; exact now_up h hstl2
              have HUr : Hid (∀ W, Now w W hp mp wr.heap.size fall rise st2 rs2 a → Calls Tryd.prog 35 #[ptr mp] W fun e w' => ∃ A cap, e = .returned (.slice A us.length cap) ∧ Reads w' w'.heap.size 1 A us.length (strV us) ∧ Below W.heap.size W w' ∧ Now w w' hp mp wr.heap.size fall rise st2 rs2 a) :=
                Lib.hid fun W h => by rw [← hus]; exact now_ups h hrsl2
              have ks8 := HN9.out.c1
              unfold ptr at HIs HRs HUp HUr
              clear hb hus
              cases b
              all_goals
                go_wp2_with fail
                go_region_held3 (fun w' => w'.cell? ⟨wr.heap.size, 1, none⟩ = some (.string a.host)) (first | exact ks8 | exact n10.c1 | exact n11.c1 | exact n12.c1 | exact n13.c1 | exact n14.c1 | go_keep)
                  (first
                    | (go_at_call 31; refine (HIs.out _ HN9.out.drew).mono ?_; rintro e w10 ⟨rfl, n10⟩)
                    | (go_at_call 32; refine (HRs.out _ n10).mono ?_; rintro e w11 ⟨rfl, n11⟩)
                    | (go_at_call 34; refine (HUp.out _ n11).mono ?_; rintro e w12 ⟨Au, cu, rfl, ru, n12⟩)
                    | (go_at_call 35; refine (HUr.out _ n12).mono ?_; rintro e w13 ⟨Av, cv, rfl, rv, bv, n13⟩)
                    | (go_at_call 33; refine (sameTexts_yes _ _ _ _ w13.heap.size us w13 ((ru.below bv).more bv.size) rv (by unfold maxLen; omega)).mono ?_; rintro e w14 ⟨rfl, m14, rfl⟩; have n14 := n13.drewN m14))
                go_wp2
                go_roundw
                case rel => exact ⟨k + 1, _, _, by omega, by go_num, Lib.hid n14.h, Lib.hid n14.m, hmt, n14.b⟩
                case measure => simp [intOf]; omega
    · have hge : ¬ (k : Int) < acts.length := by omega
      go_wp2
      go_ret
      exact ⟨rfl, hbr⟩
end Go.Proofs.YtajdokogahlgaaaDoor
