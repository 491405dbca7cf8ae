/-
  The law CarryReads: its walk.
-/
import Derived.Test.YtalfjaogpbndeaaGreatDoorCarryTexts
import Derived.Test.YtalfjaogpbndeaaGreatDoorRefOf
namespace Go.Proofs.YtalfjaogpbndeaaGreatDoor
open Go.RowKit

theorem readOf_code {s : List UInt8} {f : Flt} (h : readOf s = .bad f) : 1 ≤ f.code ∧ f.code ≤ 9 := by
  unfold readOf at h
  split at h
  · cases h; exact ⟨by decide, by decide⟩
  · split at h
    · cases h; exact ⟨by decide, by decide⟩
    · split at h
      · split at h
        · cases h; exact ⟨by decide, by decide⟩
        · split at h
          · cases h; exact ⟨by decide, by decide⟩
          · split at h
            · split at h
              · rename_i f2 hf
                cases h
                exact checkOf_code hf
              · cases h
            · cases h; exact ⟨by decide, by decide⟩
      · cases h; exact ⟨by decide, by decide⟩
theorem reads_nil (w : World) : Reads w w.heap.size 3 none ([] : List Fl).length (flsC []) := ⟨rfl, fun h => absurd h (by simp)⟩
set_option maxRecDepth 100000 in
set_option maxHeartbeats 1000000 in
theorem reads_skip (ea : Nat → Addr) (s : ByteArray) (b : Bool) (w : World) (hW : CarW w) (hE : ErrsK ea w) (h : 3000 < s.size) :
    Calls Tryz.prog 4 #[.string s, .bool b] w (True1 w) := by
  have HC := Lib.hid (carried_any ea w hW hE)
  have d1 : decide ((s.size : Int) > 3000) = true := by simp; omega
  clear hW hE h
  go_enter Tryz.func4, Tryz.ntmps4
  go_wp2_with fail
  refine HC.out.mono ?_
  rintro e w1 ⟨rfl, hb1⟩
  go_wp2
  go_ret
  exact ⟨rfl, hb1⟩
set_option maxRecDepth 100000 in
set_option maxHeartbeats 1000000 in
theorem reads_plain_bad (ea : Nat → Addr) (t : List UInt8) (w : World) (hW : CarW w) (hE : ErrsW ea w) (hG : HandleAt w) (h : t.length ≤ 3000) {f : Flt} (hr : readOf t = .bad f) :
    Calls Tryz.prog 4 #[.string ⟨t.toArray⟩, .bool false] w (True1 w) := by
  have HC := Lib.hid (carried_any ea w hW hE.errsK)
  have hsz : (⟨t.toArray⟩ : ByteArray).size = t.length := by simp [ByteArray.size]
  have d1 : decide ((t.length : Int) > 3000) = false := by simp; omega
  have HRD := Lib.hid (fun W (hw : Below w.heap.size w W) => read_any ea ⟨t.toArray⟩ W (hW.below hw) (hE.errsK.below hw))
  have HOF := Lib.hid (fun W => carryOf_any ⟨t.toArray⟩ W)
  rw [show (⟨t.toArray⟩ : ByteArray).data.toList = t from rfl, hr] at HRD HOF
  unfold RdPost at HRD
  unfold CarOf at HOF
  obtain ⟨hc1, hc9⟩ := readOf_code hr
  have HD := Lib.hid (fun W (hw : Below w.heap.size w W) ty a (hi : IsErr ea W f ty a) => faultedlaw2_some (hE.below hw) (hG.below hw) hc1 hc9 hi)
  unfold Yeslaw2 at HD
  have HOF2 : Hid (∀ W, Calls Tryz.prog 15 #[.string ⟨t.toArray⟩] W fun e w' => e = .returned (.tuple #[.int .i64 0, .slice none 0 0, .agg #[.int .i64 (fCode (some f) : Int), .int .i64 (fAt (some f))]]) ∧ Below W.heap.size W w') := Lib.hid fun W => HOF.out W
  have hfc : 0 < fCode (some f) := hc1
  have HSM : Hid (∀ W, Calls Tryz.prog 13 #[.slice none 0 0, .slice none 0 0] W fun e w' => e = .returned (.bool true) ∧ Below W.heap.size W w') := Lib.hid fun W => same_any none none 0 0 _ _ [] W (reads_nil W) (Nat.le_refl _) (reads_nil W) (Nat.le_refl _) (by simp)
  clear hW hE hG hr
  clear HOF hc1 hc9
  generalize fCode (some f) = fc at *
  generalize fAt (some f) = fa at *
  go_enter Tryz.func4, Tryz.ntmps4
  go_wp2_with fail
  refine HC.out.mono ?_
  rintro e w1 ⟨rfl, hb1⟩
  go_wp2_with fail
  refine (HRD.out _ hb1).mono ?_
  rintro e w3 ⟨ty, a, rfl, h3, hb3⟩
  have hb13 := below_two hb1 hb3
  have H3 := Lib.hid h3
  clear h3 hb1 hb3
  go_wp2_with fail
  refine (HOF2.out _).mono ?_
  rintro e w4 ⟨rfl, hb4⟩
  have hb5 := (Below.refl w4.heap.size w4).alloc (Nat.le_refl _) (.cells #[.int .i64 (fc : Int), .int .i64 fa] 31)
  have hB5 := Blk.new w4 31 #[.int .i64 (fc : Int), .int .i64 fa]
  have hb15 := below_two hb13 (below_two hb4 hb5)
  have H5 := Lib.hid ((H3.out.below hb4).below hb5)
  clear hb4 hb5 hb13
  go_wp2_with fail
  refine (HD.out _ hb15 ty a H5.out).mono ?_
  rintro e w6 ⟨rfl, hb6⟩
  have hb16 := below_two hb15 hb6
  have hB6 := hB5.below hb6 hB5.lt
  have q0 : w6.cell? ⟨w4.heap.size, 0, none⟩ = some (.int .i64 (fc : Int)) := hB6.cell 0
  have q1 : w6.cell? ⟨w4.heap.size, 1, none⟩ = some (.int .i64 fa) := hB6.cell 1
  have HB6 := Lib.hid hB6
  clear hb6 hb15 hB5 hB6
  go_wp2_with fail
  refine (HSM.out _).mono ?_
  rintro e w7 ⟨rfl, hb7⟩
  have hB7 := HB6.out.below hb7 HB6.out.lt
  have p0 : w7.cell? ⟨w4.heap.size, 0, none⟩ = some (.int .i64 (fc : Int)) := hB7.cell 0
  have hb17 := below_two hb16 hb7
  clear q0 q1 hB7 hb7 hb16
  go_wp2
  go_ret
  exact ⟨rfl, hb17⟩
set_option maxRecDepth 100000 in
set_option maxHeartbeats 1000000 in
theorem reads_plain_good (ea : Nat → Addr) (t : List UInt8) (w : World) (hW : CarW w) (hE : ErrsW ea w) (h : t.length ≤ 3000) {ep : Nat} {L : List Fl} (hr : readOf t = .good ep L) :
    Calls Tryz.prog 4 #[.string ⟨t.toArray⟩, .bool false] w (True1 w) := by
  have HC := Lib.hid (carried_any ea w hW hE.errsK)
  have hsz : (⟨t.toArray⟩ : ByteArray).size = t.length := by simp [ByteArray.size]
  have d1 : decide ((t.length : Int) > 3000) = false := by simp; omega
  have HRD := Lib.hid (fun W (hw : Below w.heap.size w W) => read_any ea ⟨t.toArray⟩ W (hW.below hw) (hE.errsK.below hw))
  have HOF := Lib.hid (fun W => carryOf_any ⟨t.toArray⟩ W)
  rw [show (⟨t.toArray⟩ : ByteArray).data.toList = t from rfl, hr] at HRD HOF
  unfold RdPost at HRD
  unfold CarOf at HOF
  obtain ⟨hg1, hg2, hg3⟩ := read_good hr
  have hk := checkOf_none hg2
  have hn := hk.n
  have HD := Lib.hid (fun W => faultedlaw2_nil W)
  unfold Yeslaw2 at HD
  have HRF : retFault none = .agg #[.int .i64 0, .int .i64 (-1)] := rfl
  rw [HRF] at HOF
  have hmx : L.length ≤ maxLen := by unfold maxLen; omega
  have HT := Lib.hid (fun W (hw : Below w.heap.size w W) A' c' (hrd : Reads W W.heap.size 3 A' L.length (flsC L)) => text_any ea (ep : Int) A' c' W.heap.size L W (hW.below hw) (hE.errsK.below hw) hrd (Nat.le_refl _) (fun x hx => by
    have h1 := name_len (hk.l x hx).1
    have h2 : x.host.data.toList.length = x.host.size := by simp
    unfold maxLen
    omega) hg3)
  unfold TxPost at HT
  rw [hg2, ← hg1] at HT
  clear hW hE hr
  clear hg1 hg2 hg3 hk
  go_enter Tryz.func4, Tryz.ntmps4
  go_wp2_with fail
  refine HC.out.mono ?_
  rintro e w1 ⟨rfl, hb1⟩
  go_wp2_with fail
  refine (HRD.out _ hb1).mono ?_
  rintro e w3 ⟨v3, rfl, hv3, hb3⟩
  obtain ⟨A3, c3, rfl, hrd3, _⟩ := own_slice hv3
  have hb13 := below_two hb1 hb3
  clear hv3 hb1 hb3
  go_wp2_with fail
  refine (HOF.out _).mono ?_
  rintro e w4 ⟨v4, rfl, hv4, hb4⟩
  obtain ⟨A4, c4, rfl, hrd4, _⟩ := own_slice hv4
  have hb5 := (Below.refl w4.heap.size w4).alloc (Nat.le_refl _) (.cells #[.int .i64 0, .int .i64 (-1)] 31)
  have hB5 := Blk.new w4 31 #[.int .i64 0, .int .i64 (-1)]
  have hb15 := below_two hb13 (below_two hb4 hb5)
  have R3 := Lib.hid ((hrd3.below (below_two hb4 hb5)).more (below_two hb4 hb5).size)
  have R4 := Lib.hid ((hrd4.below hb5).more hb5.size)
  clear hv4 hb4 hb5 hb13 hrd3 hrd4
  go_wp2_with fail
  refine (HD.out _).mono ?_
  rintro e w6 ⟨rfl, hb6⟩
  have hb16 := below_two hb15 hb6
  have hB6 := hB5.below hb6 hB5.lt
  have q0 : w6.cell? ⟨w4.heap.size, 0, none⟩ = some (.int .i64 0) := hB6.cell 0
  have q1 : w6.cell? ⟨w4.heap.size, 1, none⟩ = some (.int .i64 (-1)) := hB6.cell 1
  have HB6 := Lib.hid hB6
  have HS := Lib.hid (same_any A3 A4 c3 c4 w6.heap.size w6.heap.size L w6 ((R3.out.below hb6).more hb6.size) (Nat.le_refl _) ((R4.out.below hb6).more hb6.size) (Nat.le_refl _) hmx)
  have R36 := Lib.hid ((R3.out.below hb6).more hb6.size)
  clear hb6 hb15 hB5 hB6
  go_wp2_with fail
  refine HS.out.mono ?_
  rintro e w7 ⟨rfl, hb7⟩
  have hB7 := HB6.out.below hb7 HB6.out.lt
  have p0 : w7.cell? ⟨w4.heap.size, 0, none⟩ = some (.int .i64 0) := hB7.cell 0
  have hb17 := below_two hb16 hb7
  have R37 := Lib.hid ((R36.out.below hb7).more hb7.size)
  clear q0 q1 hB7 hb7 hb16
  go_wp2_with fail
  refine (HT.out _ hb17 A3 c3 R37.out).mono ?_
  rintro e w8 ⟨rfl, hb8⟩
  have hb18 := below_two hb17 hb8
  clear hb8 hb17
  go_wp2
  go_ret
  exact ⟨rfl, hb18⟩
set_option maxRecDepth 100000 in
set_option maxHeartbeats 1000000 in
theorem reads_seal_bad (ea : Nat → Addr) (t : List UInt8) (w : World) (hW : CarW w) (hE : ErrsW ea w) (hG : HandleAt w) (h : t.length ≤ 3000) {f : Flt} (hr : readOf (sealOf t) = .bad f) :
    Calls Tryz.prog 4 #[.string ⟨t.toArray⟩, .bool true] w (True1 w) := by
  have HC := Lib.hid (carried_any ea w hW hE.errsK)
  have hsz : (⟨t.toArray⟩ : ByteArray).size = t.length := by simp [ByteArray.size]
  have d1 : decide ((t.length : Int) > 3000) = false := by simp; omega
  have HRD := Lib.hid (fun W (hw : Below w.heap.size w W) => read_any ea ⟨(sealOf t).toArray⟩ W (hW.below hw) (hE.errsK.below hw))
  have HOF := Lib.hid (fun W => carryOf_any ⟨(sealOf t).toArray⟩ W)
  rw [show (⟨(sealOf t).toArray⟩ : ByteArray).data.toList = (sealOf t) from rfl, hr] at HRD HOF
  unfold RdPost at HRD
  unfold CarOf at HOF
  obtain ⟨hc1, hc9⟩ := readOf_code hr
  have HD := Lib.hid (fun W (hw : Below w.heap.size w W) ty a (hi : IsErr ea W f ty a) => faultedlaw2_some (hE.below hw) (hG.below hw) hc1 hc9 hi)
  unfold Yeslaw2 at HD
  have HOF2 : Hid (∀ W, Calls Tryz.prog 15 #[.string ⟨(sealOf t).toArray⟩] W fun e w' => e = .returned (.tuple #[.int .i64 0, .slice none 0 0, .agg #[.int .i64 (fCode (some f) : Int), .int .i64 (fAt (some f))]]) ∧ Below W.heap.size W w') := Lib.hid fun W => HOF.out W
  have hfc : 0 < fCode (some f) := hc1
  have HSM : Hid (∀ W, Calls Tryz.prog 13 #[.slice none 0 0, .slice none 0 0] W fun e w' => e = .returned (.bool true) ∧ Below W.heap.size W w') := Lib.hid fun W => same_any none none 0 0 _ _ [] W (reads_nil W) (Nat.le_refl _) (reads_nil W) (Nat.le_refl _) (by simp)
  have HSL := Lib.hid (fun W => seal_any t (by omega) W)
  clear hW hE hG hr
  generalize sealOf t = u at *
  clear HOF hc1 hc9
  generalize fCode (some f) = fc at *
  generalize fAt (some f) = fa at *
  go_enter Tryz.func4, Tryz.ntmps4
  go_wp2_with fail
  refine HC.out.mono ?_
  rintro e w1 ⟨rfl, hb1⟩
  go_wp2_with fail
  refine (HSL.out _).mono ?_
  rintro e w2 ⟨rfl, rfl⟩
  go_wp2_with fail
  refine (HRD.out _ hb1).mono ?_
  rintro e w3 ⟨ty, a, rfl, h3, hb3⟩
  have hb13 := below_two hb1 hb3
  have H3 := Lib.hid h3
  clear h3 hb1 hb3
  go_wp2_with fail
  refine (HOF2.out _).mono ?_
  rintro e w4 ⟨rfl, hb4⟩
  have hb5 := (Below.refl w4.heap.size w4).alloc (Nat.le_refl _) (.cells #[.int .i64 (fc : Int), .int .i64 fa] 31)
  have hB5 := Blk.new w4 31 #[.int .i64 (fc : Int), .int .i64 fa]
  have hb15 := below_two hb13 (below_two hb4 hb5)
  have H5 := Lib.hid ((H3.out.below hb4).below hb5)
  clear hb4 hb5 hb13
  go_wp2_with fail
  refine (HD.out _ hb15 ty a H5.out).mono ?_
  rintro e w6 ⟨rfl, hb6⟩
  have hb16 := below_two hb15 hb6
  have hB6 := hB5.below hb6 hB5.lt
  have q0 : w6.cell? ⟨w4.heap.size, 0, none⟩ = some (.int .i64 (fc : Int)) := hB6.cell 0
  have q1 : w6.cell? ⟨w4.heap.size, 1, none⟩ = some (.int .i64 fa) := hB6.cell 1
  have HB6 := Lib.hid hB6
  clear hb6 hb15 hB5 hB6
  go_wp2_with fail
  refine (HSM.out _).mono ?_
  rintro e w7 ⟨rfl, hb7⟩
  have hB7 := HB6.out.below hb7 HB6.out.lt
  have p0 : w7.cell? ⟨w4.heap.size, 0, none⟩ = some (.int .i64 (fc : Int)) := hB7.cell 0
  have hb17 := below_two hb16 hb7
  clear q0 q1 hB7 hb7 hb16
  go_wp2
  go_ret
  exact ⟨rfl, hb17⟩
set_option maxRecDepth 100000 in
set_option maxHeartbeats 1000000 in
theorem reads_seal_good (ea : Nat → Addr) (t : List UInt8) (w : World) (hW : CarW w) (hE : ErrsW ea w) (h : t.length ≤ 3000) {ep : Nat} {L : List Fl} (hr : readOf (sealOf t) = .good ep L) :
    Calls Tryz.prog 4 #[.string ⟨t.toArray⟩, .bool true] w (True1 w) := by
  have HC := Lib.hid (carried_any ea w hW hE.errsK)
  have hsz : (⟨t.toArray⟩ : ByteArray).size = t.length := by simp [ByteArray.size]
  have d1 : decide ((t.length : Int) > 3000) = false := by simp; omega
  have HRD := Lib.hid (fun W (hw : Below w.heap.size w W) => read_any ea ⟨(sealOf t).toArray⟩ W (hW.below hw) (hE.errsK.below hw))
  have HOF := Lib.hid (fun W => carryOf_any ⟨(sealOf t).toArray⟩ W)
  rw [show (⟨(sealOf t).toArray⟩ : ByteArray).data.toList = (sealOf t) from rfl, hr] at HRD HOF
  unfold RdPost at HRD
  unfold CarOf at HOF
  obtain ⟨hg1, hg2, hg3⟩ := read_good hr
  have hk := checkOf_none hg2
  have hn := hk.n
  have HD := Lib.hid (fun W => faultedlaw2_nil W)
  unfold Yeslaw2 at HD
  have HRF : retFault none = .agg #[.int .i64 0, .int .i64 (-1)] := rfl
  rw [HRF] at HOF
  have hmx : L.length ≤ maxLen := by unfold maxLen; omega
  have HT := Lib.hid (fun W (hw : Below w.heap.size w W) A' c' (hrd : Reads W W.heap.size 3 A' L.length (flsC L)) => text_any ea (ep : Int) A' c' W.heap.size L W (hW.below hw) (hE.errsK.below hw) hrd (Nat.le_refl _) (fun x hx => by
    have h1 := name_len (hk.l x hx).1
    have h2 : x.host.data.toList.length = x.host.size := by simp
    unfold maxLen
    omega) hg3)
  unfold TxPost at HT
  rw [hg2, ← hg1] at HT
  have HSL := Lib.hid (fun W => seal_any t (by omega) W)
  clear hW hE hr
  clear hg1 hg2 hg3 hk
  generalize sealOf t = u at *
  go_enter Tryz.func4, Tryz.ntmps4
  go_wp2_with fail
  refine HC.out.mono ?_
  rintro e w1 ⟨rfl, hb1⟩
  go_wp2_with fail
  refine (HSL.out _).mono ?_
  rintro e w2 ⟨rfl, rfl⟩
  go_wp2_with fail
  refine (HRD.out _ hb1).mono ?_
  rintro e w3 ⟨v3, rfl, hv3, hb3⟩
  obtain ⟨A3, c3, rfl, hrd3, _⟩ := own_slice hv3
  have hb13 := below_two hb1 hb3
  clear hv3 hb1 hb3
  go_wp2_with fail
  refine (HOF.out _).mono ?_
  rintro e w4 ⟨v4, rfl, hv4, hb4⟩
  obtain ⟨A4, c4, rfl, hrd4, _⟩ := own_slice hv4
  have hb5 := (Below.refl w4.heap.size w4).alloc (Nat.le_refl _) (.cells #[.int .i64 0, .int .i64 (-1)] 31)
  have hB5 := Blk.new w4 31 #[.int .i64 0, .int .i64 (-1)]
  have hb15 := below_two hb13 (below_two hb4 hb5)
  have R3 := Lib.hid ((hrd3.below (below_two hb4 hb5)).more (below_two hb4 hb5).size)
  have R4 := Lib.hid ((hrd4.below hb5).more hb5.size)
  clear hv4 hb4 hb5 hb13 hrd3 hrd4
  go_wp2_with fail
  refine (HD.out _).mono ?_
  rintro e w6 ⟨rfl, hb6⟩
  have hb16 := below_two hb15 hb6
  have hB6 := hB5.below hb6 hB5.lt
  have q0 : w6.cell? ⟨w4.heap.size, 0, none⟩ = some (.int .i64 0) := hB6.cell 0
  have q1 : w6.cell? ⟨w4.heap.size, 1, none⟩ = some (.int .i64 (-1)) := hB6.cell 1
  have HB6 := Lib.hid hB6
  have HS := Lib.hid (same_any A3 A4 c3 c4 w6.heap.size w6.heap.size L w6 ((R3.out.below hb6).more hb6.size) (Nat.le_refl _) ((R4.out.below hb6).more hb6.size) (Nat.le_refl _) hmx)
  have R36 := Lib.hid ((R3.out.below hb6).more hb6.size)
  clear hb6 hb15 hB5 hB6
  go_wp2_with fail
  refine HS.out.mono ?_
  rintro e w7 ⟨rfl, hb7⟩
  have hB7 := HB6.out.below hb7 HB6.out.lt
  have p0 : w7.cell? ⟨w4.heap.size, 0, none⟩ = some (.int .i64 0) := hB7.cell 0
  have hb17 := below_two hb16 hb7
  have R37 := Lib.hid ((R36.out.below hb7).more hb7.size)
  clear q0 q1 hB7 hb7 hb16
  go_wp2_with fail
  refine (HT.out _ hb17 A3 c3 R37.out).mono ?_
  rintro e w8 ⟨rfl, hb8⟩
  have hb18 := below_two hb17 hb8
  clear hb8 hb17
  go_wp2
  go_ret
  exact ⟨rfl, hb18⟩
theorem carryReads_any (ea : Nat → Addr) (s : ByteArray) (b : Bool) (w : World) (hW : CarW w) (hE : ErrsW ea w) (hG : HandleAt w) :
    Calls Tryz.prog 4 #[.string s, .bool b] w (True1 w) := by
  by_cases h : 3000 < s.size
  · exact reads_skip ea s b w hW hE.errsK h
  · obtain ⟨t, rfl⟩ : ∃ t : List UInt8, s = ⟨t.toArray⟩ := ⟨s.data.toList, by simp⟩
    have ht : t.length ≤ 3000 := by
      have : (⟨t.toArray⟩ : ByteArray).size = t.length := by simp [ByteArray.size]
      omega
    cases b with
    | true =>
      cases hr : readOf (sealOf t) with
      | bad f => exact reads_seal_bad ea t w hW hE hG ht hr
      | good ep L => exact reads_seal_good ea t w hW hE ht hr
    | false =>
      cases hr : readOf t with
      | bad f => exact reads_plain_bad ea t w hW hE hG ht hr
      | good ep L => exact reads_plain_good ea t w hW hE ht hr
end Go.Proofs.YtalfjaogpbndeaaGreatDoor
