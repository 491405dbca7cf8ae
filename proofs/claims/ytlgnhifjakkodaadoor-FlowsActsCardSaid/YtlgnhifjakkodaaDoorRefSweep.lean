/-
  The walks of the reference's Expire and Drop.
-/
import Derived.Test.YtlgnhifjakkodaaDoorRefPut
namespace Go.Proofs.YtlgnhifjakkodaaDoor
open Go.RowKit

/-- What stands when the elements from k on were looked at. -/
def sweep (q : Fl → Bool) (L : List Fl) (k : Nat) : List Fl := L.take k ++ (L.drop k).filter q
section
variable {q : Fl → Bool} {L : List Fl}
theorem sweep_all : sweep q L L.length = L := by simp [sweep]
theorem sweep_zero : sweep q L 0 = L.filter q := by simp [sweep]
theorem sweep_len {k : Nat} : (sweep q L k).length ≤ L.length := by
  have := List.length_filter_le q (L.drop k)
  simp only [sweep, List.length_append, List.length_take]
  rw [List.length_drop] at this
  omega
theorem sweep_at {j : Nat} (h : j < L.length) : ∃ h2 : j < (sweep q L (j + 1)).length, (sweep q L (j + 1))[j] = L[j] := by
  refine ⟨by simp [sweep]; omega, ?_⟩
  simp only [sweep]
  rw [List.getElem_append_left (by simp; omega), List.getElem_take]
theorem sweep_keep {j : Nat} (h : j < L.length) (hq : q L[j] = true) : sweep q L (j + 1) = sweep q L j := by
  simp only [sweep]
  rw [List.drop_eq_getElem_cons h, List.filter_cons_of_pos hq, List.take_succ_eq_append_getElem h, List.append_assoc]
  rfl
theorem sweep_drop {j : Nat} (h : j < L.length) (hq : q L[j] = false) : (sweep q L (j + 1)).eraseIdx j = sweep q L j := by
  simp only [sweep]
  rw [List.drop_eq_getElem_cons h, List.filter_cons_of_neg (by simp [hq]), List.take_succ_eq_append_getElem h]
  rw [List.eraseIdx_append_of_lt_length (by simp; omega), List.eraseIdx_append_of_length_le (by rw [List.length_take]; omega)]
  simp [Nat.min_eq_left (Nat.le_of_lt h)]
end
def RefExp (B mp time now : Nat) (L : List Fl) (w : World) (e : Ending) (w' : World) : Prop := e = .returned (.tuple #[.int .i64 ((L.length - (L.filter fun x => !decide (x.til ≤ (now : Int))).length : Nat) : Int), .int .i64 0]) ∧ ∃ sv', RFs w' B mp time now (L.filter fun x => !decide (x.til ≤ (now : Int))) sv' ∧ Turn [mp] w w'
set_option maxRecDepth 100000 in
set_option maxHeartbeats 4000000 in
theorem ref_expire_ok {B mp time last : Nat} {L : List Fl} {sv : Value} (now : Nat) (w : World) (h : RFs w B mp time last L sv) (hB : B ≤ w.heap.size) (h1 : last ≤ now) (h2 : now ≤ 1099511627776) :
    Calls Tryd.prog 16 #[.pointer (some ⟨mp, 0, none⟩), .int .i64 (now : Int)] w (RefExp B mp time now L w) := by
  have hlen := h.len
  obtain ⟨A0, cap0, hsv, _, _⟩ := h.form
  subst hsv
  have HT := Lib.hid (ref_tick (now : Int) w h)
  have ht0 : tickE last (now : Int) = 0 := by unfold tickE; rw [if_neg (by omega), if_neg (by omega)]
  rw [ht0] at HT
  have c1 : w.cell? ⟨mp, 1, none⟩ = some (.int .i64 (last : Int)) := h.blk.cell 1
  have f1 := h.blk.frozen 1
  obtain ⟨hF2, hT2⟩ := h.tick now
  have HF2 := Lib.hid hF2
  have HT2 := Lib.hid hT2
  have c2 : (w.setCell ⟨mp, 1, none⟩ (.int .i64 (now : Int))).cell? ⟨mp, 2, none⟩ = some (.slice A0 L.length cap0) := hF2.blk.cell 2
  clear hF2 hT2 ht0
  have HD : Hid (∀ W L2 sv' j, RFs W B mp time now L2 sv' → Turn [mp] w W → j < L2.length → Calls Tryd.prog 37 #[.pointer (some ⟨mp, 0, none⟩), .int .i64 (j : Int)] W fun e w' => e = .returned (.tuple #[]) ∧ ∃ sv2, RFs w' B mp time now (L2.eraseIdx j) sv2 ∧ Turn [mp] w w') := Lib.hid fun W L2 sv' j hR hT hj =>
    (ref_drop W hR (Nat.le_trans hB hT.size) hj).mono fun e' w' ⟨he, sv2, h3, h4⟩ => ⟨he, sv2, h3, hT.then h4⟩
  have HRefExp : Hid (∀ c W sv2, RFs W B mp time now (sweep (fun x => !decide (x.til ≤ (now : Int))) L 0) sv2 → Turn [mp] w W → c + ((L.drop 0).filter (fun x => !decide (x.til ≤ (now : Int)))).length = L.length → RefExp B mp time now L w (.returned (.tuple #[.int .i64 (c : Int), .int .i64 0])) W) := Lib.hid fun c W sv2 h1 h2 h3 => by
    rw [sweep_zero] at h1
    rw [List.drop_zero] at h3
    have e : c = L.length - (L.filter (fun x => !decide (x.til ≤ (now : Int)))).length := by omega
    subst e
    exact ⟨rfl, sv2, h1, h2⟩
  have hw1 : IntKind.i64.wrap ((L.length : Int) - 1) = (L.length : Int) - 1 := IntWalk.i64_in _ (by omega)
  clear h hB
  go_enter Tryd.func16, Tryd.ntmps16
  go_wp2_with fail
  refine HT.out.mono ?_
  rintro e w1 ⟨rfl, rfl⟩
  go_wp2_with fail
  generalize w.setCell ⟨mp, 1, none⟩ (.int .i64 (now : Int)) = W0 at *
  clear c1 f1 HT
  clear c2
  go_loopw [7, 8] (fun nv iv wi => ∃ (k c : Nat) (i : Int) (sv' : Value), k ≤ L.length ∧ nv = .int .i64 (c : Int) ∧ iv = .int .i64 i ∧ i = (k : Int) - 1 ∧ Hid (RFs wi B mp time now (sweep (fun x => !decide (x.til ≤ (now : Int))) L k) sv') ∧ Hid (Turn [mp] w wi) ∧ Hid (c + ((L.drop k).filter (fun x => !decide (x.til ≤ (now : Int)))).length = L.length - k)) (fun _ iv _ => (intOf iv + 1).toNat)
  case atStart => exact ⟨L.length, 0, _, _, Nat.le_refl _, rfl, rfl, rfl, Lib.hid (by rw [sweep_all]; exact HF2.out), HT2, Lib.hid (by simp)⟩
  case round =>
    obtain ⟨k, c, i, sv', hk, rfl, rfl, hik, hF, hT, hc⟩ := hrel
    have hcl : c ≤ L.length := by have := hc.out; omega
    cases k with
    | zero =>
      obtain rfl : i = -1 := by omega
      clear hik
      have HP := Lib.hid (HRefExp.out c _ _ hF.out hT.out (by have := hc.out; simpa using this))
      clear hF hT hc
      go_wp2
      go_ret2
      exact HP.out
    | succ j =>
      obtain rfl : i = (j : Int) := by omega
      clear hik
      have hj0 : ¬ (j : Int) < 0 := by omega
      obtain ⟨hj2, he⟩ := sweep_at (q := (fun x => !decide (x.til ≤ (now : Int)))) (L := L) (j := j) (by omega)
      have hn := sweep_len (q := (fun x => !decide (x.til ≤ (now : Int)))) (L := L) (k := j + 1)
      obtain ⟨g, cap, hv, _, _⟩ := hF.out.row.form (by omega)
      subst hv
      have c2 : wr.cell? ⟨mp, 2, none⟩ = some (.slice (some ⟨g, 0, none⟩) (sweep (fun x => !decide (x.til ≤ (now : Int))) L (j + 1)).length cap) := hF.out.blk.cell 2
      obtain ⟨y0, y1, y2⟩ := cells3_of hF.out.row hj2
      clear y0
      rw [he] at y1 y2
      have hjl : (j : Int) < (sweep (fun x => !decide (x.til ≤ (now : Int))) L (j + 1)).length := by omega
      have hwr : IntKind.i64.wrap ((j : Int) - 1) = (j : Int) - 1 := IntWalk.i64_in _ (by omega)
      have HD2 := Lib.hid (HD.out _ _ _ j hF.out hT.out hj2)
      by_cases hp : L[j].til ≤ (now : Int)
      · have HS := Lib.hid (sweep_drop (q := (fun x => !decide (x.til ≤ (now : Int)))) (L := L) (j := j) (by omega) (by simpa using hp))
        have HC : Hid (c + 1 + ((L.drop j).filter (fun x => !decide (x.til ≤ (now : Int)))).length = L.length - j) := Lib.hid (by
          have := hc.out
          rw [List.drop_eq_getElem_cons (show j < L.length by omega), List.filter_cons_of_neg (by simpa using hp)]
          omega)
        rw [HS.out] at HD2
        have d1 : decide (L[j].til ≤ (now : Int)) = true := by simpa using hp
        clear hp hF hT hc hj2 he HS
        generalize L[j].til = yy at *
        generalize (sweep (fun x => !decide (x.til ≤ (now : Int))) L (j + 1)).length = n at *
        go_wp2_with fail
        refine HD2.out.mono ?_
        rintro e w4 ⟨rfl, sv2, hF4, hT4⟩
        have HF4 := Lib.hid hF4
        have HT4 := Lib.hid hT4
        clear hF4 hT4
        go_wp2_with fail
        go_roundw
        case rel => exact ⟨j, c + 1, _, sv2, by omega, by go_num, rfl, by first | rfl | omega, HF4, HT4, HC⟩
        case measure => simp [intOf]
      · have HS := Lib.hid (sweep_keep (q := (fun x => !decide (x.til ≤ (now : Int)))) (L := L) (j := j) (by omega) (by simpa using hp))
        have HC : Hid (c + ((L.drop j).filter (fun x => !decide (x.til ≤ (now : Int)))).length = L.length - j) := Lib.hid (by
          have := hc.out
          rw [List.drop_eq_getElem_cons (show j < L.length by omega), List.filter_cons_of_pos (by simpa using hp)]
          simp only [List.length_cons]
          omega)
        have HF4 : Hid (RFs wr B mp time now (sweep (fun x => !decide (x.til ≤ (now : Int))) L j) (.slice (some ⟨g, 0, none⟩) (sweep (fun x => !decide (x.til ≤ (now : Int))) L (j + 1)).length cap)) := Lib.hid (by rw [← HS.out]; exact hF.out)
        have d1 : decide (L[j].til ≤ (now : Int)) = false := by simpa using hp
        clear hp hF hc hj2 he HS HD2
        generalize L[j].til = yy at *
        generalize (sweep (fun x => !decide (x.til ≤ (now : Int))) L (j + 1)).length = n at *
        go_wp2_with fail
        go_roundw
        case rel => exact ⟨j, c, _, _, by omega, rfl, rfl, by first | rfl | omega, HF4, hT, HC⟩
        case measure => simp [intOf]
def RefDr (B mp time last : Nat) (L : List Fl) (s : ByteArray) (w : World) (e : Ending) (w' : World) : Prop := e = .returned (.int .i64 ((L.length - (L.filter fun x => !decide (x.host = s)).length : Nat) : Int)) ∧ ∃ sv', RFs w' B mp time last (L.filter fun x => !decide (x.host = s)) sv' ∧ Turn [mp] w w'
set_option maxRecDepth 100000 in
set_option maxHeartbeats 4000000 in
theorem ref_dropH_ok {B mp time last : Nat} {L : List Fl} {sv : Value} (s : ByteArray) (w : World) (h : RFs w B mp time last L sv) (hB : B ≤ w.heap.size) :
    Calls Tryd.prog 17 #[.pointer (some ⟨mp, 0, none⟩), .string s] w (RefDr B mp time last L s w) := by
  have hlen := h.len
  obtain ⟨A0, cap0, hsv, _, _⟩ := h.form
  subst hsv
  have HF2 := Lib.hid h
  have HT2 : Hid (Turn [mp] w w) := Lib.hid (Turn.refl _ _)
  have c2 : w.cell? ⟨mp, 2, none⟩ = some (.slice A0 L.length cap0) := h.blk.cell 2
  have HD : Hid (∀ W L2 sv' j, RFs W B mp time last L2 sv' → Turn [mp] w W → j < L2.length → Calls Tryd.prog 37 #[.pointer (some ⟨mp, 0, none⟩), .int .i64 (j : Int)] W fun e w' => e = .returned (.tuple #[]) ∧ ∃ sv2, RFs w' B mp time last (L2.eraseIdx j) sv2 ∧ Turn [mp] w w') := Lib.hid fun W L2 sv' j hR hT hj =>
    (ref_drop W hR (Nat.le_trans hB hT.size) hj).mono fun e' w' ⟨he, sv2, h3, h4⟩ => ⟨he, sv2, h3, hT.then h4⟩
  have HRefDr : Hid (∀ c W sv2, RFs W B mp time last (sweep (fun x => !decide (x.host = s)) L 0) sv2 → Turn [mp] w W → c + ((L.drop 0).filter (fun x => !decide (x.host = s))).length = L.length → RefDr B mp time last L s w (.returned (.int .i64 (c : Int))) W) := Lib.hid fun c W sv2 h1 h2 h3 => by
    rw [sweep_zero] at h1
    rw [List.drop_zero] at h3
    have e : c = L.length - (L.filter (fun x => !decide (x.host = s))).length := by omega
    subst e
    exact ⟨rfl, sv2, h1, h2⟩
  have hw1 : IntKind.i64.wrap ((L.length : Int) - 1) = (L.length : Int) - 1 := IntWalk.i64_in _ (by omega)
  clear h hB
  go_enter Tryd.func17, Tryd.ntmps17
  go_wp2_with fail
  clear c2
  go_loopw [5, 6] (fun nv iv wi => ∃ (k c : Nat) (i : Int) (sv' : Value), k ≤ L.length ∧ nv = .int .i64 (c : Int) ∧ iv = .int .i64 i ∧ i = (k : Int) - 1 ∧ Hid (RFs wi B mp time last (sweep (fun x => !decide (x.host = s)) L k) sv') ∧ Hid (Turn [mp] w wi) ∧ Hid (c + ((L.drop k).filter (fun x => !decide (x.host = s))).length = L.length - k)) (fun _ iv _ => (intOf iv + 1).toNat)
  case atStart => exact ⟨L.length, 0, _, _, Nat.le_refl _, rfl, rfl, rfl, Lib.hid (by rw [sweep_all]; exact HF2.out), HT2, Lib.hid (by simp)⟩
  case round =>
    obtain ⟨k, c, i, sv', hk, rfl, rfl, hik, hF, hT, hc⟩ := hrel
    have hcl : c ≤ L.length := by have := hc.out; omega
    cases k with
    | zero =>
      obtain rfl : i = -1 := by omega
      clear hik
      have HP := Lib.hid (HRefDr.out c _ _ hF.out hT.out (by have := hc.out; simpa using this))
      clear hF hT hc
      go_wp2
      go_ret
      exact HP.out
    | succ j =>
      obtain rfl : i = (j : Int) := by omega
      clear hik
      have hj0 : ¬ (j : Int) < 0 := by omega
      obtain ⟨hj2, he⟩ := sweep_at (q := (fun x => !decide (x.host = s))) (L := L) (j := j) (by omega)
      have hn := sweep_len (q := (fun x => !decide (x.host = s))) (L := L) (k := j + 1)
      obtain ⟨g, cap, hv, _, _⟩ := hF.out.row.form (by omega)
      subst hv
      have c2 : wr.cell? ⟨mp, 2, none⟩ = some (.slice (some ⟨g, 0, none⟩) (sweep (fun x => !decide (x.host = s)) L (j + 1)).length cap) := hF.out.blk.cell 2
      obtain ⟨y0, y1, y2⟩ := cells3_of hF.out.row hj2
      clear y0
      rw [he] at y1 y2
      have hjl : (j : Int) < (sweep (fun x => !decide (x.host = s)) L (j + 1)).length := by omega
      have hwr : IntKind.i64.wrap ((j : Int) - 1) = (j : Int) - 1 := IntWalk.i64_in _ (by omega)
      have HD2 := Lib.hid (HD.out _ _ _ j hF.out hT.out hj2)
      by_cases hp : L[j].host = s
      · have HS := Lib.hid (sweep_drop (q := (fun x => !decide (x.host = s))) (L := L) (j := j) (by omega) (by simpa using hp))
        have HC : Hid (c + 1 + ((L.drop j).filter (fun x => !decide (x.host = s))).length = L.length - j) := Lib.hid (by
          have := hc.out
          rw [List.drop_eq_getElem_cons (show j < L.length by omega), List.filter_cons_of_neg (by simpa using hp)]
          omega)
        rw [HS.out] at HD2
        have d1 : (L[j].host.toList == s.toList) = true := by rw [str_eq]; simpa using hp
        clear hp hF hT hc hj2 he HS
        generalize L[j].host = yy at *
        generalize (sweep (fun x => !decide (x.host = s)) L (j + 1)).length = n at *
        go_wp2_with fail
        refine HD2.out.mono ?_
        rintro e w4 ⟨rfl, sv2, hF4, hT4⟩
        have HF4 := Lib.hid hF4
        have HT4 := Lib.hid hT4
        clear hF4 hT4
        go_wp2_with fail
        go_roundw
        case rel => exact ⟨j, c + 1, _, sv2, by omega, by go_num, rfl, by first | rfl | omega, HF4, HT4, HC⟩
        case measure => simp [intOf]
      · have HS := Lib.hid (sweep_keep (q := (fun x => !decide (x.host = s))) (L := L) (j := j) (by omega) (by simpa using hp))
        have HC : Hid (c + ((L.drop j).filter (fun x => !decide (x.host = s))).length = L.length - j) := Lib.hid (by
          have := hc.out
          rw [List.drop_eq_getElem_cons (show j < L.length by omega), List.filter_cons_of_pos (by simpa using hp)]
          simp only [List.length_cons]
          omega)
        have HF4 : Hid (RFs wr B mp time last (sweep (fun x => !decide (x.host = s)) L j) (.slice (some ⟨g, 0, none⟩) (sweep (fun x => !decide (x.host = s)) L (j + 1)).length cap)) := Lib.hid (by rw [← HS.out]; exact hF.out)
        have d1 : (L[j].host.toList == s.toList) = false := by rw [str_eq]; simpa using hp
        clear hp hF hc hj2 he HS HD2
        generalize L[j].host = yy at *
        generalize (sweep (fun x => !decide (x.host = s)) L (j + 1)).length = n at *
        go_wp2_with fail
        go_roundw
        case rel => exact ⟨j, c, _, _, by omega, rfl, rfl, by first | rfl | omega, HF4, hT, HC⟩
        case measure => simp [intOf]
end Go.Proofs.YtlgnhifjakkodaaDoor
