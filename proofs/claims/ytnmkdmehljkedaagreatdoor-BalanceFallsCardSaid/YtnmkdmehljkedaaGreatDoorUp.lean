/-
  The walk of health.Up.
-/
import Derived.Test.YtnmkdmehljkedaaGreatDoorHealthNew
import Derived.Test.YtnmkdmehljkedaaGreatDoorLists
namespace Go.Proofs.YtnmkdmehljkedaaGreatDoor
open Go.RowKit

def ups (st : List St) : List ByteArray := (st.filter fun s => s.up).map (·.host)
theorem ups_succ {st : List St} {k : Nat} (hk : k < st.length) : ups (st.take (k + 1)) = if st[k].up then ups (st.take k) ++ [st[k].host] else ups (st.take k) := by
  unfold ups
  rw [List.take_succ_eq_append_getElem hk, List.filter_append, List.map_append]
  cases h : st[k].up <;> simp [h]
theorem ups_le (st : List St) (k : Nat) : (ups (st.take k)).length ≤ st.length := by
  unfold ups
  rw [List.length_map]
  exact Nat.le_trans (List.length_filter_le _ _) (by rw [List.length_take]; omega)

set_option maxRecDepth 100000 in
set_option maxHeartbeats 1000000 in
theorem up_any {B hp fall rise : Nat} {st : List St} {sv : Value} {ps : List Nat} (w : World) (h : HealthR w B hp fall rise st sv ps) (hl : st.length ≤ 100) :
    Calls Tryz.prog 10 #[ptr hp] w (TextsPost (ups st) w) := by
  obtain ⟨A, cap, rfl, hrp, _⟩ := own_slice h.own
  have hc2 : w.cell? ⟨hp, 2, none⟩ = some (.slice A st.length cap) := h.blk.cell 2
  have HH := Lib.hid h
  clear h
  unfold ptr
  obtain ⟨i0, hi, hz0, hz1, hz2⟩ := info_parts info_string
  go_enter Tryz.func10, Tryz.ntmps10
  go_wp2_with fail
  go_loopw [3, 5, 11] (fun v _ iv wr => ∃ k : Nat, k ≤ st.length ∧ iv = .int .i64 (k : Int) ∧ wr.ownsRow w.heap.size 9 1 v (ups (st.take k)).length (strV (ups (st.take k))) ∧ Below w.heap.size w wr) (fun _ _ iv _ => st.length - (intOf iv).toNat)
  case atStart => exact ⟨0, Nat.zero_le _, rfl, ⟨rfl, .inl ⟨rfl, rfl⟩⟩, Below.refl _ _⟩
  case round =>
    obtain ⟨k, hk, rfl, hown, hb⟩ := hrel
    by_cases hlt : k < st.length
    · have hkp : k < ps.length := by rw [HH.out.len]; exact hlt
      have hrk := hrp.below hb
      rw [← HH.out.len] at hrk
      obtain ⟨ad, hA, hc⟩ := ptr_at hrk hkp
      subst hA
      have hlt2 : (k : Int) < st.length := by omega
      have hB := ((HH.out.at_ k ps[k] st[k] (List.getElem?_eq_getElem hkp) (List.getElem?_eq_getElem hlt)).below hb (HH.out.lt _ (List.getElem_mem hkp)))
      have c0 : wr.cell? ⟨ps[k], 0, none⟩ = some (.string st[k].host) := hB.cell 0
      have c1 : wr.cell? ⟨ps[k], 1, none⟩ = some (.bool st[k].up) := hB.cell 1
      have hup := ups_le st k
      have HS := Lib.hid (ups_succ hlt)
      clear hB
      generalize hst : st[k] = s at *
      have HST := Lib.hid hst
      clear hst
      obtain ⟨host, up, looks⟩ := s
      dsimp only at *
      cases up with
      | false =>
        go_wp2
        go_roundw
        case rel => exact ⟨k + 1, by omega, by go_num, by rw [HS.out]; exact hown, hb⟩
        case measure => simp [intOf]; omega
      | true =>
        go_wp2_with (at_builtin
                     refine wpList_append_own _ rfl _ _ 24 rfl w.heap.size 9 i0 (.string ⟨#[]⟩) 1 16 Tryz.underlying24 hi hz0 hz1 hz2 rfl (by decide) _ _ _ rfl (hown.alloc _) ⟨wr.heap.size, 0, none⟩ 1 1 [.string host] rfl rfl (cell_one_new _ _ _) (by simp [Value.oneCell']) (by simp only [maxLen]; omega) (by omega) (size_alloc1 hb) ?_
                     intro v' w3 hown3 hgrow _)
        go_roundw
        case rel =>
          have e : strV (ups (List.take k st) ++ [host]) = strV (ups (List.take k st)) ++ [.string host] := by simp [strV]
          exact ⟨k + 1, by omega, by go_num, by rw [HS.out]; simp only [if_true]; rw [e, List.length_append]; exact hown3, below_app1 hb hown hgrow⟩
        case measure => simp [intOf]; omega
    · have hge : (st.length : Int) ≤ k := by omega
      have hfin : Hid (st.take k = st) := Lib.hid (List.take_of_length_le (by omega))
      go_wp2
      go_ret
      rw [hfin.out] at hown
      exact textsPost_of hown hb
end Go.Proofs.YtnmkdmehljkedaaGreatDoor
