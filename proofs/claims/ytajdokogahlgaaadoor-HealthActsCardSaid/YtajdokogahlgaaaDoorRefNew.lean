/-
  The walk of the reference's NewHealth.
-/
import Derived.Test.YtajdokogahlgaaaDoorRefActs2
namespace Go.Proofs.YtajdokogahlgaaaDoor
open Go.RowKit

def rfresh (l : List ByteArray) : List Rt := l.map fun s => ⟨s, true, []⟩
theorem rfresh_take {l : List ByteArray} {k : Nat} (hk : k < l.length) : rfresh (l.take (k + 1)) = rfresh (l.take k) ++ [⟨l[k], true, []⟩] := by
  unfold rfresh; rw [List.take_succ_eq_append_getElem hk, List.map_append]; rfl
theorem rfresh_length (l : List ByteArray) (k : Nat) (hk : k ≤ l.length) : (rfresh (l.take k)).length = k := by simp [rfresh]; omega
def NewRef (l : List ByteArray) (fall rise : Nat) (w : World) (e : Ending) (w' : World) : Prop :=
  ∃ mp sv vs, e = .returned (ptr mp) ∧ RefH w' w.heap.size mp fall rise (rfresh l) sv vs ∧ Below w.heap.size w w'

theorem grown_undrew {a w : World} {row : Option Nat} (h : a.drew.grownBy w row) : a.grownBy w row := ⟨h.os, h.tape, h.output, h.size, h.block⟩
theorem RefH.push_drew {w w1 : World} {B mp fall rise : Nat} {rs : List Rt} {sv v : Value} {vs : List Value} {r : Rt} {o : Obj} (h : RefH w B mp fall rise rs sv vs) (hr : r.looks = []) (hB : B ≤ w.heap.size) (hg : (w.alloc o).drew.grownBy w1 sv.ownBlock) {n : Nat} (hn : Hid (rs.length = n))
    (ho : w1.ownsRow B 103 3 v (n + 1) (flat rs vs ++ [.string r.host, .bool r.up, nilS])) :
    Hid (RefH (w1.setCell ⟨mp, 2, none⟩ v) B mp fall rise (rs ++ [r]) v (vs ++ [nilS]) ∧ KeepT B [100, 103, 4] w (w1.setCell ⟨mp, 2, none⟩ v)) ∧
      w1.cell? ⟨mp, 2, none⟩ = some sv ∧ w1.frozen? ⟨mp, 2, none⟩ = false := by
  have hg2 := grown_undrew hg
  have hb3 : Blk w1 mp 100 _ := (((KeepT.alloc0 hB o).more (by simp)).trans (KeepT.of_app (h.own.alloc o) hg2 (by simp; omega)) : KeepT B [103] w w1).blk h.blk (by decide)
  exact ⟨Lib.hid (h.push hr hB hg2 (by rw [hn.out]; exact ho)), hb3.cell 2, hb3.frozen 2⟩

set_option maxRecDepth 100000 in
set_option maxHeartbeats 2000000 in
theorem refNew (A : Option Addr) (c B : Nat) (l : List ByteArray) (fall rise : Nat) (w : World) (hr : Reads w B 1 A l.length (strV l)) (hB : B ≤ w.heap.size) (hl : l.length ≤ 12) :
    Calls Tryd.prog 23 #[.slice A l.length c, .int .i64 (fall : Int), .int .i64 (rise : Int)] w (NewRef l fall rise w) := by
  obtain ⟨i0, hi0, hz0, hz1, hz2⟩ := info_parts info_host
  go_enter Tryd.func23, Tryd.ntmps23
  go_wp2_with fail
  go_loopw [8] (fun iv wr => ∃ (k : Nat) (sv : Value) (vs : List Value), k ≤ l.length ∧ iv = .int .i64 (k : Int) ∧ RefH wr w.heap.size w.heap.size fall rise (rfresh (l.take k)) sv vs ∧ Below w.heap.size w wr) (fun iv _ => l.length - (intOf iv).toNat)
  case atStart => exact ⟨0, nilS, [], Nat.zero_le _, rfl, ⟨Blk.new _ _ _, ⟨rfl, .inl ⟨rfl, rfl⟩⟩, rfl, fun i p s h => by simp at h, fun i j vi vj g h => by simp at h, Nat.le_refl _⟩, (Below.refl _ _).alloc (Nat.le_refl _) _⟩
  case round =>
    obtain ⟨k, sv, vs, hk, rfl, hH, hb⟩ := hrel
    by_cases hlt : k < l.length
    · have hrr : Reads wr B 1 A l.length (strV l) := hr.keep fun p hp => hb.cell (by omega)
      obtain ⟨ad, rfl, hc⟩ := str_at hrr hlt
      have hlt2 : (k : Int) < l.length := by omega
      have c2 : wr.cell? ⟨w.heap.size, 2, none⟩ = some sv := hH.blk.cell 2
      have hfl := rfresh_length l k hk
      have hown := hH.own
      rw [hfl] at hown
      obtain ⟨Av, cv, hsv, _⟩ := own_slice hown
      subst hsv
      have hml : w.heap.size < wr.heap.size := hH.blk.lt
      have hmn : ¬ w.heap.size = wr.heap.size := by omega
      have HH := Lib.hid hH
      have HK := Lib.hid hfl
      have HO := Lib.hid hown
      clear hH hfl hown
      have HW : Hid (((wr.alloc (.cells #[.string l[k], .bool true, nilS] 103)).drew).ownsRow w.heap.size 103 3 (.slice Av k cv) k (flat (rfresh (l.take k)) vs)) := Lib.hid (HO.out.alloc _)
      have HR2 : Hid (Reads ((wr.alloc (.cells #[.string l[k], .bool true, nilS] 103)).drew) (wr.heap.size + 1) 3 (some ⟨wr.heap.size, 0, none⟩) 1 [.string l[k], .bool true, nilS]) := Lib.hid ⟨rfl, fun _ => ⟨_, rfl, by simp, host_cell wr ⟨l[k], true, []⟩⟩⟩
      have hbw : w.heap.size ≤ ((wr.alloc (.cells #[.string l[k], .bool true, nilS] 103)).drew).heap.size := by have := hb.size; simp; omega
      have HBW := Lib.hid hbw
      clear hbw
      go_wp2_with fail
      go_region_law ((refine step_append_any _ rfl (.tmp 23) (.tmp 29) _ rfl w.heap.size 103 i0 _ 3 48 Tryd.underlying98 hi0 hz0 hz1 hz2 rfl (by omega) (.slice Av k cv) k _ (by simp [Act.eval]) HW.out (wr.heap.size + 1) (some ⟨wr.heap.size, 0, none⟩) 1 1 _ (by simp [Act.eval]) HR2.out (by simp [Value.oneCell']) (by simp only [maxLen]; omega) (by omega) HBW.out ?_
                      intro v' w3 hown3 hgrow _
                      obtain ⟨HP, cc, cf⟩ := HH.out.push_drew (r := ⟨l[k], true, []⟩) rfl hb.size hgrow HK hown3
                      obtain ⟨A3, cap3, hv3, _⟩ := own_slice hown3
                      subst hv3))
      all_goals
        go_wp2
        go_roundw
        case rel => exact ⟨k + 1, _, _, by omega, by go_num, by rw [rfresh_take hlt]; exact HP.out.1, hb.trans (HP.out.2.1)⟩
        case measure => simp [intOf]; omega
    · have hge : (l.length : Int) ≤ k := by omega
      have HH := Lib.hid hH
      clear hH
      go_wp2
      go_ret
      have hfin := HH.out
      rw [List.take_of_length_le (by omega)] at hfin
      exact ⟨w.heap.size, sv, vs, rfl, hfin, hb⟩
end Go.Proofs.YtajdokogahlgaaaDoor
