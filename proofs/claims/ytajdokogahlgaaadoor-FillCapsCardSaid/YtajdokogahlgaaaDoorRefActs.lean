/-
  The walks of the reference's health that write: NewHealth, Add, Remove.
-/
import Derived.Test.YtajdokogahlgaaaDoorRefState
import Derived.Deep.RegionLaw
namespace Go.Proofs.YtajdokogahlgaaaDoor
open Go.RowKit

theorem info_host : (Tryd.prog.info? 103).map (fun i => (i.zero, i.size, i.bytes)) = some (some (.agg #[.string ⟨#[]⟩, .bool false, .slice none 0 0]), 3, 48) := by kernel_rfl
abbrev nilS : Value := .slice none 0 0
section
variable {w w1 : World} {B mp fall rise : Nat} {rs : List Rt} {sv : Value} {vs : List Value}
theorem RefH.withL {rs' : List Rt} {v : Value} {vs' : List Value} (h : RefH w B mp fall rise rs sv vs) (hk : KeepT B [103] w w1) (ho : w1.ownsRow B 103 3 v rs'.length (flat rs' vs')) (hl : vs'.length = rs'.length)
    (hat : ∀ (i : Nat) (v : Value) (r : Rt), vs'[i]? = some v → rs'[i]? = some r → (v = nilS ∧ r.looks = []) ∨ ∃ j : Nat, vs[j]? = some v ∧ rs[j]? = some r)
    (hap : ∀ (i j : Nat) (vi vj : Value) (g : Nat), vs'[i]? = some vi → vs'[j]? = some vj → i ≠ j → vi.ownBlock = some g → vj.ownBlock ≠ some g) :
    RefH (w1.setCell ⟨mp, 2, none⟩ v) B mp fall rise rs' v vs' ∧ KeepT B [100, 103, 4] w (w1.setCell ⟨mp, 2, none⟩ v) := by
  have hb1 : Blk w1 mp 100 _ := hk.blk h.blk (by decide)
  have hk2 : KeepT B [100] w1 (w1.setCell ⟨mp, 2, none⟩ v) := (KeepT.refl _ _ _).setCell hb1 (by simp) h.base v
  have hk3 : KeepT B [100, 103, 4] w (w1.setCell ⟨mp, 2, none⟩ v) := (hk.more (by simp)).trans (hk2.more (by simp))
  refine ⟨⟨hb1.set_ 2 v, hk2.own ho (by decide), hl, fun i v' r h1 h2 => ?_, hap, h.base⟩, hk3⟩
  rcases hat i v' r h1 h2 with ⟨rfl, hr⟩ | ⟨j, h3, h4⟩
  · rw [hr]; exact ⟨rfl, .inl ⟨rfl, rfl⟩⟩
  · exact hk2.own (hk.own (h.at_ j v' r h3 h4) (by decide)) (by decide)
theorem RefH.push {v : Value} {r : Rt} {o : Obj} (h : RefH w B mp fall rise rs sv vs) (hr : r.looks = []) (hB : B ≤ w.heap.size) (hg : (w.alloc o).grownBy w1 sv.ownBlock)
    (ho : w1.ownsRow B 103 3 v (rs.length + 1) (flat rs vs ++ [.string r.host, .bool r.up, nilS])) :
    RefH (w1.setCell ⟨mp, 2, none⟩ v) B mp fall rise (rs ++ [r]) v (vs ++ [nilS]) ∧ KeepT B [100, 103, 4] w (w1.setCell ⟨mp, 2, none⟩ v) := by
  have hk : KeepT B [103] w w1 := ((KeepT.alloc0 hB o).more (by simp)).trans (KeepT.of_app (h.own.alloc o) hg (by simp; omega))
  have hlast : ∀ (i : Nat) (u : Value), (vs ++ [nilS])[i]? = some u → vs[i]? = some u ∨ (u = nilS ∧ i = vs.length) := by
    intro i u hu
    by_cases hi : i < vs.length
    · rw [List.getElem?_append_left hi] at hu; exact .inl hu
    · rw [List.getElem?_append_right (by omega)] at hu
      have hi0 : i - vs.length = 0 := by
        rcases Nat.eq_zero_or_pos (i - vs.length) with h0 | h0
        · exact h0
        · rw [List.getElem?_eq_none (by simp; omega)] at hu; cases hu
      rw [hi0] at hu
      exact .inr ⟨(Option.some.inj hu).symm, by omega⟩
  refine h.withL hk (by rw [flat_append _ _ _ _ h.len, List.length_append]; exact ho) (by simp [h.len]) (fun i u r' h1 h2 => ?_) (fun i j vi vj g h1 h2 hne hg1 hg2 => ?_)
  · rcases hlast i u h1 with h1' | ⟨rfl, rfl⟩
    · have hi : i < vs.length := (List.getElem?_eq_some_iff.1 h1').1
      rw [List.getElem?_append_left (by rw [← h.len]; exact hi)] at h2
      exact .inr ⟨i, h1', h2⟩
    · rw [h.len, List.getElem?_append_right (Nat.le_refl _)] at h2
      simp at h2
      rw [← h2]
      exact .inl ⟨rfl, hr⟩
  · rcases hlast i vi h1 with h1' | ⟨rfl, _⟩
    · rcases hlast j vj h2 with h2' | ⟨rfl, _⟩
      · exact h.apart i j vi vj g h1' h2' hne hg1 hg2
      · simp [Value.ownBlock] at hg2
    · simp [Value.ownBlock] at hg1
theorem flat_erase (rs : List Rt) (vs : List Value) (k : Nat) (hl : vs.length = rs.length) : flat (rs.eraseIdx k) (vs.eraseIdx k) = (flat rs vs).take (k * 3) ++ (flat rs vs).drop ((k + 1) * 3) := by
  rw [List.eraseIdx_eq_take_drop_succ, List.eraseIdx_eq_take_drop_succ, flat_append _ _ _ _ (by simp [hl]), flat_take, flat_drop]
theorem RefH.erase {v : Value} {k : Nat} (h : RefH w B mp fall rise rs sv vs) (hkl : k < rs.length) (hk : KeepT B [103] w w1)
    (ho : w1.ownsRow B 103 3 v (rs.length - 1) ((flat rs vs).take (k * 3) ++ (flat rs vs).drop ((k + 1) * 3))) :
    RefH (w1.setCell ⟨mp, 2, none⟩ v) B mp fall rise (rs.eraseIdx k) v (vs.eraseIdx k) ∧ KeepT B [100, 103, 4] w (w1.setCell ⟨mp, 2, none⟩ v) := by
  have hvl : k < vs.length := by rw [h.len]; exact hkl
  refine h.withL hk (by rw [flat_erase _ _ _ h.len, List.length_eraseIdx_of_lt hkl]; exact ho) (by rw [List.length_eraseIdx_of_lt hkl, List.length_eraseIdx_of_lt hvl, h.len]) (fun i u r' h1 h2 => ?_) (fun i j vi vj g h1 h2 hne hg1 hg2 => ?_)
  · rw [List.getElem?_eraseIdx] at h1 h2
    split at h1
    · rw [if_pos ‹_›] at h2; exact .inr ⟨i, h1, h2⟩
    · rw [if_neg ‹_›] at h2; exact .inr ⟨i + 1, h1, h2⟩
  · rw [List.getElem?_eraseIdx] at h1 h2
    split at h1 <;> split at h2
    · exact h.apart i j vi vj g h1 h2 hne hg1 hg2
    · exact h.apart i (j + 1) vi vj g h1 h2 (by omega) hg1 hg2
    · exact h.apart (i + 1) j vi vj g h1 h2 (by omega) hg1 hg2
    · exact h.apart (i + 1) (j + 1) vi vj g h1 h2 (by omega) hg1 hg2
end

def MutPost (B mp fall rise : Nat) (rs : List Rt) (code : Nat) (w : World) (e : Ending) (w' : World) : Prop :=
  e = .returned (.int .i64 (code : Int)) ∧ (∃ sv vs, RefH w' B mp fall rise rs sv vs) ∧ KeepT B [100, 103, 4] w w'
theorem mutPost_same {B mp fall rise : Nat} {rs : List Rt} {sv : Value} {vs : List Value} {w w' : World} (code : Nat) (h : RefH w B mp fall rise rs sv vs) (hb : Below w.heap.size w w') (hB : B ≤ w.heap.size) : MutPost B mp fall rise rs code w (.returned (.int .i64 (code : Int))) w' :=
  ⟨rfl, ⟨sv, vs, h.below hb⟩, KeepT.of_below hb hB⟩

theorem refAdd_full {B mp fall rise : Nat} {rs : List Rt} {sv : Value} {vs : List Value} (x : ByteArray) (w : World) (h : RefH w B mp fall rise rs sv vs) (hB : B ≤ w.heap.size) (hl : rs.length ≤ 1000) (h12 : 12 ≤ rs.length) :
    Calls Tryd.prog 26 #[ptr mp, .string x] w (MutPost B mp fall rise rs 2 w) := by
  obtain ⟨A, cap, hsv, hcap, hA⟩ := h.form
  have hc2 : w.cell? ⟨mp, 2, none⟩ = some (.slice A rs.length cap) := by rw [← hsv]; exact h.blk.cell 2
  have t1 : decide ((rs.length : Int) ≥ 12) = true := by simp; omega
  have HP := Lib.hid (mutPost_same 2 h (Below.refl _ _) hB)
  clear h hsv hA
  unfold ptr
  go_enter Tryd.func26, Tryd.ntmps26
  go_wp2
  go_ret
  exact HP.out
theorem refAdd_name {B mp fall rise : Nat} {rs : List Rt} {sv : Value} {vs : List Value} (x : ByteArray) (w : World) (h : RefH w B mp fall rise rs sv vs) (hB : B ≤ w.heap.size) (h12 : rs.length < 12) (hx : x.size ≤ maxLen) (hn : isName x = false) :
    Calls Tryd.prog 26 #[ptr mp, .string x] w (MutPost B mp fall rise rs 4 w) := by
  obtain ⟨A, cap, hsv, hcap, hA⟩ := h.form
  have hc2 : w.cell? ⟨mp, 2, none⟩ = some (.slice A rs.length cap) := by rw [← hsv]; exact h.blk.cell 2
  have t1 : decide ((rs.length : Int) ≥ 12) = false := by simp; omega
  have HP := Lib.hid (mutPost_same 4 h (Below.refl _ _) hB)
  have HN := Lib.hid (isName_any x w hx)
  rw [hn] at HN
  clear h hsv hA hn hx
  unfold ptr
  go_enter Tryd.func26, Tryd.ntmps26
  go_wp2_with fail
  refine HN.out.mono ?_
  rintro e w1 ⟨rfl, rfl⟩
  go_wp2
  go_ret
  exact HP.out
theorem refAdd_exist {B mp fall rise : Nat} {rs : List Rt} {sv : Value} {vs : List Value} (x : ByteArray) (w : World) (h : RefH w B mp fall rise rs sv vs) (hB : B ≤ w.heap.size) (h12 : rs.length < 12) (hx : x.size ≤ maxLen) (hn : isName x = true) (hm : x ∈ rhosts rs) :
    Calls Tryd.prog 26 #[ptr mp, .string x] w (MutPost B mp fall rise rs 6 w) := by
  obtain ⟨A, cap, hsv, hcap, hA⟩ := h.form
  have hc2 : w.cell? ⟨mp, 2, none⟩ = some (.slice A rs.length cap) := by rw [← hsv]; exact h.blk.cell 2
  have t1 : decide ((rs.length : Int) ≥ 12) = false := by simp; omega
  have HP := Lib.hid (mutPost_same 6 h (Below.refl _ _) hB)
  have HN := Lib.hid (isName_any x w hx)
  rw [hn] at HN
  have HF := Lib.hid (refFind x w h (by omega))
  obtain ⟨k, hk, hi, _⟩ := idx_mem hm
  unfold IdxPost at HF
  rw [hi] at HF
  clear h hsv hA hn hx hm hi
  unfold ptr at HF ⊢
  go_enter Tryd.func26, Tryd.ntmps26
  go_wp2_with fail
  refine HN.out.mono ?_
  rintro e w1 ⟨rfl, rfl⟩
  go_wp2_with fail
  refine HF.out.mono ?_
  rintro e w1 ⟨rfl, rfl⟩
  go_wp2
  go_ret
  exact HP.out
theorem refRemove_none {B mp fall rise : Nat} {rs : List Rt} {sv : Value} {vs : List Value} (x : ByteArray) (w : World) (h : RefH w B mp fall rise rs sv vs) (hB : B ≤ w.heap.size) (hl : rs.length ≤ 1000) (hm : x ∉ rhosts rs) :
    Calls Tryd.prog 28 #[ptr mp, .string x] w (MutPost B mp fall rise rs 5 w) := by
  have HP := Lib.hid (mutPost_same 5 h (Below.refl _ _) hB)
  have HF := Lib.hid (refFind x w h hl)
  have hi : idx (rhosts rs) x = -1 := idx_miss fun t ht e => hm (by rw [e]; exact ht)
  unfold IdxPost at HF
  rw [hi] at HF
  clear h hm hi
  unfold ptr at HF ⊢
  go_enter Tryd.func28, Tryd.ntmps28
  go_wp2_with fail
  refine HF.out.mono ?_
  rintro e w1 ⟨rfl, rfl⟩
  go_wp2
  go_ret
  exact HP.out
end Go.Proofs.YtajdokogahlgaaaDoor
