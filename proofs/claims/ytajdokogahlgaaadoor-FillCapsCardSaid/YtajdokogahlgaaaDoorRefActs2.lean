/-
  The walks of the reference's health that write: NewHealth, Add, Remove, where they do.
-/
import Derived.Test.YtajdokogahlgaaaDoorRefActs
namespace Go.Proofs.YtajdokogahlgaaaDoor
open Go.RowKit

def hostObj (r : Rt) : Obj := .cells #[.string r.host, .bool r.up, nilS] 103
theorem host_cell (w : World) (r : Rt) : ∀ (j : Nat) (u : Value), [Value.string r.host, .bool r.up, nilS][j]? = some u → (w.alloc (hostObj r)).cell? ((⟨w.heap.size, 0, none⟩ : Addr).add j) = some u := by
  intro j u hu
  have hB := Blk.new w 103 #[.string r.host, .bool r.up, nilS]
  have e : ((⟨w.heap.size, 0, none⟩ : Addr).add j) = ⟨w.heap.size, j, none⟩ := by
    by_cases h0 : j = 0
    · subst h0; rfl
    · simp [Addr.add, h0]
  rw [e]
  refine (hB.cell j).trans ?_
  simpa using hu

set_option maxRecDepth 100000 in
set_option maxHeartbeats 1000000 in
theorem refAdd_ok {B mp fall rise : Nat} {rs : List Rt} {sv : Value} {vs : List Value} (x : ByteArray) (w : World) (h : RefH w B mp fall rise rs sv vs) (hB : B ≤ w.heap.size) (h12 : rs.length < 12) (hx : x.size ≤ maxLen) (hn : isName x = true) (hm : x ∉ rhosts rs) :
    Calls Tryd.prog 26 #[ptr mp, .string x] w (MutPost B mp fall rise (rs ++ [⟨x, false, []⟩]) 0 w) := by
  obtain ⟨A, cap, hsv, hcap, hA⟩ := h.form
  subst hsv
  have hc2 : w.cell? ⟨mp, 2, none⟩ = some (.slice A rs.length cap) := h.blk.cell 2
  have t1 : decide ((rs.length : Int) ≥ 12) = false := by simp; omega
  have HN := Lib.hid (isName_any x w hx)
  rw [hn] at HN
  have HF := Lib.hid (refFind x w h (by omega))
  have hi : idx (rhosts rs) x = -1 := idx_miss fun t ht e => hm (by rw [e]; exact ht)
  unfold IdxPost at HF
  rw [hi] at HF
  obtain ⟨i0, hi0, hz0, hz1, hz2⟩ := info_parts info_host
  have hown := h.own
  have HH := Lib.hid h
  clear h hA hn hx hm hi
  unfold ptr at HF ⊢
  go_enter Tryd.func26, Tryd.ntmps26
  go_wp2_with fail
  refine HN.out.mono ?_
  rintro e w1 ⟨rfl, rfl⟩
  go_wp2_with fail
  refine HF.out.mono ?_
  rintro e w1 ⟨rfl, rfl⟩
  go_wp2_with (at_builtin
               refine wpList_append_own _ rfl _ _ 98 rfl B 103 i0 _ 3 48 Tryd.underlying98 hi0 hz0 hz1 hz2 rfl (by decide) _ _ _ rfl (hown.alloc _) ⟨w.heap.size, 0, none⟩ 1 1 [.string x, .bool false, nilS] rfl rfl (host_cell w ⟨x, false, []⟩) (by simp [Value.oneCell']) (by simp only [maxLen]; omega) (by omega) (by simp; omega) ?_
               intro v' w3 hown3 hgrow _
               obtain ⟨hp1, hp2⟩ := HH.out.push (r := ⟨x, false, []⟩) rfl hB hgrow hown3
               have hb3 : Blk w3 mp 100 _ := (((KeepT.alloc0 hB _).more (by simp)).trans (KeepT.of_app (HH.out.own.alloc _) hgrow (by simp; omega)) : KeepT B [103] w w3).blk HH.out.blk (by decide)
               have cc := hb3.cell 2
               have cf := hb3.frozen 2
               have HP1 := Lib.hid hp1
               have HP2 := Lib.hid hp2
               clear hb3 hp1 hp2
               obtain ⟨A3, cap3, hv3, _⟩ := own_slice hown3
               subst hv3)
  go_ret
  exact ⟨rfl, ⟨_, _, HP1.out⟩, HP2.out⟩

theorem Reads.take {w : World} {B n k size : Nat} {A : Option Addr} {xs : List Value} (h : Reads w B size A n xs) (hk : k ≤ n) : Reads w B size A k (xs.take (k * size)) := by
  refine ⟨by rw [List.length_take, h.1]; exact Nat.min_eq_left (Nat.mul_le_mul_right _ hk), fun h0 => ?_⟩
  obtain ⟨ad, e, hb, hc⟩ := h.2 (by omega)
  refine ⟨ad, e, hb, fun j u hu => hc j u ?_⟩
  rw [List.getElem?_take] at hu
  split at hu
  · exact hu
  · cases hu
theorem flat_one : ∀ (rs : List Rt) (vs : List Value), (∀ v ∈ vs, v.oneCell' = true) → ∀ u ∈ flat rs vs, u.oneCell' = true
  | [], _, _, _, hu => by simp [flat] at hu
  | _ :: _, [], _, _, hu => by simp [flat] at hu
  | r :: rs, v :: vs, h, u, hu => by
      simp only [flat, List.mem_cons] at hu
      rcases hu with rfl | rfl | rfl | hu
      · rfl
      · rfl
      · exact h _ (List.mem_cons_self)
      · exact flat_one rs vs (fun v hv => h v (List.mem_cons_of_mem _ hv)) u hu
theorem RefH.one {w : World} {B mp fall rise : Nat} {rs : List Rt} {sv : Value} {vs : List Value} (h : RefH w B mp fall rise rs sv vs) : ∀ u ∈ flat rs vs, u.oneCell' = true :=
  flat_one rs vs fun v hv => by
    obtain ⟨i, hi, rfl⟩ := List.mem_iff_getElem.1 hv
    have hr : i < rs.length := by rw [← h.len]; exact hi
    rcases (h.at_ i vs[i] rs[i] (List.getElem?_eq_getElem hi) (List.getElem?_eq_getElem hr)).2 with ⟨e, _⟩ | ⟨g, cap, cur, e, _⟩ <;> rw [e] <;> rfl

set_option maxRecDepth 100000 in
set_option maxHeartbeats 2000000 in
theorem refRemove_ok {B mp fall rise k : Nat} {rs : List Rt} {sv : Value} {vs : List Value} (x : ByteArray) (w : World) (h : RefH w B mp fall rise rs sv vs) (hB : B ≤ w.heap.size) (hl : rs.length ≤ 1000) (hi : idx (rhosts rs) x = k) (hk : k < rs.length) :
    Calls Tryd.prog 28 #[ptr mp, .string x] w (MutPost B mp fall rise (rs.eraseIdx k) 0 w) := by
  obtain ⟨A, cap, hsv, hcap, hA⟩ := h.form
  obtain ⟨g, rfl⟩ := hA k hk
  subst hsv
  have hc2 : w.cell? ⟨mp, 2, none⟩ = some (.slice (some ⟨g, 0, none⟩) rs.length cap) := h.blk.cell 2
  have HF := Lib.hid (refFind x w h hl)
  unfold IdxPost at HF
  rw [hi] at HF
  obtain ⟨i0, hi0, hz0, hz1, hz2⟩ := info_parts info_host
  have hone := h.one
  have hr1 := (Reads.of_own h.own).take (k := k) (by omega)
  have hlen := flat_length rs vs h.len
  have HN1 := Lib.hid (fun u (hu : u ∈ (flat rs vs).take (k * 3)) => hone u (List.mem_of_mem_take hu))
  have HN2 := Lib.hid (fun u (hu : u ∈ (flat rs vs).drop ((k + 1) * 3)) => hone u (List.mem_of_mem_drop hu))
  have HR1 := Lib.hid hr1
  have HH := Lib.hid h
  have hkl : (k : Int) < rs.length := by omega
  have hkc : (k : Int) ≤ cap := by omega
  have hk1 : (k : Int) + 1 ≤ rs.length := by omega
  have hk2 : ((k : Int) + 1).toNat = k + 1 := by omega
  clear h hi hA hone hr1 hlen
  unfold ptr at HF ⊢
  have hnc : (k : Int) + 1 ≤ cap := by omega
  have hfin : ∀ (w1 w2 : World) (v1 v2 : Value), w1.ownsRow B 103 3 v1 k ((flat rs vs).take (k * 3)) → w.grownBy w1 none → w1.grownBy w2 v1.ownBlock → w2.ownsRow B 103 3 v2 (k + (rs.length - (k + 1))) ((flat rs vs).take (k * 3) ++ (flat rs vs).drop ((k + 1) * 3)) →
      MutPost B mp fall rise (rs.eraseIdx k) 0 w (.returned (.int .i64 0)) (w2.setCell ⟨mp, 2, none⟩ v2) ∧ Blk w2 mp 100 #[.int .i64 (fall : Int), .int .i64 (rise : Int), .slice (some ⟨g, 0, none⟩) rs.length cap] := by
    intro w1 w2 v1 v2 h1 hg1 hg2 h2
    have k1 : KeepT B [103] w w1 := KeepT.of_grown hg1 hB (fun _ e => by cases e)
    have k2 := k1.trans (KeepT.of_app h1 hg2 (Nat.le_trans hB hg1.size))
    rw [show k + (rs.length - (k + 1)) = rs.length - 1 by omega] at h2
    obtain ⟨a, b⟩ := HH.out.erase hk k2 h2
    exact ⟨⟨rfl, ⟨_, _, a⟩, b⟩, k2.blk HH.out.blk (by decide)⟩
  have HFIN := Lib.hid hfin
  clear hfin
  by_cases hcc : cap = k + 1
  · subst hcc
    have e0 : Hid (rs.length - (k + 1) = 0) := Lib.hid (by omega)
    have e1 : Hid ((flat rs vs).drop ((k + 1) * 3) = []) := Lib.hid (List.drop_eq_nil_of_le (by rw [flat_length _ _ HH.out.len]; omega))
    have hsrc : ∀ w1 : World, w.grownBy w1 none → Reads w1 w1.heap.size 3 (some ⟨g, 0, none⟩) 0 [] := fun w1 _ => ⟨rfl, fun h => absurd h (by omega)⟩
    have HS := Lib.hid hsrc
    clear hsrc
    go_enter Tryd.func28, Tryd.ntmps28
    go_wp2_with fail
    refine HF.out.mono ?_
    rintro e w1 ⟨rfl, rfl⟩
    go_wp2_with (first
      | (at_builtin
         refine wpList_append_any _ rfl (.tmp 12) (.tmp 18) _ rfl B 103 i0 _ 3 48 Tryd.underlying98 hi0 hz0 hz1 hz2 rfl (by omega) (.slice none 0 0) 0 [] rfl (World.ownsRow_nil _ _ _ _) w.heap.size (some ⟨g, 0, none⟩) k (k + 1) _ rfl HR1.out HN1.out (by simp only [maxLen]; omega) (by omega) hB ?_
         intro v1 w1 hown1 hg1 _
         simp only [Nat.zero_add, List.nil_append] at hown1
         have HO1 := Lib.hid hown1
         have HG1 := Lib.hid hg1
         have hc3 := ((KeepT.of_grown (B := B) (ts := []) hg1 hB (fun _ e => by cases e)).blk HH.out.blk (by decide)).cell 2
         have hz1' := hg1.size
         clear hown1 hg1)
      | (at_builtin
         go_must (refine wpList_append_any _ rfl (.tmp 21) (.tmp 28) _ rfl B 103 i0 _ 3 48 Tryd.underlying98 hi0 hz0 hz1 hz2 rfl (by omega) _ k _ rfl HO1.out _ (some ⟨g, 0, none⟩) 0 0 _ rfl (HS.out _ HG1.out) (by simp) (by simp only [maxLen]; omega) (by omega) (Nat.le_trans hB HG1.out.size) ?_)
         intro v2 w2 hown2 hg2 _
         obtain ⟨hp, hb⟩ := HFIN.out _ _ _ _ HO1.out HG1.out hg2 (by rw [e0.out, e1.out]; exact hown2)
         have HP := Lib.hid hp
         have c9 := hb.cell 2
         have f9 := hb.frozen 2
         clear hp hb
         obtain ⟨A3, cap3, hv3, _⟩ := own_slice hown2
         subst hv3))
    go_ret
    exact HP.out
  · have hsrc : ∀ w1 : World, w.grownBy w1 none → Reads w1 w1.heap.size 3 (some ⟨g, (k + 1) * 3, none⟩) (rs.length - (k + 1)) ((flat rs vs).drop ((k + 1) * 3)) := fun w1 hg1 => by
      have := ((Reads.of_own HH.out.own).grown hg1 (Nat.le_refl _) (fun _ e => by cases e)).cut (k := k + 1) (by omega) hcap
      rw [if_neg hcc] at this
      have e : (some (⟨g, 0, none⟩ : Addr)).map (·.add ((k + 1) * 3)) = some ⟨g, (k + 1) * 3, none⟩ := by simp [Addr.add]
      rw [e] at this
      exact this.more hg1.size
    have HS := Lib.hid hsrc
    have hrl : rs.length - (k + 1) ≤ 1000 := by omega
    clear hsrc
    go_enter Tryd.func28, Tryd.ntmps28
    go_wp2_with fail
    refine HF.out.mono ?_
    rintro e w1 ⟨rfl, rfl⟩
    go_wp2_with (first
      | (at_builtin
         refine wpList_append_any _ rfl (.tmp 12) (.tmp 18) _ rfl B 103 i0 _ 3 48 Tryd.underlying98 hi0 hz0 hz1 hz2 rfl (by omega) (.slice none 0 0) 0 [] rfl (World.ownsRow_nil _ _ _ _) w.heap.size (some ⟨g, 0, none⟩) k (cap) _ rfl HR1.out HN1.out (by simp only [maxLen]; omega) (by omega) hB ?_
         intro v1 w1 hown1 hg1 _
         simp only [Nat.zero_add, List.nil_append] at hown1
         have HO1 := Lib.hid hown1
         have HG1 := Lib.hid hg1
         have hc3 := ((KeepT.of_grown (B := B) (ts := []) hg1 hB (fun _ e => by cases e)).blk HH.out.blk (by decide)).cell 2
         have hz1' := hg1.size
         clear hown1 hg1)
      | (at_builtin
         go_must (refine wpList_append_any _ rfl (.tmp 21) (.tmp 28) _ rfl B 103 i0 _ 3 48 Tryd.underlying98 hi0 hz0 hz1 hz2 rfl (by omega) _ k _ rfl HO1.out _ (some ⟨g, (k + 1) * 3, none⟩) (rs.length - (k + 1)) ((cap) - (k + 1)) _ rfl (HS.out _ HG1.out) HN2.out (by simp only [maxLen]; omega) (by omega) (Nat.le_trans hB HG1.out.size) ?_)
         intro v2 w2 hown2 hg2 _
         obtain ⟨hp, hb⟩ := HFIN.out _ _ _ _ HO1.out HG1.out hg2 hown2
         have HP := Lib.hid hp
         have c9 := hb.cell 2
         have f9 := hb.frozen 2
         clear hp hb
         obtain ⟨A3, cap3, hv3, _⟩ := own_slice hown2
         subst hv3))
    go_ret
    exact HP.out
end Go.Proofs.YtajdokogahlgaaaDoor
