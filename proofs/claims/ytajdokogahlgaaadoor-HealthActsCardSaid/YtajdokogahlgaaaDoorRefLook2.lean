/-
  The walk of the reference's Look, where the host is found.
-/
import Derived.Test.YtajdokogahlgaaaDoorRefLook
namespace Go.Proofs.YtajdokogahlgaaaDoor
open Go.RowKit

theorem KeepT.setNew {B : Nat} {ts : List TypeId} {w w1 : World} {g i : Nat} (h : KeepT B ts w w1) (hg : w.heap.size ≤ g) (hB : B ≤ w.heap.size) (u : Value) : KeepT B ts w (w1.setCell ⟨g, i, none⟩ u) :=
  ⟨h.1.setCell (p := ⟨g, i, none⟩) (Nat.le_trans hB hg) u, fun g' o ho hoff => (Below.heap_setCell w1 ⟨g, i, none⟩ u g' (by have := lt_of_heap ho; intro e; dsimp only at e; omega)).trans (h.2 g' o ho hoff)⟩

/-- Behind the append: the box, the new row of looks, all others. -/
structure Mid (w W : World) (B k bx : Nat) (rs : List Rt) (vs : List Value) (host : ByteArray) (up : Bool) (v' : Value) (l' : List Bool) : Prop where
  x : XAt W B bx host up v' l'
  keep : KeepT B [4] w W
  new : w.heap.size ≤ bx
  oth : ∀ (i : Nat) (vi : Value), i ≠ k → vs[i]? = some vi → (∀ (r : Rt), rs[i]? = some r → W.ownsRow B 4 1 vi r.looks.length (boolsV r.looks)) ∧ ∀ g', (vi.ownBlock = some g' → v'.ownBlock ≠ some g') ∧ (v'.ownBlock = some g' → vi.ownBlock ≠ some g')
section
variable {w W : World} {B mp fall rise k bx g cap : Nat} {rs : List Rt} {vs : List Value} {host : ByteArray} {up : Bool} {v' : Value} {l' : List Bool}
theorem Mid.drewN (h : Mid w W B k bx rs vs host up v' l') (m : Nat) : Mid w (W.drewN m) B k bx rs vs host up v' l' := ⟨h.x.drewN m, h.keep.drewN m, h.new, h.oth⟩
theorem Mid.drew (h : Mid w W B k bx rs vs host up v' l') : Mid w W.drew B k bx rs vs host up v' l' := h.drewN 1
theorem Mid.cells (h : Mid w W B k bx rs vs host up v' l') : W.cell? ⟨bx, 0, none⟩ = some (.string host) ∧ W.cell? ⟨bx, 1, none⟩ = some (.bool up) ∧ W.cell? ⟨bx, 2, none⟩ = some v' ∧ W.frozen? ⟨bx, 1, none⟩ = false ∧ W.frozen? ⟨bx, 2, none⟩ = false :=
  ⟨h.x.blk.cell 0, h.x.blk.cell 1, h.x.blk.cell 2, h.x.blk.frozen 1, h.x.blk.frozen 2⟩
theorem Mid.keepR {sv : Value} (h : Mid w W B k bx rs vs host up v' l') (hR : RefH w B mp fall rise rs sv vs) : W.ownsRow B 103 3 sv rs.length (flat rs vs) := h.keep.own hR.own (by decide)
theorem row_of {w : World} {B : Nat} {rs : List Rt} {vs : List Value} {sv : Value} (ho : w.ownsRow B 103 3 sv rs.length (flat rs vs)) (hl : vs.length = rs.length) {k g cap : Nat} (hk : k < rs.length) (hsv : sv = .slice (some ⟨g, 0, none⟩) rs.length cap) :
    w.cell? ⟨g, k * 3, none⟩ = some (.string rs[k].host) ∧ w.cell? ⟨g, k * 3 + 1, none⟩ = some (.bool rs[k].up) ∧ w.cell? ⟨g, k * 3 + 2, none⟩ = some (vs[k]'(by rw [hl]; exact hk)) := by
  have hv : k < vs.length := by rw [hl]; exact hk
  obtain ⟨a, b, c⟩ := flat_at rs vs k rs[k] vs[k] (List.getElem?_eq_getElem hk) (List.getElem?_eq_getElem hv)
  rw [hsv] at ho
  exact ⟨(ho.cellAt (k * 3) (by omega)).trans a, (ho.cellAt (k * 3 + 1) (by omega)).trans b, (ho.cellAt (k * 3 + 2) (by omega)).trans c⟩
/-- Not turned: the box is laid back. -/
theorem Mid.fin0 (h : Mid w W B k bx rs vs host up v' l') (hR : RefH w B mp fall rise rs (.slice (some ⟨g, 0, none⟩) rs.length cap) vs) (hk : k < rs.length) :
    LookRPost B mp fall rise rs k (⟨host, up, l'⟩, false) w (.returned (.tuple #[.bool false, .int .i64 0])) (((W.setCell ⟨g, k * 3, none⟩ (.string host)).setCell ⟨g, k * 3 + 1, none⟩ (.bool up)).setCell ⟨g, k * 3 + 2, none⟩ v') := by
  obtain ⟨a, b⟩ := hR.lay (r' := ⟨host, up, l'⟩) (v' := v') hk h.keep h.x.own h.oth
  exact ⟨rfl, ⟨_, _, a⟩, b.more (by simp)⟩
/-- Turned: no looks are left. -/
theorem Mid.fin1 (h : Mid w W B k bx rs vs host up v' l') (hB : B ≤ w.heap.size) (hR : RefH w B mp fall rise rs (.slice (some ⟨g, 0, none⟩) rs.length cap) vs) (hk : k < rs.length) (nu : Bool) :
    LookRPost B mp fall rise rs k (⟨host, nu, []⟩, true) w (.returned (.tuple #[.bool true, .int .i64 0])) (((((W.setCell ⟨bx, 1, none⟩ (.bool nu)).setCell ⟨bx, 2, none⟩ nilS).setCell ⟨g, k * 3, none⟩ (.string host)).setCell ⟨g, k * 3 + 1, none⟩ (.bool nu)).setCell ⟨g, k * 3 + 2, none⟩ nilS) := by
  have hx1 : Blk (W.setCell ⟨bx, 1, none⟩ (.bool nu)) bx 103 _ := h.x.blk.set_ 1 _
  have kk : KeepT bx [103] W ((W.setCell ⟨bx, 1, none⟩ (.bool nu)).setCell ⟨bx, 2, none⟩ nilS) := ((KeepT.refl _ _ _).setCell h.x.blk (by simp) (Nat.le_refl _) _).setCell hx1 (by simp) (Nat.le_refl _) _
  obtain ⟨a, b⟩ := hR.lay (r' := ⟨host, nu, []⟩) (v' := nilS) (w1 := (W.setCell ⟨bx, 1, none⟩ (.bool nu)).setCell ⟨bx, 2, none⟩ nilS) hk ((h.keep.setNew h.new hB _).setNew h.new hB _) ⟨rfl, .inl ⟨rfl, rfl⟩⟩ (fun i vi hi hv => ⟨fun r hr => by
    have := (h.oth i vi hi hv).1 r hr
    exact kk.own this (by decide), fun g' => ⟨fun _ => by simp [Value.ownBlock], fun e => by simp [Value.ownBlock] at e⟩⟩)
  exact ⟨rfl, ⟨_, _, a⟩, b.more (by simp)⟩
theorem LookRPost.drew {r : Rt × Bool} {e : Ending} (h : LookRPost B mp fall rise rs k r w e W) : LookRPost B mp fall rise rs k r w e W.drew := by
  obtain ⟨he, ⟨sv, vs, hR⟩, hk⟩ := h
  exact ⟨he, ⟨sv, vs, hR.below (below_drewN (Below.refl _ _) 1)⟩, hk.drewN 1⟩
/-- Behind the append. -/
theorem RefH.mid {w3 : World} {r : Rt} {v : Value} {well : Bool} {o2 : Obj} (hR : RefH w B mp fall rise rs (.slice (some ⟨g, 0, none⟩) rs.length cap) vs) (hB : B ≤ w.heap.size) (hr : rs[k]? = some r) (hv : vs[k]? = some v)
    (hg : ((w.alloc (.cells #[.string r.host, .bool r.up, v] 103)).alloc o2).grownBy w3 v.ownBlock) (ho : w3.ownsRow B 4 1 v' (r.looks.length + 1) (boolsV r.looks ++ [.bool well]))
    (hd : v'.ownBlock = v.ownBlock ∨ v'.ownBlock = some ((w.alloc (.cells #[.string r.host, .bool r.up, v] 103)).alloc o2).heap.size) :
    Mid w (w3.setCell ⟨w.heap.size, 2, none⟩ v') B k w.heap.size rs vs r.host r.up v' (r.looks ++ [well]) ∧ w3.cell? ⟨w.heap.size, 2, none⟩ = some v ∧ w3.frozen? ⟨w.heap.size, 2, none⟩ = false ∧ w.heap.size < w3.heap.size := by
  have hov := hR.at_ k v r hv hr
  have hba : Below w.heap.size w ((w.alloc (.cells #[.string r.host, .bool r.up, v] 103)).alloc o2) := ((Below.refl _ _).alloc (Nat.le_refl _) _).alloc (by simp) _
  have hob := own_below hov hba
  have k1 : KeepT B [4] w w3 := (KeepT.of_below hba hB).trans (KeepT.of_app hob hg (Nat.le_trans hB hba.size))
  have hbx : Blk w3 w.heap.size 103 #[.string r.host, .bool r.up, v] := by
    have h0 : Blk ((w.alloc (.cells #[.string r.host, .bool r.up, v] 103)).alloc o2) w.heap.size 103 _ := (Blk.new w _ _).alloc _
    exact h0.grown hg (fun e => own_blk_ne hob h0 (by decide) e.symm)
  have hkx : KeepT B [103] w3 (w3.setCell ⟨w.heap.size, 2, none⟩ v') := (KeepT.refl _ _ _).setCell hbx (by simp) hB _
  have e1 : (r.looks ++ [well]).length = r.looks.length + 1 := by simp
  have e2 : boolsV (r.looks ++ [well]) = boolsV r.looks ++ [.bool well] := by simp [boolsV]
  refine ⟨⟨⟨hbx.set_ 2 _, ?_⟩, k1.setNew (Nat.le_refl _) hB _, Nat.le_refl _, fun i vi hi hvi => ⟨fun r' hr' => ?_, fun g' => ?_⟩⟩, hbx.cell 2, hbx.frozen 2, hbx.lt⟩
  · rw [e1, e2]; exact hkx.own ho (by decide)
  · have h1 := own_below (hR.at_ i vi r' hvi hr') hba
    refine hkx.own (h1.kept hg ?_) (by decide)
    cases hvo : vi.ownBlock with
    | none => exact .inl rfl
    | some g1 => exact .inr (fun e => hR.apart i k vi v g1 hvi hv hi hvo e.symm)
  · have hil : i < rs.length := by rw [← hR.len]; exact (List.getElem?_eq_some_iff.1 hvi).1
    have hlt := (hR.at_ i vi rs[i] hvi (List.getElem?_eq_getElem hil)).lt
    constructor
    · intro h1 h2
      rcases hd with hd | hd
      · rw [hd] at h2; exact hR.apart i k vi v g' hvi hv hi h1 h2
      · rw [hd] at h2
        have := (hlt g' h1).2
        have := Option.some.inj h2
        simp at this; omega
    · intro h1 h2
      rcases hd with hd | hd
      · rw [hd] at h1; exact hR.apart k i v vi g' hv hvi (Ne.symm hi) h1 h2
      · rw [hd] at h1
        have := (hlt g' h2).2
        have := Option.some.inj h1
        simp at this; omega
end
theorem look_cell (w : World) (o : Obj) (u : Value) (t : TypeId) : ∀ (j : Nat) (x : Value), [u][j]? = some x → ((w.alloc o).alloc (.cells #[u] t)).cell? ((⟨w.heap.size + 1, 0, none⟩ : Addr).add j) = some x := by
  intro j x hx
  have h0 : j = 0 := by
    rcases Nat.eq_zero_or_pos j with h | h
    · exact h
    · rw [List.getElem?_eq_none (by simp; omega)] at hx; cases hx
  subst h0
  have hB := Blk.new (w.alloc o) t #[u]
  have e : (w.alloc o).heap.size = w.heap.size + 1 := by simp
  rw [e] at hB
  exact (hB.cell 0).trans (by simpa using hx)

set_option maxRecDepth 100000 in
set_option maxHeartbeats 4000000 in
theorem refLook_found {B mp fall rise k : Nat} {rs : List Rt} {sv : Value} {vs : List Value} (x : ByteArray) (well : Bool) (w : World) (h : RefH w B mp fall rise rs sv vs) (hB : B ≤ w.heap.size) (hl : rs.length ≤ 1000) (hi : idx (rhosts rs) x = k) (hk : k < rs.length) (hlk : rs[k].looks.length ≤ 1000) :
    Calls Tryd.prog 30 #[ptr mp, .string x, .bool well] w (LookRPost B mp fall rise rs k (lookR fall rise rs[k] well) w) := by
  obtain ⟨A, cap, hsv, hcap, hA⟩ := h.form
  obtain ⟨g, rfl⟩ := hA k hk
  subst hsv
  have hc0 : w.cell? ⟨mp, 0, none⟩ = some (.int .i64 (fall : Int)) := h.blk.cell 0
  have hc1 : w.cell? ⟨mp, 1, none⟩ = some (.int .i64 (rise : Int)) := h.blk.cell 1
  have hc2 : w.cell? ⟨mp, 2, none⟩ = some (.slice (some ⟨g, 0, none⟩) rs.length cap) := h.blk.cell 2
  obtain ⟨a0, a1, a2⟩ := h.row hk rfl
  have HF := Lib.hid (refFind x w h hl)
  unfold IdxPost at HF
  rw [hi] at HF
  have hvk : k < vs.length := by rw [h.len]; exact hk
  have hgr : rs[k]? = some rs[k] := List.getElem?_eq_getElem hk
  have hgv : vs[k]? = some vs[k] := List.getElem?_eq_getElem hvk
  have hov := h.at_ k _ _ hgv hgr
  obtain ⟨i0, hi0, hz0, hz1, hz2⟩ := info_parts info_bool
  have hkl : (k : Int) < rs.length := by omega
  have hmpl : mp < w.heap.size := h.blk.lt
  have HH := Lib.hid h
  generalize hrr : rs[k] = r at *
  generalize hvv : vs[k] = v at *
  have HGR := Lib.hid hgr
  have HGV := Lib.hid hgv
  have HI := Lib.hid hi
  have hgl : g < w.heap.size := (h.own.lt g rfl).2
  obtain ⟨Av, cv, hv, _⟩ := own_slice hov
  subst hv
  obtain ⟨host, up, looks⟩ := r
  dsimp only at *
  clear h hi hA hrr hvv hgr hgv
  cases up with
  | false =>
    unfold ptr at HF ⊢
    go_enter Tryd.func30, Tryd.ntmps30
    go_wp2_with fail
    refine HF.out.mono ?_
    rintro e w1 ⟨rfl, rfl⟩
    go_wp2_with (at_builtin
                 go_must (refine wpList_append_any _ rfl (.tmp 26) (.tmp 28) _ rfl B 4 i0 (.bool false) 1 1 Tryd.underlying101 hi0 hz0 hz1 hz2 rfl (by decide) _ _ _ rfl ((hov.alloc _).alloc _) (w.heap.size + 2) (some ⟨w.heap.size + 1, 0, none⟩) 1 1 [.bool well] rfl ⟨rfl, fun _ => ⟨_, rfl, by simp, look_cell w _ _ _⟩⟩ (by simp [Value.oneCell']) (by simp only [maxLen]; omega) (by omega) (by simp; omega) ?_)
                 intro v' w3 hown3 hgrow hd
                 obtain ⟨hmid, m1, m2, m3⟩ := HH.out.mid (well := well) hB HGR.out HGV.out hgrow hown3 hd
                 have HM := Lib.hid hmid
                 obtain ⟨g3, cap3, hv3, _⟩ := hown3.form (by omega)
                 subst hv3
                 clear hmid)
    have hlen : (looks ++ [well]).length = looks.length + 1 := by simp
    have HT : Hid (lookR fall rise ⟨host, false, looks⟩ well = if (if false then fall else rise) ≤ tr false (looks ++ [well]) then (⟨host, !false, []⟩, true) else (⟨host, false, looks ++ [well]⟩, false)) := Lib.hid rfl
    generalize w3.setCell ⟨w.heap.size, 2, none⟩ (.slice (some ⟨g3, 0, none⟩) (looks.length + 1) cap3) = W at *
    generalize looks ++ [well] = l' at *
    have hlt' := tr_le false l'
    have HLEN := Lib.hid hlen
    clear hlen hlt'
    go_loopw [10] (fun kv wr => ∃ j m : Nat, j ≤ looks.length + 1 ∧ j ≤ tr false l' ∧ kv = .int .i64 (j : Int) ∧ wr = W.drewN m) (fun kv _ => looks.length + 1 - (intOf kv).toNat)
    case atStart => exact ⟨0, 0, by omega, by omega, rfl, rfl⟩
    case round =>
      obtain ⟨j, m, hj, hjt, rfl, rfl⟩ := hrel
      obtain ⟨x0, x1, x2, f1, f2⟩ := HM.out.cells
      by_cases hlt : j < looks.length + 1
      · obtain ⟨b, hb, hb1, hb2⟩ := tr_step hjt (by rw [HLEN.out]; exact hlt)
        have hxo := HM.out.x.own
        rw [HLEN.out] at hxo
        have y := hxo.cellAt (l'.length - 1 - j) (by rw [HLEN.out]; omega)
        have hyb : (boolsV l')[l'.length - 1 - j]? = some (.bool b) := by simp [boolsV, hb]
        rw [hyb, HLEN.out, show looks.length + 1 - 1 - j = looks.length - j by omega] at y
        have k1 : (j : Int) < (looks.length : Int) + 1 := by omega
        have k2 : 0 ≤ (looks.length : Int) - j := by omega
        have k3 : (looks.length : Int) - j < (looks.length : Int) + 1 := by omega
        have k4 : ((looks.length : Int) - j).toNat = looks.length - j := by omega
        clear hb hyb hxo
        by_cases hbu : b = false
        · have hn := hb2 hbu
          subst hbu
          have HN := Lib.hid hn
          clear hb1 hb2 hn
          obtain ⟨y0, y1, y2⟩ := row_of (HM.out.keepR HH.out) HH.out.len hk rfl
          have yb := (HM.out.keep.blk HH.out.blk (by decide))
          have z0 := yb.cell 0
          have z1 := yb.cell 1
          have z2 := yb.cell 2
          have yf := fun i => (HM.out.keep.own HH.out.own (by decide)).frozenAt i
          have hgn : ¬ g = w.heap.size := by omega
          clear yb
          by_cases ht : rise ≤ j
          · have HL : Hid (lookR fall rise ⟨host, false, looks⟩ well = (⟨host, true, []⟩, true)) := Lib.hid (by rw [HT.out, HN.out]; simp [ht])
            have t1 : decide ((j : Int) ≥ rise) = true := by simp; omega
            go_wp2
            go_quiet (fail)
            go_wp2_with fail
            go_region
            go_wp2
            go_ret2
            rw [HL.out]
            exact ((HM.out.drewN _).fin1 hB HH.out hk _).drew
          · have HL : Hid (lookR fall rise ⟨host, false, looks⟩ well = (⟨host, false, l'⟩, false)) := Lib.hid (by rw [HT.out, HN.out]; simp [ht])
            have t1 : decide ((j : Int) ≥ rise) = false := by simp; omega
            go_wp2
            go_quiet (fail)
            go_wp2_with fail
            go_region
            go_wp2
            go_ret2
            rw [HL.out]
            exact (HM.out.drewN _).fin0 HH.out hk
        · have hn := hb1 hbu
          obtain rfl : b = !false := by cases b <;> simp_all
          clear hb1 hb2 hbu
          go_wp2
          go_quiet (fail)
          go_wp2
          go_roundw
          case rel => exact ⟨j + 1, _, by omega, by omega, by go_num, rfl⟩
          case measure => simp [intOf]; omega
      · have hn := tr_end hjt (by rw [HLEN.out]; omega)
        have HN := Lib.hid hn
        have k1 : decide ((j : Int) < (looks.length : Int) + 1) = false := by simp; omega
        clear hn
        obtain ⟨y0, y1, y2⟩ := row_of (HM.out.keepR HH.out) HH.out.len hk rfl
        have yb := (HM.out.keep.blk HH.out.blk (by decide))
        have z0 := yb.cell 0
        have z1 := yb.cell 1
        have z2 := yb.cell 2
        have yf := fun i => (HM.out.keep.own HH.out.own (by decide)).frozenAt i
        have hgn : ¬ g = w.heap.size := by omega
        clear yb
        by_cases ht : rise ≤ j
        · have HL : Hid (lookR fall rise ⟨host, false, looks⟩ well = (⟨host, true, []⟩, true)) := Lib.hid (by rw [HT.out, HN.out]; simp [ht])
          have t1 : decide ((j : Int) ≥ rise) = true := by simp; omega
          go_wp2
          go_quiet (fail)
          go_wp2_with fail
          go_region
          go_wp2
          go_ret2
          rw [HL.out]
          exact ((HM.out.drewN _).fin1 hB HH.out hk _).drew
        · have HL : Hid (lookR fall rise ⟨host, false, looks⟩ well = (⟨host, false, l'⟩, false)) := Lib.hid (by rw [HT.out, HN.out]; simp [ht])
          have t1 : decide ((j : Int) ≥ rise) = false := by simp; omega
          go_wp2
          go_quiet (fail)
          go_wp2_with fail
          go_region
          go_wp2
          go_ret2
          rw [HL.out]
          exact (HM.out.drewN _).fin0 HH.out hk
  | true =>
    unfold ptr at HF ⊢
    go_enter Tryd.func30, Tryd.ntmps30
    go_wp2_with fail
    refine HF.out.mono ?_
    rintro e w1 ⟨rfl, rfl⟩
    go_wp2_with (at_builtin
                 go_must (refine wpList_append_any _ rfl (.tmp 26) (.tmp 28) _ rfl B 4 i0 (.bool false) 1 1 Tryd.underlying101 hi0 hz0 hz1 hz2 rfl (by decide) _ _ _ rfl ((hov.alloc _).alloc _) (w.heap.size + 2) (some ⟨w.heap.size + 1, 0, none⟩) 1 1 [.bool well] rfl ⟨rfl, fun _ => ⟨_, rfl, by simp, look_cell w _ _ _⟩⟩ (by simp [Value.oneCell']) (by simp only [maxLen]; omega) (by omega) (by simp; omega) ?_)
                 intro v' w3 hown3 hgrow hd
                 obtain ⟨hmid, m1, m2, m3⟩ := HH.out.mid (well := well) hB HGR.out HGV.out hgrow hown3 hd
                 have HM := Lib.hid hmid
                 obtain ⟨g3, cap3, hv3, _⟩ := hown3.form (by omega)
                 subst hv3
                 clear hmid)
    have hlen : (looks ++ [well]).length = looks.length + 1 := by simp
    have HT : Hid (lookR fall rise ⟨host, true, looks⟩ well = if (if true then fall else rise) ≤ tr true (looks ++ [well]) then (⟨host, !true, []⟩, true) else (⟨host, true, looks ++ [well]⟩, false)) := Lib.hid rfl
    generalize w3.setCell ⟨w.heap.size, 2, none⟩ (.slice (some ⟨g3, 0, none⟩) (looks.length + 1) cap3) = W at *
    generalize looks ++ [well] = l' at *
    have hlt' := tr_le true l'
    have HLEN := Lib.hid hlen
    clear hlen hlt'
    go_loopw [10] (fun kv wr => ∃ j m : Nat, j ≤ looks.length + 1 ∧ j ≤ tr true l' ∧ kv = .int .i64 (j : Int) ∧ wr = W.drewN m) (fun kv _ => looks.length + 1 - (intOf kv).toNat)
    case atStart => exact ⟨0, 0, by omega, by omega, rfl, rfl⟩
    case round =>
      obtain ⟨j, m, hj, hjt, rfl, rfl⟩ := hrel
      obtain ⟨x0, x1, x2, f1, f2⟩ := HM.out.cells
      by_cases hlt : j < looks.length + 1
      · obtain ⟨b, hb, hb1, hb2⟩ := tr_step hjt (by rw [HLEN.out]; exact hlt)
        have hxo := HM.out.x.own
        rw [HLEN.out] at hxo
        have y := hxo.cellAt (l'.length - 1 - j) (by rw [HLEN.out]; omega)
        have hyb : (boolsV l')[l'.length - 1 - j]? = some (.bool b) := by simp [boolsV, hb]
        rw [hyb, HLEN.out, show looks.length + 1 - 1 - j = looks.length - j by omega] at y
        have k1 : (j : Int) < (looks.length : Int) + 1 := by omega
        have k2 : 0 ≤ (looks.length : Int) - j := by omega
        have k3 : (looks.length : Int) - j < (looks.length : Int) + 1 := by omega
        have k4 : ((looks.length : Int) - j).toNat = looks.length - j := by omega
        clear hb hyb hxo
        by_cases hbu : b = true
        · have hn := hb2 hbu
          subst hbu
          have HN := Lib.hid hn
          clear hb1 hb2 hn
          obtain ⟨y0, y1, y2⟩ := row_of (HM.out.keepR HH.out) HH.out.len hk rfl
          have yb := (HM.out.keep.blk HH.out.blk (by decide))
          have z0 := yb.cell 0
          have z1 := yb.cell 1
          have z2 := yb.cell 2
          have yf := fun i => (HM.out.keep.own HH.out.own (by decide)).frozenAt i
          have hgn : ¬ g = w.heap.size := by omega
          clear yb
          by_cases ht : fall ≤ j
          · have HL : Hid (lookR fall rise ⟨host, true, looks⟩ well = (⟨host, false, []⟩, true)) := Lib.hid (by rw [HT.out, HN.out]; simp [ht])
            have t1 : decide ((j : Int) ≥ fall) = true := by simp; omega
            go_wp2
            go_quiet (fail)
            go_wp2_with fail
            go_region
            go_wp2
            go_ret2
            rw [HL.out]
            exact ((HM.out.drewN _).fin1 hB HH.out hk _).drew
          · have HL : Hid (lookR fall rise ⟨host, true, looks⟩ well = (⟨host, true, l'⟩, false)) := Lib.hid (by rw [HT.out, HN.out]; simp [ht])
            have t1 : decide ((j : Int) ≥ fall) = false := by simp; omega
            go_wp2
            go_quiet (fail)
            go_wp2_with fail
            go_region
            go_wp2
            go_ret2
            rw [HL.out]
            exact (HM.out.drewN _).fin0 HH.out hk
        · have hn := hb1 hbu
          obtain rfl : b = !true := by cases b <;> simp_all
          clear hb1 hb2 hbu
          go_wp2
          go_quiet (fail)
          go_wp2
          go_roundw
          case rel => exact ⟨j + 1, _, by omega, by omega, by go_num, rfl⟩
          case measure => simp [intOf]; omega
      · have hn := tr_end hjt (by rw [HLEN.out]; omega)
        have HN := Lib.hid hn
        have k1 : decide ((j : Int) < (looks.length : Int) + 1) = false := by simp; omega
        clear hn
        obtain ⟨y0, y1, y2⟩ := row_of (HM.out.keepR HH.out) HH.out.len hk rfl
        have yb := (HM.out.keep.blk HH.out.blk (by decide))
        have z0 := yb.cell 0
        have z1 := yb.cell 1
        have z2 := yb.cell 2
        have yf := fun i => (HM.out.keep.own HH.out.own (by decide)).frozenAt i
        have hgn : ¬ g = w.heap.size := by omega
        clear yb
        by_cases ht : fall ≤ j
        · have HL : Hid (lookR fall rise ⟨host, true, looks⟩ well = (⟨host, false, []⟩, true)) := Lib.hid (by rw [HT.out, HN.out]; simp [ht])
          have t1 : decide ((j : Int) ≥ fall) = true := by simp; omega
          go_wp2
          go_quiet (fail)
          go_wp2_with fail
          go_region
          go_wp2
          go_ret2
          rw [HL.out]
          exact ((HM.out.drewN _).fin1 hB HH.out hk _).drew
        · have HL : Hid (lookR fall rise ⟨host, true, looks⟩ well = (⟨host, true, l'⟩, false)) := Lib.hid (by rw [HT.out, HN.out]; simp [ht])
          have t1 : decide ((j : Int) ≥ fall) = false := by simp; omega
          go_wp2
          go_quiet (fail)
          go_wp2_with fail
          go_region
          go_wp2
          go_ret2
          rw [HL.out]
          exact (HM.out.drewN _).fin0 HH.out hk
end Go.Proofs.YtajdokogahlgaaaDoor
