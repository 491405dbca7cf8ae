/-
  The reference's health in memory, and the walks that read it: Find, IsUp, Ups.
-/
import Derived.Test.YtajdokogahlgaaaDoorRefHealth
namespace Go.Proofs.YtajdokogahlgaaaDoor
open Go.RowKit

/-- One host of the reference: all looks since its last turn. -/
structure Rt where
  host : ByteArray
  up : Bool
  looks : List Bool
def boolsV (l : List Bool) : List Value := l.map Value.bool
def flat : List Rt → List Value → List Value
  | r :: rs, v :: vs => .string r.host :: .bool r.up :: v :: flat rs vs
  | _, _ => []
theorem flat_length : ∀ (rs : List Rt) (vs : List Value), vs.length = rs.length → (flat rs vs).length = rs.length * 3
  | [], _, _ => rfl
  | _ :: _, [], h => by cases h
  | r :: rs, v :: vs, h => by simp only [flat, List.length_cons]; rw [flat_length rs vs (by simpa using h)]; omega
theorem flat_at : ∀ (rs : List Rt) (vs : List Value) (k : Nat) (r : Rt) (v : Value), rs[k]? = some r → vs[k]? = some v →
    (flat rs vs)[k * 3]? = some (.string r.host) ∧ (flat rs vs)[k * 3 + 1]? = some (.bool r.up) ∧ (flat rs vs)[k * 3 + 2]? = some v
  | [], _, _, _, _, h, _ => by cases h
  | _ :: _, [], _, _, _, _, h => by cases h
  | r :: rs, v :: vs, 0, r', v', h, h' => by cases h; cases h'; exact ⟨rfl, rfl, rfl⟩
  | r :: rs, v :: vs, k + 1, r', v', h, h' => by
      have := flat_at rs vs k r' v' h h'
      rw [show (k + 1) * 3 = k * 3 + 1 + 1 + 1 by omega]
      exact this
theorem flat_append : ∀ (rs rs' : List Rt) (vs vs' : List Value), vs.length = rs.length → flat (rs ++ rs') (vs ++ vs') = flat rs vs ++ flat rs' vs'
  | [], rs', [], vs', _ => rfl
  | [], _, _ :: _, _, h => by cases h
  | _ :: _, _, [], _, h => by cases h
  | r :: rs, rs', v :: vs, vs', h => by simp only [List.cons_append, flat]; rw [flat_append rs rs' vs vs' (by simpa using h)]
theorem flat_take : ∀ (rs : List Rt) (vs : List Value) (k : Nat), (flat rs vs).take (k * 3) = flat (rs.take k) (vs.take k)
  | _, _, 0 => by simp [flat]
  | [], _, k + 1 => by simp [flat]
  | r :: rs, [], k + 1 => by simp [flat]
  | r :: rs, v :: vs, k + 1 => by
      rw [show (k + 1) * 3 = k * 3 + 1 + 1 + 1 by omega]
      simp only [flat, List.take_succ_cons]
      rw [flat_take rs vs k]
theorem flat_drop : ∀ (rs : List Rt) (vs : List Value) (k : Nat), (flat rs vs).drop (k * 3) = flat (rs.drop k) (vs.drop k)
  | _, _, 0 => by simp
  | [], _, k + 1 => by simp [flat]
  | r :: rs, [], k + 1 => by simp [flat]
  | r :: rs, v :: vs, k + 1 => by
      rw [show (k + 1) * 3 = k * 3 + 1 + 1 + 1 by omega]
      simp only [flat, List.drop_succ_cons]
      rw [flat_drop rs vs k]
theorem flat_set : ∀ (rs : List Rt) (vs : List Value) (k : Nat) (r : Rt) (v : Value), vs.length = rs.length → k < rs.length →
    (((flat rs vs).set (k * 3) (.string r.host)).set (k * 3 + 1) (.bool r.up)).set (k * 3 + 2) v = flat (rs.set k r) (vs.set k v)
  | [], _, _, _, _, _, h => absurd h (by simp)
  | _ :: _, [], _, _, _, h, _ => by cases h
  | r :: rs, v :: vs, 0, r', v', _, _ => by simp [flat]
  | r :: rs, v :: vs, k + 1, r', v', h, hk => by
      rw [show (k + 1) * 3 = k * 3 + 1 + 1 + 1 by omega]
      simp only [flat, List.set_cons_succ]
      rw [← flat_set rs vs k r' v' (by simpa using h) (by simpa using hk)]

/-- The reference's health in memory: its block mp, the slice sv of hosts, the slices vs of their looks. -/
structure RefH (w : World) (B mp fall rise : Nat) (rs : List Rt) (sv : Value) (vs : List Value) : Prop where
  blk : Blk w mp 100 #[.int .i64 (fall : Int), .int .i64 (rise : Int), sv]
  own : w.ownsRow B 103 3 sv rs.length (flat rs vs)
  len : vs.length = rs.length
  at_ : ∀ (i : Nat) (v : Value) (r : Rt), vs[i]? = some v → rs[i]? = some r → w.ownsRow B 4 1 v r.looks.length (boolsV r.looks)
  apart : ∀ (i j : Nat) (vi vj : Value) (g : Nat), vs[i]? = some vi → vs[j]? = some vj → i ≠ j → vi.ownBlock = some g → vj.ownBlock ≠ some g
  base : B ≤ mp
section
variable {w w' : World} {B mp fall rise : Nat} {rs : List Rt} {sv : Value} {vs : List Value}
theorem RefH.below (h : RefH w B mp fall rise rs sv vs) (hb : Below w.heap.size w w') : RefH w' B mp fall rise rs sv vs :=
  ⟨h.blk.below hb h.blk.lt, own_below h.own hb, h.len, fun i v r h1 h2 => own_below (h.at_ i v r h1 h2) hb, h.apart, h.base⟩
theorem RefH.keep {ts : List TypeId} (h : RefH w B mp fall rise rs sv vs) (hk : KeepT B ts w w') (h1 : 100 ∉ ts) (h2 : 103 ∉ ts) (h3 : 4 ∉ ts) : RefH w' B mp fall rise rs sv vs :=
  ⟨hk.blk h.blk h1, hk.own h.own h2, h.len, fun i v r a b => hk.own (h.at_ i v r a b) h3, h.apart, h.base⟩
theorem HealthR.keep {hp : Nat} {st : List St} {ps : List Nat} {ts : List TypeId} (h : HealthR w B hp fall rise st sv ps) (hk : KeepT B ts w w') (h1 : 92 ∉ ts) (h2 : 93 ∉ ts) (h3 : 95 ∉ ts) : HealthR w' B hp fall rise st sv ps :=
  ⟨hk.blk h.blk h1, hk.own h.own h2, h.len, fun i p s a b => hk.blk (h.at_ i p s a b) h3, h.nodup, h.base⟩
/-- What a walk reads of a host. -/
theorem RefH.row (h : RefH w B mp fall rise rs sv vs) {k g cap : Nat} (hk : k < rs.length) (hsv : sv = .slice (some ⟨g, 0, none⟩) rs.length cap) :
    w.cell? ⟨g, k * 3, none⟩ = some (.string rs[k].host) ∧ w.cell? ⟨g, k * 3 + 1, none⟩ = some (.bool rs[k].up) ∧ w.cell? ⟨g, k * 3 + 2, none⟩ = some (vs[k]'(by rw [h.len]; exact hk)) := by
  have hv : k < vs.length := by rw [h.len]; exact hk
  obtain ⟨a, b, c⟩ := flat_at rs vs k rs[k] vs[k] (List.getElem?_eq_getElem hk) (List.getElem?_eq_getElem hv)
  have ho := h.own
  rw [hsv] at ho
  exact ⟨(ho.cellAt (k * 3) (by omega)).trans a, (ho.cellAt (k * 3 + 1) (by omega)).trans b, (ho.cellAt (k * 3 + 2) (by omega)).trans c⟩
theorem RefH.form (h : RefH w B mp fall rise rs sv vs) : ∃ A cap, sv = .slice A rs.length cap ∧ rs.length ≤ cap ∧ ∀ k, k < rs.length → ∃ g, A = some ⟨g, 0, none⟩ := by
  obtain ⟨A, cap, hsv, _, hc, _⟩ := own_slice h.own
  refine ⟨A, cap, hsv, hc, fun k hk => ?_⟩
  obtain ⟨g, cap', hsv', _⟩ := h.own.form (by omega)
  rw [hsv] at hsv'
  injection hsv' with hA
  exact ⟨g, hA⟩
end

def rhosts (rs : List Rt) : List ByteArray := rs.map (·.host)
theorem rhosts_length (rs : List Rt) : (rhosts rs).length = rs.length := by simp [rhosts]
theorem rhosts_get {rs : List Rt} {k : Nat} (hk : k < rs.length) : (rhosts rs)[k]'(by rw [rhosts_length]; exact hk) = rs[k].host := by simp [rhosts]

set_option maxRecDepth 100000 in
set_option maxHeartbeats 1000000 in
theorem refFind {B mp fall rise : Nat} {rs : List Rt} {sv : Value} {vs : List Value} (x : ByteArray) (w : World) (h : RefH w B mp fall rise rs sv vs) (hl : rs.length ≤ 1000) :
    Calls Tryd.prog 57 #[ptr mp, .string x] w (IdxPost (rhosts rs) x w) := by
  obtain ⟨A, cap, hsv, hcap, hA⟩ := h.form
  have hc2 : w.cell? ⟨mp, 2, none⟩ = some (.slice A rs.length cap) := by rw [← hsv]; exact h.blk.cell 2
  have HH := Lib.hid h
  have HSV := Lib.hid hsv
  have HA := Lib.hid hA
  have HL := rhosts_length rs
  have HLL := Lib.hid HL
  clear h hsv hA HL
  unfold ptr
  go_enter Tryd.func57, Tryd.ntmps57
  go_wp2_with fail
  go_loop [4, 5] (fun _ iv => ∃ k : Nat, k ≤ rs.length ∧ iv = .int .i64 (k : Int) ∧ Hid (∀ t ∈ (rhosts rs).take k, x ≠ t)) (fun _ iv => rs.length - (intOf iv).toNat)
  case atStart => exact ⟨0, Nat.zero_le _, rfl, Lib.hid (by simp)⟩
  case round =>
    obtain ⟨k, hk, rfl, ht⟩ := hrel
    by_cases hlt : k < rs.length
    · obtain ⟨g, rfl⟩ := HA.out k hlt
      obtain ⟨a, _, _⟩ := HH.out.row hlt HSV.out
      have hlt2 : (k : Int) < rs.length := by omega
      have hlr : k < (rhosts rs).length := by rw [HLL.out]; exact hlt
      have hge := rhosts_get hlt
      by_cases he : x = rs[k].host
      · have hB : (rs[k].host.toList == x.toList) = true := by rw [str_eq]; simpa using he.symm
        have HE : Hid (x = (rhosts rs)[k]) := Lib.hid (by rw [hge]; exact he)
        clear he hge
        go_wp2
        go_ret
        exact ⟨by rw [idx_hit hlr ht.out HE.out]; rfl, rfl⟩
      · have hB : (rs[k].host.toList == x.toList) = false := by rw [str_eq]; simpa using (fun e => he e.symm)
        have HE : Hid (x ≠ (rhosts rs)[k]) := Lib.hid (by rw [hge]; exact he)
        clear he hge
        go_wp2
        go_round
        case rel => exact ⟨k + 1, by omega, by go_num, take_miss hlr ht HE.out⟩
        case measure => simp [intOf]; omega
    · have hge : (rs.length : Int) ≤ k := by omega
      go_wp2
      go_ret
      exact ⟨by rw [idx_miss (all_miss (by rw [HLL.out]; omega) ht)]; rfl, rfl⟩
def rUp (rs : List Rt) (x : ByteArray) : Bool := match idx (rhosts rs) x with
  | .ofNat k => match rs[k]? with
    | some r => r.up
    | none => false
  | .negSucc _ => false
theorem refIsUp {B mp fall rise : Nat} {rs : List Rt} {sv : Value} {vs : List Value} (x : ByteArray) (w : World) (h : RefH w B mp fall rise rs sv vs) (hl : rs.length ≤ 1000) :
    Calls Tryd.prog 32 #[ptr mp, .string x] w fun e w' => e = .returned (.bool (rUp rs x)) ∧ w = w' := by
  have HF := Lib.hid (refFind x w h hl)
  unfold IdxPost at HF
  by_cases hm : x ∈ rhosts rs
  · obtain ⟨k, hk, hi, _⟩ := idx_mem hm
    rw [rhosts_length] at hk
    have hU : rUp rs x = rs[k].up := by unfold rUp; rw [hi]; simp [hk]
    rw [hU]
    rw [hi] at HF
    obtain ⟨A, cap, hsv, hcap, hA⟩ := h.form
    obtain ⟨g, rfl⟩ := hA k hk
    obtain ⟨a, b, c⟩ := h.row hk hsv
    have hc2 : w.cell? ⟨mp, 2, none⟩ = some (.slice (some ⟨g, 0, none⟩) rs.length cap) := by rw [← hsv]; exact h.blk.cell 2
    have hk2 : (k : Int) < rs.length := by omega
    clear a c
    clear h hU hi hsv hA
    unfold ptr at HF ⊢
    go_enter Tryd.func32, Tryd.ntmps32
    go_wp2_with (go_at_call 57; refine HF.out.mono ?_; rintro e w1 ⟨rfl, rfl⟩)
    go_ret
    exact ⟨rfl, rfl⟩
  · have hi : idx (rhosts rs) x = -1 := idx_miss fun t ht e => hm (by rw [e]; exact ht)
    have hU : rUp rs x = false := by unfold rUp; rw [hi]; rfl
    rw [hU]
    rw [hi] at HF
    clear h hU hi
    unfold ptr at HF ⊢
    go_enter Tryd.func32, Tryd.ntmps32
    go_wp2_with (go_at_call 57; refine HF.out.mono ?_; rintro e w1 ⟨rfl, rfl⟩)
    go_ret
    exact ⟨rfl, rfl⟩

def rups (rs : List Rt) : List ByteArray := (rs.filter fun s => s.up).map (·.host)
theorem rups_succ {st : List Rt} {k : Nat} (hk : k < st.length) : rups (st.take (k + 1)) = if st[k].up then rups (st.take k) ++ [st[k].host] else rups (st.take k) := by
  unfold rups
  rw [List.take_succ_eq_append_getElem hk, List.filter_append, List.map_append]
  cases h : st[k].up <;> simp [h]
theorem rups_le (st : List Rt) (k : Nat) : (rups (st.take k)).length ≤ st.length := by
  unfold rups
  rw [List.length_map]
  exact Nat.le_trans (List.length_filter_le _ _) (by rw [List.length_take]; omega)

set_option maxRecDepth 100000 in
set_option maxHeartbeats 1000000 in
theorem refUps {B mp fall rise : Nat} {rs : List Rt} {sv : Value} {vs : List Value} (w : World) (h : RefH w B mp fall rise rs sv vs) (hl : rs.length ≤ 100) :
    Calls Tryd.prog 35 #[ptr mp] w (TextsPost (rups rs) w) := by
  obtain ⟨A, cap, hsv, hcap, hA⟩ := h.form
  have HH := Lib.hid h
  have HSV := Lib.hid hsv
  have HA := Lib.hid hA
  have hc2 : ∀ W, Below w.heap.size w W → W.cell? ⟨mp, 2, none⟩ = some (.slice A rs.length cap) := fun W hW => by rw [← HSV.out]; exact (h.below hW).blk.cell 2
  have HC2 := Lib.hid hc2
  have c2 := hc2 w (Below.refl _ _)
  clear h hsv hA hc2
  unfold ptr
  obtain ⟨i0, hi, hz0, hz1, hz2⟩ := info_parts info_string
  go_enter Tryd.func35, Tryd.ntmps35
  go_wp2_with fail
  go_loopw [3, 4] (fun v iv wr => ∃ k : Nat, k ≤ rs.length ∧ iv = .int .i64 (k : Int) ∧ wr.ownsRow w.heap.size 9 1 v (rups (rs.take k)).length (strV (rups (rs.take k))) ∧ Below w.heap.size w wr) (fun _ iv _ => rs.length - (intOf iv).toNat)
  case atStart => exact ⟨0, Nat.zero_le _, rfl, ⟨rfl, .inl ⟨rfl, rfl⟩⟩, Below.refl _ _⟩
  case round =>
    obtain ⟨k, hk, rfl, hown, hb⟩ := hrel
    have c2r := HC2.out wr hb
    clear c2
    by_cases hlt : k < rs.length
    · obtain ⟨g, hg⟩ := HA.out k hlt
      subst hg
      obtain ⟨a, b, c⟩ := (HH.out.below hb).row hlt HSV.out
      clear c
      have hlt2 : (k : Int) < rs.length := by omega
      have hup := rups_le rs k
      have HS := Lib.hid (rups_succ hlt)
      generalize hst : rs[k] = s at *
      have HST := Lib.hid hst
      clear hst
      obtain ⟨host, up, looks⟩ := s
      dsimp only at *
      cases up with
      | false =>
        go_wp2
        go_roundw
        case rel => exact ⟨k + 1, by omega, by go_num, by rw [HS.out]; exact hown, hb⟩
        case measure => simp [intOf]; omega
      | true =>
        go_wp2_with (at_builtin
                     refine wpList_append_own _ rfl _ _ 39 rfl w.heap.size 9 i0 (.string ⟨#[]⟩) 1 16 Tryd.underlying39 hi hz0 hz1 hz2 rfl (by decide) _ _ _ rfl (hown.alloc _) ⟨wr.heap.size, 0, none⟩ 1 1 [.string host] rfl rfl (cell_one_new _ _ _) (by simp [Value.oneCell']) (by simp only [maxLen]; omega) (by omega) (size_alloc1 hb) ?_
                     intro v' w3 hown3 hgrow _)
        go_roundw
        case rel =>
          have e : strV (rups (List.take k rs) ++ [host]) = strV (rups (List.take k rs)) ++ [.string host] := by simp [strV]
          exact ⟨k + 1, by omega, by go_num, by rw [HS.out]; simp only [if_true]; rw [e, List.length_append]; exact hown3, below_app1 hb hown hgrow⟩
        case measure => simp [intOf]; omega
    · have hge : (rs.length : Int) ≤ k := by omega
      have hfin : Hid (rs.take k = rs) := Lib.hid (List.take_of_length_le (by omega))
      go_wp2
      go_ret
      rw [hfin.out] at hown
      exact textsPost_of hown hb
end Go.Proofs.YtajdokogahlgaaaDoor
