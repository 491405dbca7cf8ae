/-
  rival.Groups, whatever it is given.
-/
import Derived.Test.YtbbbnnooaaelmaaDoorGroupsPlain
import Derived.Test.YtbbbnnooaaelmaaDoorNums
namespace Go.Proofs.YtbbbnnooaaelmaaDoor
open Go.RowKit

theorem grpSt_to {B g0 n : Nat} {G G' : Nat → List Nat} {vs : Nat → Value} {w : World} (h : G' = G) (hs : GrpSt B g0 n G vs w) : GrpSt B g0 n G' vs w := by rw [h]; exact hs
def groupsFault (l : List ByteArray) (m : Nat) : Option Flt := match orderFault l with
  | some f => some f
  | none => if 500 < m then some ⟨2, none⟩ else none
def GroupsGood (l : List ByteArray) (ks : List Nat) (w : World) (e : Ending) (w' : World) : Prop := ∃ g0, e = .returned (.tuple #[.slice (some ⟨g0, 0, none⟩) l.length l.length, .nilIface]) ∧ GrpIs g0 l.length (grp l ks) w' ∧ Below w.heap.size w w'
set_option maxRecDepth 100000 in
set_option maxHeartbeats 1000000 in
theorem groups_none (ea : Nat → Addr) (A : Option Addr) (c : Nat) (A2 : Option Addr) (m c2 : Nat) (w : World) (hE : ErrsR ea w) :
    Calls Tryd.prog 56 #[.slice A 0 c, .slice A2 m c2] w (SortedBad ea ⟨5, none⟩ w) := by
  have c5 := hE.c5
  dsimp only [gv] at c5
  clear hE
  go_enter Tryd.func56, Tryd.ntmps56
  go_wp2
  go_quiet (fail)
  go_wp2
  go_ret2
  exact ⟨_, _, rfl, ⟨rfl, rfl⟩, below_drewN (Below.refl _ _) _⟩
set_option maxRecDepth 100000 in
set_option maxHeartbeats 1000000 in
theorem groups_bad (ea : Nat → Addr) (A : Option Addr) (c : Nat) (l : List ByteArray) (A2 : Option Addr) (m c2 : Nat) (f : Flt) (w : World) (hE : ErrsR ea w) (hI : TextsIn w A c l) (h0 : 0 < l.length) (hf : hostsFault l = some f) :
    Calls Tryd.prog 56 #[.slice A l.length c, .slice A2 m c2] w (SortedBad ea f w) := by
  have hlm := hI.lm
  unfold maxLen at hlm
  have z0 : ((l.length : Int) == 0) = false := beq_eq_false_iff_ne.2 (by omega)
  have z1 : ¬ l = [] := fun e => by simp [e] at h0
  have HC := Lib.hid (check_any ea A c w.heap.size l w hE.e3 hI.r (Nat.le_refl _) hI.lc hI.lm hI.s)
  unfold CheckPost at HC
  rw [hf] at HC
  clear hE hI hf h0
  go_enter Tryd.func56, Tryd.ntmps56
  go_wp2_with fail
  refine HC.out.mono ?_
  rintro e w1 ⟨t, a, rfl, hX, hb1⟩
  go_wp2
  go_ret2
  exact ⟨t, a, rfl, hX, hb1⟩
set_option maxRecDepth 100000 in
set_option maxHeartbeats 1000000 in
theorem groups_many (ea : Nat → Addr) (A : Option Addr) (c : Nat) (l : List ByteArray) (A2 : Option Addr) (m c2 : Nat) (w : World) (hE : ErrsR ea w) (hI : TextsIn w A c l) (h0 : 0 < l.length) (hf : hostsFault l = none) (hm : 500 < m) :
    Calls Tryd.prog 56 #[.slice A l.length c, .slice A2 m c2] w (SortedBad ea ⟨2, none⟩ w) := by
  have hlm := hI.lm
  unfold maxLen at hlm
  have z0 : ((l.length : Int) == 0) = false := beq_eq_false_iff_ne.2 (by omega)
  have z1 : ¬ l = [] := fun e => by simp [e] at h0
  have z2 : decide ((m : Int) > 500) = true := by simp; omega
  have HC := Lib.hid (check_any ea A c w.heap.size l w hE.e3 hI.r (Nat.le_refl _) hI.lc hI.lm hI.s)
  unfold CheckPost at HC
  rw [hf] at HC
  have HE := Lib.hid hE
  clear hE hI hf h0
  go_enter Tryd.func56, Tryd.ntmps56
  go_wp2_with fail
  refine HC.out.mono ?_
  rintro e w1 ⟨rfl, hb1⟩
  have c2 := (HE.out.below hb1).e3.c2
  dsimp only [gv] at c2
  go_wp2
  go_quiet (fail)
  go_wp2
  go_ret2
  exact ⟨_, _, rfl, ⟨rfl, rfl⟩, below_drewN hb1 _⟩
set_option maxRecDepth 100000 in
set_option maxHeartbeats 2000000 in
theorem groups_good (ea : Nat → Addr) (A : Option Addr) (c : Nat) (l : List ByteArray) (A2 : Option Addr) (c2 : Nat) (ks : List Nat) (w : World) (hE : ErrsR ea w) (hI : TextsIn w A c l) (hf : orderFault l = none) (hr : Reads w w.heap.size 1 A2 ks.length (keysV ks)) (hU : ∀ k ∈ ks, U64 k) (hm : ks.length ≤ 500) :
    Calls Tryd.prog 56 #[.slice A l.length c, .slice A2 ks.length c2] w (GroupsGood l ks w) := by
  have hlm := hI.lm
  unfold maxLen at hlm
  obtain ⟨h0, hh⟩ := orderFault_none hf
  have h12 := (hostsFault_none.1 hh).1
  have z0 : ((l.length : Int) == 0) = false := beq_eq_false_iff_ne.2 (by omega)
  have z1 : ¬ l = [] := fun e => by simp [e] at h0
  have z2 : decide ((ks.length : Int) > 500) = false := by simp; omega
  obtain ⟨i0, hi0, hz0, hz1, hz2⟩ := info_parts info_u64
  have hmk := make_groups l.length (by omega)
  have HC := Lib.hid (check_any ea A c w.heap.size l w hE.e3 hI.r (Nat.le_refl _) hI.lc hI.lm hI.s)
  unfold CheckPost at HC
  rw [hh] at HC
  have HK : Hid (∀ i (h : i < ks.length), ∃ ad, A2 = some ad ∧ KeyAt2 ad i ks[i] w) := Lib.hid fun i h => keyAt2_of hr h
  have HH : Hid (∀ i (h : i < ks.length) W, Below w.heap.size w W → Calls Tryd.prog 21 #[.slice A l.length c, .int .u64 (ks[i] : Int)] W fun e w' => ∃ x, (orderB ks[i] l)[0]? = some x ∧ HostGood x W e w') := Lib.hid fun i h W hW => by
    have := rhost_any ea A c l ks[i] W (hE.below hW) (hI.below hW) (hU _ (List.getElem_mem h))
    unfold RHostPost at this
    rw [hf] at this
    exact this
  have HX : Hid (∀ x W, Below w.heap.size w W → Calls Tryd.prog 66 #[.slice A l.length c, .string x] W (IdxPost l x W)) := Lib.hid fun x W hW => index_strings A c W.heap.size l x W (hI.below hW).r hI.lm
  clear hE hI hf hr hU hh
  go_enter Tryd.func56, Tryd.ntmps56
  go_wp2_with fail
  refine HC.out.mono ?_
  rintro e w1 ⟨rfl, hb1⟩
  have hb1a := hb1.alloc hb1.size (.cells ((List.range l.length).map fun _ => Value.slice none 0 0).toArray 53)
  have HG0 := Lib.hid (GrpSt.new w1 w.heap.size l.length)
  go_wp2_with fail
  clear hmk
  go_loopg [31] ks.length (fun g iv wr => ∃ i : Nat, g + i = ks.length ∧ iv = .int .i64 (i : Int) ∧ (∃ vs, Hid (GrpSt w.heap.size w1.heap.size l.length (grp l (ks.take i)) vs wr)) ∧ Below w.heap.size w wr)
  case atStart => exact ⟨0, by omega, rfl, ⟨_, HG0⟩, hb1a⟩
  case round =>
    obtain ⟨i, hgi, rfl, ⟨vs, hG⟩, hb⟩ := hrel
    by_cases hlt : i < ks.length
    · have hlt2 : (i : Int) < ks.length := by omega
      obtain ⟨ad, rfl, hck⟩ := HK.out i hlt
      have ck := hck wr hb
      have HHi := Lib.hid (HH.out i hlt)
      have HGT := Lib.hid (grp_take (l := l) hlt)
      have HHI := Lib.hid (fun x (h : (orderB ks[i] l)[0]? = some x) => hostIdx_of h)
      have hgl := Nat.le_trans (grp_len l (ks.take i) (hostIdx l ks[i])) (by rw [List.length_take]; omega : _ ≤ 500)
      generalize ks[i] = key at *
      generalize hostIdx l key = hk at *
      go_wp2_with fail
      refine (HHi.out _ hb).mono ?_
      rintro e w2 ⟨x, hx, rfl, hb2⟩
      obtain ⟨hkl, hxi, _⟩ := HHI.out x hx
      have hb02 := below_two hb hb2
      have HX2 := Lib.hid ((HX.out x _ hb02).mono (R' := fun e w' => e = .returned (.int .i64 (hk : Int)) ∧ w2 = w') fun e w' h => ⟨by rw [← hxi]; exact h.1, h.2⟩)
      clear hx hxi
      go_wp2_with fail
      refine HX2.out.mono ?_
      rintro e w3 ⟨rfl, rfl⟩
      obtain ⟨vs2, hv2⟩ : ∃ v : Value, v = vs hk := ⟨_, rfl⟩
      have hG2 := hG.out.below (hb2)
      have hld := hG2.load hkl
      have hfr := hG2.blk.frozen hk
      have hG3 := hG2.below ((Below.refl w2.heap.size w2).alloc (Nat.le_refl _) (.cells #[.int .u64 (key : Int)] 35))
      have HR2 := Lib.hid (hG2.row hk hkl)
      have HR3 := Lib.hid (hG3.row hk hkl)
      have HAP := Lib.hid (fun (v' : Value) (w' : World) h1 h2 h3 => hG3.app (w' := w') (k := key) (v' := v') hkl h1 h2 h3)
      have HB3 := Lib.hid hG3.blk
      have HFA := Lib.hid (hG3.far hkl)
      rw [← hv2] at hld HR2 HR3 HAP HFA
      clear hv2
      have HL3 : Hid (Reads (w2.alloc (.cells #[.int .u64 (key : Int)] 35)) (w2.heap.size + 1) 1 (some ⟨w2.heap.size, 0, none⟩) 1 [.int .u64 (key : Int)]) := Lib.hid (lit_keys w2 [key] _ rfl)
      clear hG hG2 hG3
      go_wp2_with (at_builtin
                   go_must (refine wpList_append_any _ rfl (.tmp 52) (.tmp 54) _ rfl w.heap.size 35 i0 _ 1 8 Tryd.underlying53 hi0 hz0 hz1 hz2 rfl (by omega) _ _ _ rfl HR3.out (w2.heap.size + 1) _ 1 1 _ rfl HL3.out (by simp [Value.oneCell']) (by simp only [maxLen]; omega) (by omega) (size_alloc1 hb02) ?_
                            intro v' w7 hown7 hgrow hway7
                            have hB7 := HB3.out.grown hgrow (Ne.symm HFA.out)
                            have hc7 := vals_cell hB7 hkl
                            have hf7 := hB7.frozen hk
                            have hb7 := (below_app1 hb02 HR2.out hgrow).setCell (p := ⟨w1.heap.size, hk, none⟩) hb1.size v'
                            have hG7 := HAP.out v' w7 hown7 hgrow hway7
                            obtain ⟨A7, c7, hv7, _, _, _⟩ := own_slice hown7
                            subst hv7
                            have HG7 := Lib.hid (grpSt_to HGT.out hG7)
                            clear hB7 hown7 hgrow hway7 hG7))
      go_roundg (ks.length - (i + 1))
      case rel => exact ⟨i + 1, by omega, by go_num, ⟨_, HG7⟩, hb7⟩
      case measure => omega
    · obtain rfl : i = ks.length := by omega
      have hge : ¬ ((ks.length : Int) < ks.length) := by omega
      have HI := Lib.hid hG.out.is_
      rw [List.take_length] at HI
      clear hG
      go_wp2
      go_ret2
      exact ⟨_, rfl, HI.out, hb⟩
end Go.Proofs.YtbbbnnooaaelmaaDoor
