/-
  fill.Place, whatever it is given; the closed fact filled.
-/
import Derived.Test.YtbbbnnooaaelmaaDoorFillPlace
namespace Go.Proofs.YtbbbnnooaaelmaaDoor
open Go.RowKit Go.Maps

def PlaceBad (ea : Nat → Addr) (f : Flt) (w : World) (e : Ending) (w' : World) : Prop := ∃ t a, e = .returned (.tuple #[.slice none 0 0, .iface t (.pointer (some a))]) ∧ IsErr ea w' f t a ∧ Below w.heap.size w w'
set_option maxRecDepth 100000 in
set_option maxHeartbeats 1000000 in
theorem place_bad0 (ea : Nat → Addr) (A : Option Addr) (c : Nat) (l : List ByteArray) (copies : Int) (A2 : Option Addr) (c2 : Nat) (keys : List Nat) (p : Int) (f : Flt) (w : World) (hE : ErrsR ea w) (hI : PlaceIn w A c l A2 keys) (hf : ringFault l copies = some f) :
    Calls Tryd.prog 41 #[.slice A l.length c, .int .i64 copies, .slice A2 keys.length c2, .int .i64 p] w (PlaceBad ea f w) := by
  have HN := Lib.hid (ringNew_bad ea A c w.heap.size l copies f w hE hI.r (Nat.le_refl _) hI.lc hI.lm hI.s hf)
  clear hE hI hf
  go_enter Tryd.func41, Tryd.ntmps41
  go_wp2_with fail
  refine HN.out.mono ?_
  rintro e w1 ⟨t, a, rfl, hI, hb⟩
  go_wp2
  go_ret2
  exact ⟨t, a, rfl, hI, hb⟩
set_option maxRecDepth 100000 in
set_option maxHeartbeats 1000000 in
theorem place_bad1 (ea : Nat → Addr) (A : Option Addr) (c : Nat) (l : List ByteArray) (copies : Int) (A2 : Option Addr) (c2 : Nat) (keys : List Nat) (p : Int) (w : World) (hE : ErrsR ea w) (hI : PlaceIn w A c l A2 keys) (hf : ringFault l copies = none) (hp : p < 0 ∨ 100 < p) (hk : keys.length ≤ 500) :
    Calls Tryd.prog 41 #[.slice A l.length c, .int .i64 copies, .slice A2 keys.length c2, .int .i64 p] w (PlaceBad ea ⟨2, none⟩ w) := by
  obtain ⟨h0, ho, h1, h2⟩ := ringFault_none hf
  obtain ⟨h12, _, _⟩ := hostsFault_none.1 ho
  obtain ⟨cp, rfl⟩ := Int.eq_ofNat_of_zero_le (by omega : 0 ≤ copies)
  have HN := Lib.hid (ringNew_made ea A c w.heap.size l cp w hE.e3 hI.r (Nat.le_refl _) hI.lc hI.lm hI.s hf)
  have HC := Lib.hid (fun W hW => cap_bad ea keys.length l.length p W hW hk (by omega) h12 hp)
  have HE := Lib.hid hE
  clear hE hI hf ho hp
  go_enter Tryd.func41, Tryd.ntmps41
  go_wp2_with fail
  refine HN.out.mono ?_
  rintro e w1 ⟨rp, rfl, _, hb1⟩
  go_wp2_with fail
  refine (HC.out _ (HE.out.below hb1)).mono ?_
  rintro e w2 ⟨t, a, rfl, hI, hb2⟩
  go_wp2
  go_ret2
  exact ⟨t, a, rfl, hI, below_two hb1 hb2⟩
theorem PlaceDup.bad {ea : Nat → Addr} {keys : List Nat} {w w' : World} {e : Ending} (h : PlaceDup ea keys w e w') : ∃ i, PlaceBad ea ⟨6, some i⟩ w e w' := by
  obtain ⟨t, a, i, _, he, hI, hb, _⟩ := h
  exact ⟨i, t, a, he, hI, hb⟩
/-- Either an error and no places, or the places. -/
def PlaceAny (ea : Nat → Addr) (l : List ByteArray) (copies p : Int) (keys : List Nat) (w : World) (e : Ending) (w' : World) : Prop :=
  (∃ f, PlaceBad ea f w e w') ∨ (ringFault l copies = none ∧ 0 ≤ p ∧ p ≤ 100 ∧ PlaceGood l copies.toNat (capN keys.length l.length p.toNat) keys w e w')
theorem place_any (ea : Nat → Addr) (A : Option Addr) (c : Nat) (l : List ByteArray) (copies : Int) (A2 : Option Addr) (c2 : Nat) (keys : List Nat) (p : Int) (w : World) (hE : ErrsR ea w) (hI : PlaceIn w A c l A2 keys) (hk : keys.length ≤ 500) :
    Calls Tryd.prog 41 #[.slice A l.length c, .int .i64 copies, .slice A2 keys.length c2, .int .i64 p] w (PlaceAny ea l copies p keys w) := by
  cases hf : ringFault l copies with
  | some f => exact (place_bad0 ea A c l copies A2 c2 keys p f w hE hI hf).mono fun e w' h => .inl ⟨f, h⟩
  | none =>
    by_cases hp : p < 0 ∨ 100 < p
    · exact (place_bad1 ea A c l copies A2 c2 keys p w hE hI hf hp hk).mono fun e w' h => .inl ⟨_, h⟩
    · obtain ⟨_, _, h1, _⟩ := ringFault_none hf
      obtain ⟨cp, rfl⟩ := Int.eq_ofNat_of_zero_le (by omega : 0 ≤ copies)
      obtain ⟨pn, rfl⟩ := Int.eq_ofNat_of_zero_le (by omega : 0 ≤ p)
      refine (place_ok ea A c l cp A2 c2 keys pn w hE hI hf (by omega) hk).mono fun e w' h => ?_
      rcases h with h | h
      · obtain ⟨i, h⟩ := h.bad
        exact .inl ⟨_, h⟩
      · exact .inr ⟨hf, by omega, by omega, h⟩

def nmB : ByteArray := ⟨#[98]⟩
theorem two_fault : ringFault [nmA, nmB] 1 = none := by
  unfold ringFault
  rw [if_neg (by simp), show hostsFault [nmA, nmB] = none by decide +kernel]; rfl
theorem two_xs {l : List ByteArray} {cp : Nat} {keys xs : List Nat} (h : PlaceOK l cp 1 keys xs) (h2 : xs.length = 2) : ∃ a b : Nat, xs = [a, b] ∧ a ≠ b := by
  match xs, h2 with
  | [a, b], _ =>
    refine ⟨a, b, rfl, fun e => ?_⟩
    obtain ⟨s, _, hc, _⟩ := h 1 b rfl
    subst e
    simp at hc
theorem two_cells {w w' : World} {A : Option Addr} {a b : Nat} {c : Nat} (h : w'.ownsRow w.heap.size 3 1 (.slice A 2 c) 2 (numsV [a, b])) : ∃ g, A = some ⟨g, 0, none⟩ ∧ w'.cell? ⟨g, 0, none⟩ = some (.int .i64 (a : Int)) ∧ w'.cell? ⟨g, 1, none⟩ = some (.int .i64 (b : Int)) := by
  obtain ⟨g, cap', hv, _, _⟩ := h.form (by simp)
  have hA : A = some ⟨g, 0, none⟩ := by injection hv
  subst hA
  exact ⟨g, rfl, (h.cellAt 0 (by simp)).trans rfl, (h.cellAt 1 (by simp)).trans rfl⟩
def FilledPost (w : World) (e : Ending) (w' : World) : Prop := ∃ g c a b, e = .returned (.tuple #[.slice (some ⟨g, 0, none⟩) 2 c, .nilIface]) ∧ w'.cell? ⟨g, 0, none⟩ = some (.int .i64 (a : Int)) ∧ w'.cell? ⟨g, 1, none⟩ = some (.int .i64 (b : Int)) ∧ ((a : Int) == (b : Int)) = false ∧ ((a : Int) != (b : Int)) = true ∧ 2 ≤ c ∧ Below w.heap.size w w'
theorem place_two (ea : Nat → Addr) (w W : World) (hE : ErrsR ea w) (hW : W = (w.alloc (.cells #[.string nmA, .string nmB] 9)).alloc (.cells #[.int .u64 1, .int .u64 2] 35)) :
    Calls Tryd.prog 41 #[.slice (some ⟨w.heap.size, 0, none⟩) 2 2, .int .i64 1, .slice (some ⟨w.heap.size + 1, 0, none⟩) 2 2, .int .i64 0] W (FilledPost W) := by
  have hb1 : Below w.heap.size w (w.alloc (.cells #[.string nmA, .string nmB] 9)) := (Below.refl _ _).alloc (Nat.le_refl _) _
  have hb2 : Below w.heap.size w W := by rw [hW]; exact hb1.alloc (by simp) _
  have hI : PlaceIn W (some ⟨w.heap.size, 0, none⟩) 2 [nmA, nmB] (some ⟨w.heap.size + 1, 0, none⟩) [1, 2] := by
    refine ⟨?_, Nat.le_refl _, by decide, ?_, ?_, ?_⟩
    · rw [hW]
      exact ((lit_reads w [nmA, nmB] _ rfl).alloc (by simp) _).more (by simp)
    · intro s hs
      simp at hs
      rcases hs with rfl | rfl <;> decide
    · rw [hW]
      have := lit_keys (w.alloc (.cells #[.string nmA, .string nmB] 9)) [1, 2] _ rfl
      rw [show (w.alloc (.cells #[.string nmA, .string nmB] 9)).heap.size = w.heap.size + 1 by simp] at this
      exact this.more (by simp)
    · intro k hk
      simp at hk
      unfold U64; omega
  refine (place_ok ea _ 2 [nmA, nmB] 1 _ 2 [1, 2] 0 W (hE.below hb2) hI two_fault (by omega) (by simp)).mono fun e w' h => ?_
  rcases h with h | h
  · obtain ⟨t, a, i, k, _, _, _, hk, hm, _⟩ := h
    exfalso
    match i, hk with
    | 0, _ => simp at hm
    | 1, hk => simp at hk hm; omega
  · obtain ⟨xs, A, c, he, ho, hl, hOK, _, hb⟩ := h
    rw [show capN [1, 2].length [nmA, nmB].length 0 = 1 by decide] at hOK
    obtain ⟨a, b, rfl, hab⟩ := two_xs hOK hl
    have hc := own_ncap2 ho
    obtain ⟨g, rfl, c0, c1⟩ := two_cells ho
    exact ⟨g, c, a, b, he, c0, c1, by simp; omega, by simp; omega, hc, hb⟩
set_option maxRecDepth 100000 in
set_option maxHeartbeats 1000000 in
theorem filled_any (ea : Nat → Addr) (w : World) (hE : ErrsR ea w) : Calls Tryd.prog 40 #[] w (True1 w) := by
  have HN := Lib.hid (place_two ea w _ hE rfl)
  have HC := Lib.hid (fun W => cap_ok 2 2 0 W (by omega) (by omega) (by omega) (by omega))
  unfold CapPost at HC
  rw [show capN 2 2 0 = 1 by decide] at HC
  have HB : Hid (Below w.heap.size w ((w.alloc (.cells #[.string nmA, .string nmB] 9)).alloc (.cells #[.int .u64 1, .int .u64 2] 35))) := Lib.hid (((Below.refl _ _).alloc (Nat.le_refl _) _).alloc (by simp) _)
  unfold nmA nmB at HN HB
  clear hE
  go_enter Tryd.func40, Tryd.ntmps40
  go_wp2_with fail
  refine HN.out.mono ?_
  rintro e w1 ⟨g, c, a, b, rfl, c0, c1, d0, d1, hc, hb1⟩
  go_wp2_with fail
  refine (HC.out _).mono ?_
  rintro e w2 ⟨rfl, rfl⟩
  go_wp2
  go_quiet (fail)
  go_wp2
  go_ret
  exact ⟨rfl, below_drewN (below_two HB.out hb1) _⟩
end Go.Proofs.YtbbbnnooaaelmaaDoor
