/-
  ring.New where it is refused; the closed fact ringed.
-/
import Derived.Test.YtbbbnnooaaelmaaDoorRingNext
import Derived.Test.YtbbbnnooaaelmaaDoorRefHosts
namespace Go.Proofs.YtbbbnnooaaelmaaDoor
open Go.RowKit Go.Sort

def ringFault (l : List ByteArray) (copies : Int) : Option Flt := if l.length = 0 then some ⟨5, none⟩ else match hostsFault l with
  | some f => some f
  | none => if 1 ≤ copies ∧ copies ≤ 16 then none else some ⟨2, none⟩
structure ErrsR (ea : Nat → Addr) (w : World) : Prop where
  e3 : Errs3 ea w
  c5 : w.cell? ⟨gv 5, 0, none⟩ = some (.iface 206 (.pointer (some (ea (gv 5)))))
theorem ErrsR.below {ea : Nat → Addr} {w w' : World} (h : ErrsR ea w) (hb : Below w.heap.size w w') : ErrsR ea w' := ⟨h.e3.below hb, (hb.cell (p := ⟨gv 5, 0, none⟩) (lt_of_cell h.c5)).trans h.c5⟩
theorem ErrsAt.errsR {ea : Nat → Addr} {w : World} {gs : List Nat} (h : ErrsAt w ea gs) (h2 : gv 2 ∈ gs) (h4 : gv 4 ∈ gs) (h5 : gv 5 ∈ gs) (h6 : gv 6 ∈ gs) : ErrsR ea w := ⟨h.errs3 h2 h4 h6, h.cell h5⟩
def RingBad (ea : Nat → Addr) (f : Flt) (w : World) (e : Ending) (w' : World) : Prop := ∃ t a, e = .returned (.tuple #[.pointer none, .iface t (.pointer (some a))]) ∧ IsErr ea w' f t a ∧ Below w.heap.size w w'
theorem ringNew_bad (ea : Nat → Addr) (A : Option Addr) (c B : Nat) (l : List ByteArray) (copies : Int) (f : Flt) (w : World) (hE : ErrsR ea w) (hr : Reads w B 1 A l.length (strV l)) (hB : B ≤ w.heap.size) (hlc : l.length ≤ c) (hl : l.length ≤ maxLen) (hs : ∀ s ∈ l, s.size ≤ maxLen)
    (hf : ringFault l copies = some f) :
    Calls Tryd.prog 34 #[.slice A l.length c, .int .i64 copies] w (RingBad ea f w) := by
  unfold ringFault at hf
  by_cases h0 : l.length = 0
  · rw [if_pos h0] at hf
    obtain rfl := Option.some.inj hf
    have z0 : ((l.length : Int) == 0) = true := beq_iff_eq.2 (by omega)
    have z1 : l = [] := List.eq_nil_of_length_eq_zero h0
    have c5 := hE.c5
    dsimp only [gv] at c5
    subst z1
    clear hf hE h0 hs hr hlc hl
    go_enter Tryd.func34, Tryd.ntmps34
    go_wp2
    go_quiet (fail)
    go_wp2
    go_ret2
    exact ⟨_, _, rfl, ⟨rfl, rfl⟩, below_drewN (Below.refl _ _) _⟩
  rw [if_neg h0] at hf
  have z0 : ((l.length : Int) == 0) = false := beq_eq_false_iff_ne.2 (by omega)
  have z1 : ¬ l = [] := fun e => by simp [e] at h0
  have HC := Lib.hid (check_any ea A c B l w hE.e3 hr hB hlc hl hs)
  have HE := Lib.hid hE
  unfold CheckPost at HC
  unfold maxLen at hl
  cases ho : hostsFault l with
  | some f' =>
    rw [ho] at hf HC
    obtain rfl := Option.some.inj hf
    clear hf ho hE
    go_enter Tryd.func34, Tryd.ntmps34
    go_wp2_with fail
    refine HC.out.mono ?_
    rintro e w1 ⟨t, a, rfl, hI, hb⟩
    go_wp2
    go_ret2
    exact ⟨t, a, rfl, hI, hb⟩
  | none =>
    rw [ho] at hf HC
    have hc : ¬ (1 ≤ copies ∧ copies ≤ 16) := fun hc => by simp only [if_pos hc] at hf; cases hf
    simp only [if_neg hc] at hf
    obtain rfl := Option.some.inj hf
    have hw : (decide (copies < 1) = true) ∨ (decide (copies < 1) = false ∧ decide (copies > 16) = true) := by
      simp only [decide_eq_true_eq, decide_eq_false_iff_not]; omega
    clear hf ho hE hc
    rcases hw with a1 | ⟨a1, a2⟩
    all_goals
      go_enter Tryd.func34, Tryd.ntmps34
      go_wp2_with fail
      refine HC.out.mono ?_
      rintro e w1 ⟨rfl, hb⟩
      have c2 := (HE.out.below hb).e3.c2
      dsimp only [gv] at c2
      go_wp2
      go_quiet (fail)
      go_wp2
      go_ret2
      exact ⟨_, _, rfl, ⟨rfl, rfl⟩, below_drewN hb _⟩

theorem ringFault_none {l : List ByteArray} {copies : Int} (h : ringFault l copies = none) : 0 < l.length ∧ hostsFault l = none ∧ 1 ≤ copies ∧ copies ≤ 16 := by
  unfold ringFault at h
  by_cases h0 : l.length = 0
  · rw [if_pos h0] at h; cases h
  rw [if_neg h0] at h
  split at h
  · cases h
  · rename_i ho
    split at h
    · rename_i hc; exact ⟨by omega, ho, hc.1, hc.2⟩
    · cases h
/-- A ring that is read. -/
def RingIs (rp : Nat) (l : List ByteArray) (copies : Nat) (w : World) : Prop := ∃ g cap s, RingAt w rp g cap s ∧ IsSort (pointsOf l copies) s ∧ 0 < s.length
theorem RingIs.below {rp copies : Nat} {l : List ByteArray} {w w' : World} (h : RingIs rp l copies w) (hb : Below w.heap.size w w') : RingIs rp l copies w' := by
  obtain ⟨g, cap, s, a, b, c⟩ := h
  exact ⟨g, cap, s, a.below hb, b, c⟩
def RingMade (l : List ByteArray) (copies : Nat) (w : World) (e : Ending) (w' : World) : Prop := ∃ rp, e = .returned (.tuple #[.pointer (some ⟨rp, 0, none⟩), .nilIface]) ∧ RingIs rp l copies w' ∧ Below w.heap.size w w'
theorem ringNew_made (ea : Nat → Addr) (A : Option Addr) (c B : Nat) (l : List ByteArray) (copies : Nat) (w : World) (hE : Errs3 ea w) (hr : Reads w B 1 A l.length (strV l)) (hB : B ≤ w.heap.size) (hlc : l.length ≤ c) (hl : l.length ≤ maxLen) (hs : ∀ s ∈ l, s.size ≤ maxLen)
    (hf : ringFault l copies = none) :
    Calls Tryd.prog 34 #[.slice A l.length c, .int .i64 (copies : Int)] w (RingMade l copies w) := by
  obtain ⟨h0, ho, h1, h2⟩ := ringFault_none hf
  have h12 := (hostsFault_none.1 ho).1
  refine (ringNew_ok ea A c B l copies w hE hr hB hlc hl hs ho h0 (by omega) (by omega)).mono fun e w' ⟨rp, s, sv, he, hR, hS, hb⟩ => ?_
  have hlen : s.length = l.length * copies := by rw [hS.1.length_eq, pointsOf_length]
  have hle : l.length * copies ≤ 12 * 16 := Nat.mul_le_mul h12 (by omega)
  have hpos : 0 < s.length := by rw [hlen]; exact Nat.mul_pos h0 (by omega)
  obtain ⟨g, cap, hA⟩ := hR.ringAt hpos (by omega)
  exact ⟨rp, he, ⟨g, cap, s, hA, hS, hpos⟩, hb⟩
/-- The one order of a ring's points. -/
noncomputable def sortedOf (l : List ByteArray) (copies : Nat) : List Pt := (pointsOf l copies).mergeSort fun a b => !ltP b a
theorem isSort_sorted (l : List ByteArray) (copies : Nat) : IsSort (pointsOf l copies) (sortedOf l copies) := by
  refine ⟨List.mergeSort_perm _ _, ?_⟩
  have := List.pairwise_mergeSort (le := fun a b => !ltP b a) (fun a b c h1 h2 => by
    simp only [Bool.not_eq_true'] at *
    exact ltP_ntrans h2 h1) (fun a b => by
    cases h : ltP b a with
    | false => rfl
    | true =>
      have : ltP a b = false := by
        rw [Bool.eq_false_iff]; intro h'
        have := ltP_trans h h'
        rw [ltP_irrefl] at this; cases this
      simp [this]) (pointsOf l copies)
  exact this.imp fun {a b} h => by simpa using h
/-- The hosts of a key, around. -/
noncomputable def hostsOf (l : List ByteArray) (copies key : Nat) : List ByteArray := around (Mx.turn key) (sortedOf l copies)
theorem ringIs_host {rp copies key : Nat} {l : List ByteArray} {w : World} {x : ByteArray} (h : RingIs rp l copies w) (hk : U64 key) (hx : (hostsOf l copies key)[0]? = some x) :
    Calls Tryd.prog 39 #[.pointer (some ⟨rp, 0, none⟩), .int .u64 (key : Int)] w (HostPost x w) := by
  obtain ⟨g, cap, s, a, b, c⟩ := h
  refine host_any rp g cap key s x w a b.2 c hk ?_
  rw [b.unique (isSort_sorted l copies)]
  exact hx
theorem ringIs_next {rp copies key : Nat} {l : List ByteArray} {w : World} (many : Int) (h : RingIs rp l copies w) (hk : U64 key) :
    Calls Tryd.prog 38 #[.pointer (some ⟨rp, 0, none⟩), .int .u64 (key : Int), .int .i64 many] w (TextsPost (nextGo many [] (hostsOf l copies key)) w) := by
  obtain ⟨g, cap, s, a, b, c⟩ := h
  have := next_any rp g cap key many s w a b.2 c hk
  rw [b.unique (isSort_sorted l copies)] at this
  exact this
theorem hostsOf_mem {l : List ByteArray} {copies key : Nat} {x : ByteArray} (h : x ∈ hostsOf l copies key) : x ∈ l := by
  obtain ⟨p, hp, rfl⟩ := mem_around.1 h
  exact mem_pointsOf ((isSort_sorted l copies).1.mem_iff.1 hp)
theorem mem_hostsOf {l : List ByteArray} {copies key : Nat} {x : ByteArray} (h : x ∈ l) (hc : 1 ≤ copies) : x ∈ hostsOf l copies key := by
  obtain ⟨p, hp, hx⟩ := pointsOf_mem h hc
  exact mem_around.2 ⟨p, (isSort_sorted l copies).1.mem_iff.2 hp, hx⟩
theorem hostsOf_filter (l : List ByteArray) (copies key : Nat) (q : ByteArray → Bool) : hostsOf (l.filter q) copies key = (hostsOf l copies key).filter q := by
  unfold hostsOf
  rw [← around_filter]
  congr 1
  refine IsSort.unique (l := pointsOf (l.filter q) copies) (isSort_sorted _ _) ?_
  rw [← pointsOf_filter]
  exact (isSort_sorted l copies).filter _
theorem next_same {x : ByteArray} : ∀ (r : List ByteArray), (∀ y ∈ r, y = x) → nextGo 3 [x] r = [x]
  | [], _ => rfl
  | y :: r, h => by
      have hy : y = x := h y (List.mem_cons_self)
      subst hy
      rw [nextGo_skip (by simp) (has_iff.2 (by simp))]
      exact next_same r fun z hz => h z (List.mem_cons_of_mem _ hz)
theorem hostsOf_one (key : Nat) : (hostsOf [nmA] 2 key)[0]? = some nmA ∧ nextGo 3 [] (hostsOf [nmA] 2 key) = [nmA] := by
  have hall : ∀ y ∈ hostsOf [nmA] 2 key, y = nmA := fun y hy => by simpa using hostsOf_mem hy
  have hm : nmA ∈ hostsOf [nmA] 2 key := mem_hostsOf (by simp) (by omega)
  generalize hostsOf [nmA] 2 key = H at *
  cases H with
  | nil => cases hm
  | cons y r =>
    have hy : y = nmA := hall y (List.mem_cons_self)
    subst hy
    refine ⟨rfl, ?_⟩
    rw [nextGo_more (by simp) (by rfl)]
    exact next_same r fun z hz => hall z (List.mem_cons_of_mem _ hz)

set_option maxRecDepth 100000 in
set_option maxHeartbeats 1000000 in
theorem ringed_any (ea : Nat → Addr) (w : World) (hE : ErrsR ea w) : Calls Tryd.prog 33 #[] w (True1 w) := by
  have hb : Below w.heap.size w (w.alloc (.cells #[.string nmA] 9)) := (Below.refl _ _).alloc (Nat.le_refl _) _
  have hf : ringFault [nmA] 2 = none := by unfold ringFault; rw [nmA_fault]; rfl
  have HN : Hid (Calls Tryd.prog 34 #[.slice (some ⟨w.heap.size, 0, none⟩) 1 1, .int .i64 2] (w.alloc (.cells #[.string nmA] 9)) (RingMade [nmA] 2 (w.alloc (.cells #[.string nmA] 9)))) :=
    Lib.hid (ringNew_made ea (some ⟨w.heap.size, 0, none⟩) 1 (w.heap.size + 1) [nmA] 2 _ (hE.below hb).e3 (lit_reads w [nmA] _ rfl) (by simp) (Nat.le_refl _) (by simp [maxLen]) (by intro s hs; simp at hs; subst hs; decide) hf)
  obtain ⟨h5, _⟩ := hostsOf_one 5
  obtain ⟨_, h7⟩ := hostsOf_one 7
  have HH : Hid (∀ rp W, RingIs rp [nmA] 2 W → Calls Tryd.prog 39 #[.pointer (some ⟨rp, 0, none⟩), .int .u64 5] W (HostPost nmA W)) := Lib.hid fun rp W h => ringIs_host (key := 5) h (by unfold U64; omega) h5
  have HX : Hid (∀ rp W, RingIs rp [nmA] 2 W → Calls Tryd.prog 38 #[.pointer (some ⟨rp, 0, none⟩), .int .u64 7, .int .i64 3] W (TextsPost [nmA] W)) := Lib.hid fun rp W h => by
    have := ringIs_next (key := 7) 3 h (by unfold U64; omega)
    rw [h7] at this
    exact this
  have HB := Lib.hid hb
  unfold nmA at HN HH HX HB
  clear hE hf h5 h7 hb
  go_enter Tryd.func33, Tryd.ntmps33
  go_wp2_with fail
  refine HN.out.mono ?_
  rintro e w1 ⟨rp, rfl, hR, hb1⟩
  have hb1' := below_two HB.out hb1
  have HR := Lib.hid hR
  clear hR
  go_wp2_with fail
  refine (HH.out _ _ HR.out).mono ?_
  rintro e w2 ⟨rfl, hb2⟩
  have HR2 := Lib.hid (HR.out.below hb2)
  go_wp2_with fail
  refine (HX.out _ _ HR2.out).mono ?_
  rintro e w3 ⟨A, cap, rfl, _, hb3⟩
  go_wp2
  go_ret
  exact ⟨rfl, below_two (below_two hb1' hb2) hb3⟩
end Go.Proofs.YtbbbnnooaaelmaaDoor
