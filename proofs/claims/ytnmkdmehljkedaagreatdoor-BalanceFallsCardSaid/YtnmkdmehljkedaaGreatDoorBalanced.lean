/-
  The closed fact balanced; the balances that the laws make.
-/
import Derived.Test.YtnmkdmehljkedaaGreatDoorBalNow
import Derived.Test.YtnmkdmehljkedaaGreatDoorKeys
namespace Go.Proofs.YtnmkdmehljkedaaGreatDoor
open Go.RowKit

theorem errsB_of {ea : Nat → Addr} {w : World} {gs : List Nat} (h : ErrsAt w ea gs) (h2 : gv 2 ∈ gs) (h3 : gv 3 ∈ gs) (h4 : gv 4 ∈ gs) (h5 : gv 5 ∈ gs) (h6 : gv 6 ∈ gs) (h8 : gv 8 ∈ gs) : ErrsB ea w :=
  ⟨⟨⟨(h.at_ _ h2).1, (h.at_ _ h4).1, (h.at_ _ h6).1⟩, ⟨(h.at_ _ h2).1, (h.at_ _ h3).1⟩, (h.at_ _ h5).1⟩, ⟨(h.at_ _ h2).1, (h.at_ _ h4).1, (h.at_ _ h8).1⟩⟩
def sA : ByteArray := ⟨#[97]⟩
def sB : ByteArray := ⟨#[98]⟩
def sC : ByteArray := ⟨#[99]⟩
def sD : ByteArray := ⟨#[100]⟩
def cAB : BCfg := ⟨[sA, sB], 7, 5, 1, 1⟩
def c4 : BCfg := ⟨[sA, sB, sC, sD], 31, 20, 1, 1⟩
theorem size_ok {l : List ByteArray} {n : Nat} (hf : hostsFault l = none) (h0 : 0 < l.length) (hs : sizeFault (n : Int) = none) : tableFault l (n : Int) = none := by
  unfold tableFault
  rw [if_neg (by omega), hf]
  exact hs
theorem size_prime {n : Nat} (h1 : 2 ≤ n) (h2 : n ≤ 503) (hd : noDiv n) : sizeFault (n : Int) = none := by
  unfold sizeFault
  rw [if_neg (by omega), if_pos (by simpa using hd)]
theorem fault_AB : hostsFault cAB.hosts = none := hostsFault_none.2 ⟨by decide, by decide +kernel, by decide +kernel⟩
theorem fault_4 : hostsFault c4.hosts = none := hostsFault_none.2 ⟨by decide, by decide +kernel, by decide +kernel⟩
theorem ok_AB : BOk cAB := ⟨fault_AB, by decide, size_ok fault_AB (by decide) (size_prime (by decide) (by decide) (by decide +kernel)), by decide, by decide, by decide, by decide, by decide, by decide⟩
theorem ok_4 : BOk c4 := ⟨fault_4, by decide, size_ok fault_4 (by decide) (size_prime (by decide) (by decide) (by decide +kernel)), by decide, by decide, by decide, by decide, by decide, by decide⟩
theorem txIn_lit {w : World} {l : List ByteArray} (hl : l.length ≤ 12) (hs : ∀ s ∈ l, s.size ≤ maxLen) : TxIn (w.alloc (.cells (strV l).toArray 9)) (some ⟨w.heap.size, 0, none⟩) l.length l := by
  refine ⟨?_, Nat.le_refl _, by unfold maxLen; omega, hs⟩
  have := blk_reads (Blk.new w 9 (strV l).toArray)
  simpa [strV] using this
/-- Two picks of one key by a new balance. -/
theorem two_picks : ∃ (x : ByteArray) (s1 s2 : BS), pickS cAB (newS cAB) 9 0 = ((x, false, 0), s1) ∧ pickS cAB s1 9 4 = ((x, true, 0), s2) ∧ s2.fs.2.length = 1 ∧ s2.epoch = 0 ∧ s2.st = fresh cAB.hosts := by
  have ho : openOf (newS cAB) ≠ [] := by rw [openOf_new]; decide
  have htf : tableFault (openOf (newS cAB)) (cAB.size : Int) = none := by rw [openOf_new]; exact ok_AB.tf
  obtain ⟨x, kept, h1, h2⟩ := pickS_step (c := cAB) (s := newS cAB) (k := 9) (n := 0) (Nat.le_refl _) (by decide) ho htf (by decide)
  have hx : kept = false ∧ x ∈ cAB.hosts := by
    rcases h2 with ⟨_, y, hy, _⟩ | ⟨hk, hm, _⟩
    · cases hy
    · rw [openOf_new] at hm
      exact ⟨hk, hm⟩
  obtain ⟨rfl, hxm⟩ := hx
  have e1 : putF (newS cAB).fs.2 ⟨9, x, ((0 : Nat) : Int) + cAB.time⟩ = [⟨9, x, 5⟩] := rfl
  rw [e1] at h1
  obtain ⟨x2, kept2, g1, g2⟩ := pickS_step (c := cAB) (s := { newS cAB with fs := (0, [⟨9, x, 5⟩]) }) (k := 9) (n := 4) (by dsimp only; omega) (by decide) ho htf (by decide)
  have hx2 : kept2 = true ∧ x2 = x := by
    rcases g2 with ⟨hk, y, hy, _, he, _⟩ | ⟨_, _, hno⟩
    · obtain rfl := Option.some.inj hy
      exact ⟨hk, he.symm⟩
    · exact absurd ⟨by dsimp only; omega, upOf_fresh hxm⟩ (hno ⟨9, x, 5⟩ rfl)
  obtain ⟨rfl, rfl⟩ := hx2
  exact ⟨x2, _, _, h1, g1, rfl, rfl, rfl⟩
set_option maxRecDepth 100000 in
set_option maxHeartbeats 1000000 in
theorem balanced_any (ea : Nat → Addr) (w : World) (hE : ErrsB ea w) : Calls Tryz.prog 4 #[] w (True1 w) := by
  have hb0 := (Below.refl w.heap.size w).alloc (Nat.le_refl _) (.cells #[.string ⟨#[97]⟩, .string ⟨#[98]⟩] 9)
  have HN : Hid (Calls Tryz.prog 5 #[.slice (some ⟨w.heap.size, 0, none⟩) 2 2, .int .i64 7, .int .i64 5, .int .i64 1, .int .i64 1] (w.alloc (.cells #[.string ⟨#[97]⟩, .string ⟨#[98]⟩] 9)) (NewAs ea w cAB (w.alloc (.cells #[.string ⟨#[97]⟩, .string ⟨#[98]⟩] 9)))) := Lib.hid (bn_new (c := cAB) (hE.below hb0) hb0 (txIn_lit (l := cAB.hosts) (by decide) (by decide +kernel)) ok_AB)
  obtain ⟨x, s1, s2, h1, h2, h3, h4, h5⟩ := two_picks
  have HP1 : Hid (∀ W lo hi p, BNow ea w W lo hi p cAB (newS cAB) → Calls Tryz.prog 6 #[.pointer (some ⟨p.bp, 0, none⟩), .int .u64 9, .int .i64 0] W (PickAs x false ea w lo hi p cAB s1 W)) := Lib.hid fun W lo hi p h => bn_pick 9 0 h ok_AB (by unfold U64; omega) h1
  have HP2 : Hid (∀ W lo hi p, BNow ea w W lo hi p cAB s1 → Calls Tryz.prog 6 #[.pointer (some ⟨p.bp, 0, none⟩), .int .u64 9, .int .i64 4] W (PickAs x true ea w lo hi p cAB s2 W)) := Lib.hid fun W lo hi p h => bn_pick 9 4 h ok_AB (by unfold U64; omega) h2
  have HFl : Hid (∀ W lo hi p, BNow ea w W lo hi p cAB s2 → Calls Tryz.prog 8 #[.pointer (some ⟨p.bp, 0, none⟩)] W fun e w' => ∃ A cap, e = .returned (.slice A 1 cap) ∧ BNow ea w w' lo hi p cAB s2) := Lib.hid fun W lo hi p h => (flowsB_any W h.b).mono fun e w' ⟨v, a, b, d⟩ => by
    obtain ⟨A, cap, rfl, _⟩ := own_slice b
    rw [h3] at a
    exact ⟨A, cap, a, h.below d⟩
  have HEp : Hid (∀ W lo hi p, BNow ea w W lo hi p cAB s2 → Calls Tryz.prog 9 #[.pointer (some ⟨p.bp, 0, none⟩)] W fun e w' => e = .returned (.int .i64 0) ∧ W = w') := Lib.hid fun W lo hi p h => (epochB_any W h.b).mono fun e w' ⟨a, b⟩ => ⟨by rw [a, h4]; rfl, b⟩
  have HUp : Hid (∀ W lo hi p, BNow ea w W lo hi p cAB s2 → Calls Tryz.prog 10 #[.pointer (some ⟨p.hp, 0, none⟩)] W fun e w' => ∃ A cap, e = .returned (.slice A 2 cap) ∧ Below w.heap.size w w') := Lib.hid fun W lo hi p h => (up_any W h.b.h (by rw [h5]; decide)).mono fun e w' ⟨A, cap, a, b, d⟩ => by
    rw [h5, ups_fresh] at a
    exact ⟨A, cap, a, below_two h.w d⟩
  unfold NewAs at HN
  unfold PickAs at HP1 HP2
  clear hE hb0 h1 h2 h3 h4 h5
  go_enter Tryz.func4, Tryz.ntmps4
  go_wp2_with fail
  refine HN.out.mono ?_
  rintro e w1 ⟨p, rfl, hB1, hb1⟩
  have HP1' := Lib.hid (HP1.out _ _ _ _ hB1)
  clear hB1 hb1 HN HP1
  go_wp2_with fail
  refine HP1'.out.mono ?_
  rintro e w2 ⟨rfl, hB2, ht2⟩
  have HP2' := Lib.hid (HP2.out _ _ _ _ hB2)
  clear hB2 ht2 HP2 HP1'
  go_wp2_with fail
  refine HP2'.out.mono ?_
  rintro e w3 ⟨rfl, hB3, ht3⟩
  have HFl' := Lib.hid (HFl.out _ _ _ _ hB3)
  clear hB3 ht3 HP2' HFl
  go_wp2_with fail
  refine HFl'.out.mono ?_
  rintro e w4 ⟨A4, c4', rfl, hB4⟩
  have HEp' := Lib.hid (HEp.out _ _ _ _ hB4)
  have HUp' := Lib.hid (HUp.out _ _ _ _ hB4)
  have d0 : w4.cell? ⟨p.bp, 0, none⟩ = some (.pointer (some ⟨p.hp, 0, none⟩)) := hB4.b.blk.cell 0
  clear hB4 HFl' HEp HUp
  go_wp2_with fail
  refine HEp'.out.mono ?_
  rintro e w5 ⟨rfl, rfl⟩
  go_wp2_with fail
  refine HUp'.out.mono ?_
  rintro e w6 ⟨A6, c6, rfl, hb6⟩
  go_wp2
  go_ret
  exact ⟨rfl, hb6⟩
end Go.Proofs.YtnmkdmehljkedaaGreatDoor
