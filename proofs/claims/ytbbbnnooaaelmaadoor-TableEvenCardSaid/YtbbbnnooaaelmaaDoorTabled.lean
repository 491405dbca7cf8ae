/-
  The closed fact tabled; table.Counts.
-/
import Derived.Test.YtbbbnnooaaelmaaDoorTabBad
import Derived.Test.YtbbbnnooaaelmaaDoorRefFault
namespace Go.Proofs.YtbbbnnooaaelmaaDoor
open Go.RowKit

theorem blk_reads {w : World} {g : Nat} {T : TypeId} {cs : List Value} (h : Blk w g T cs.toArray) : Reads w w.heap.size 1 (some ⟨g, 0, none⟩) cs.length cs := by
  refine ⟨by simp, fun _ => ⟨_, rfl, h.lt, fun j u hu => ?_⟩⟩
  have e : ((⟨g, 0, none⟩ : Addr).add j) = ⟨g, j, none⟩ := by
    by_cases h0 : j = 0
    · subst h0; rfl
    · simp [Addr.add, h0]
  rw [e, h.cell j]
  simpa using hu
/-- A table's slots as numbers. -/
def slotsI (l : List ByteArray) (n : Nat) : List Int := (table (sortB l) n).map (slotI l (sortB l))
theorem tableOf_ints (l : List ByteArray) (n : Nat) : tableOf l n = (slotsI l n).map intV := by
  unfold tableOf outV slotsI
  rw [List.map_map]; rfl
theorem slotsI_length (l : List ByteArray) (n : Nat) : (slotsI l n).length = n := by simp [slotsI, table, tab_length]
theorem tableOf_length (l : List ByteArray) (n : Nat) : (tableOf l n).length = n := by rw [tableOf_ints]; simp [slotsI_length]
theorem sortB_one (x : ByteArray) : sortB [x] = [x] := List.perm_singleton.1 (isSort_sortB [x]).1
theorem slots_one : slotsI [nmA] 3 = [0, 0, 0] := by
  have h := table_full (names := [nmA]) (n := 3) (by simp) (by omega) (by decide)
  have hl : (table [nmA] 3).length = 3 := tab_length _ _ _
  unfold slotsI
  rw [sortB_one]
  have e : table [nmA] 3 = List.replicate 3 0 := List.eq_replicate_iff.2 ⟨hl, fun x hx => by have := h x hx; simp at this; omega⟩
  rw [e]
  have hi : idx [nmA] nmA = 0 := idx_hit (k := 0) (by simp) (by simp) rfl
  have hs : slotI [nmA] [nmA] 0 = 0 := by
    unfold slotI
    rw [if_neg (by omega)]
    exact hi
  simp [hs]
theorem nmA_table : tableFault [nmA] (3 : Int) = none := by
  unfold tableFault
  rw [if_neg (by simp), nmA_fault]
  show sizeFault 3 = none
  unfold sizeFault
  rw [if_neg (by omega), if_pos (by decide)]
set_option maxRecDepth 100000 in
set_option maxHeartbeats 1000000 in
theorem tabled_any (ea : Nat → Addr) (w : World) (hE : ErrsT ea w) : Calls Tryd.prog 12 #[] w (True1 w) := by
  have hb : Below w.heap.size w (w.alloc (.cells #[.string nmA] 9)) := (Below.refl _ _).alloc (Nat.le_refl _) _
  have hI : TxIn (w.alloc (.cells #[.string nmA] 9)) (some ⟨w.heap.size, 0, none⟩) 1 [nmA] := by
    refine ⟨?_, Nat.le_refl _, by decide, ?_⟩
    · exact (lit_reads w [nmA] _ rfl).more (by simp)
    · intro s hs
      simp at hs; subst hs; decide
  have h := make_good ea (some ⟨w.heap.size, 0, none⟩) 1 [nmA] 3 _ (hE.below hb) hI nmA_table
  have HM : Hid (Calls Tryd.prog 14 #[.slice (some ⟨w.heap.size, 0, none⟩) 1 1, .int .i64 3] (w.alloc (.cells #[.string nmA] 9)) fun e w' => ∃ g, e = .returned (.tuple #[.slice (some ⟨g, 0, none⟩) 3 3, .nilIface]) ∧ Reads w' w'.heap.size 1 (some ⟨g, 0, none⟩) 3 (([0, 0, 0] : List Int).map intV) ∧ Below (w.alloc (.cells #[.string nmA] 9)).heap.size (w.alloc (.cells #[.string nmA] 9)) w') := Lib.hid (h.mono fun e w' ⟨g, he, hB, _, hb⟩ => ⟨g, he, by
    have := blk_reads hB
    rw [tableOf_length, tableOf_ints, slots_one] at this
    exact this, hb⟩)
  have HB := Lib.hid hb
  unfold nmA at HM HB
  clear hE hb hI h
  go_enter Tryd.func12, Tryd.ntmps12
  go_wp2_with fail
  refine HM.out.mono ?_
  rintro e w1 ⟨g, rfl, hR, hb1⟩
  have hbw := below_two HB.out hb1
  have hbl : Below w1.heap.size w1 (w1.alloc (.cells #[.int .i64 0, .int .i64 0, .int .i64 0] 3)) := (Below.refl _ _).alloc (Nat.le_refl _) _
  have hR2 : Reads (w1.alloc (.cells #[.int .i64 0, .int .i64 0, .int .i64 0] 3)) (w1.alloc (.cells #[.int .i64 0, .int .i64 0, .int .i64 0] 3)).heap.size 1 (some ⟨w1.heap.size, 0, none⟩) 3 (([0, 0, 0] : List Int).map intV) := blk_reads (cs := ([0, 0, 0] : List Int).map intV) (Blk.new w1 3 #[.int .i64 0, .int .i64 0, .int .i64 0])
  have HS := Lib.hid (sameInts (some ⟨g, 0, none⟩) (some ⟨w1.heap.size, 0, none⟩) 3 3 _ [0, 0, 0] [0, 0, 0] _ ((hR.below hbl).more hbl.size) hR2 (by simp [maxLen]) (by simp [maxLen]))
  have HBL := Lib.hid (below_two hbw hbl)
  clear hR hR2 hbl hbw hb1
  go_wp2_with fail
  refine HS.out.mono ?_
  rintro e w2 ⟨rfl, q, rfl⟩
  go_wp2
  go_ret
  exact ⟨by simp, below_drewN HBL.out q⟩

/-! Counts. -/
/-- The first number that is none of so many. -/
def countsFault (l : List Int) (many : Int) : Option Flt := if many < 0 ∨ 12 < many then some ⟨2, none⟩ else match l.findIdx? fun x => decide (x < 0 ∨ many ≤ x) with
  | some i => some ⟨2, some i⟩
  | none => none
def intsI (xs : List Int) : List Value := xs.map intV
def CountsGood (l : List Int) (m : Nat) (w : World) (e : Ending) (w' : World) : Prop :=
  ∃ g, e = .returned (.tuple #[.slice (some ⟨g, 0, none⟩) m m, .nilIface]) ∧ Blk w' g 3 (numsV (countsL m (l.map Int.toNat))).toArray ∧ w.heap.size ≤ g ∧ Below w.heap.size w w'
theorem intsI_at {w : World} {A : Option Addr} {l : List Int} {k : Nat} (h : Reads w w.heap.size 1 A l.length (l.map intV)) (hk : k < l.length) : ∃ ad, A = some ad ∧ ∀ W, Below w.heap.size w W → W.cell? (ad.add k) = some (.int .i64 l[k]) := by
  obtain ⟨ad, u, hA, hb, hx, hc⟩ := h.at_ hk
  refine ⟨ad, hA, fun W hW => ?_⟩
  rw [hW.cell (by rw [block_of_add]; exact hb), hc]
  simp [intV, hk] at hx
  rw [hx]
end Go.Proofs.YtbbbnnooaaelmaaDoor
