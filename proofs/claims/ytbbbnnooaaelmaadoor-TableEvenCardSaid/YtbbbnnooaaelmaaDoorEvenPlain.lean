/-
  The law TableEven in plain words: what stands at a slot, how often each host, the turned list, each slot once in a row.
-/
import Derived.Test.YtbbbnnooaaelmaaDoorCounts
namespace Go.Proofs.YtbbbnnooaaelmaaDoor
open Go.RowKit

theorem hosts_perm2 {l l' : List ByteArray} (h : l.Perm l') (hf : hostsFault l = none) : hostsFault l' = none := by
  obtain ⟨a, b, c⟩ := hostsFault_none.1 hf
  exact hostsFault_none.2 ⟨by rw [← h.length_eq]; exact a, fun s hs => b s (h.mem_iff.2 hs), h.nodup_iff.1 c⟩
theorem sortB_perm {l o : List ByteArray} (h : l.Perm o) : sortB l = sortB o :=
  IsSortB.unique (l := o) ⟨(isSort_sortB l).1.trans h, (isSort_sortB l).2⟩ (isSort_sortB o)
/-- The host at a slot. -/
def hostAt (l : List ByteArray) (n i : Nat) : ByteArray := nmAt (sortB l) ((table (sortB l) n).getD i 0).toNat
theorem slot_host {l : List ByteArray} {v : Int} (h0 : 0 ≤ v) (h1 : v < l.length) : ∃ j : Nat, slotI l (sortB l) v = (j : Int) ∧ j < l.length ∧ l[j]? = some (nmAt (sortB l) v.toNat) := by
  have hl : v.toNat < (sortB l).length := by rw [sortB_length]; omega
  have hm : nmAt (sortB l) v.toNat ∈ l := by
    rw [nmAt_eq hl]
    exact (isSort_sortB l).1.mem_iff.1 (List.getElem_mem hl)
  obtain ⟨j, hj, hi, he⟩ := idx_mem hm
  refine ⟨j, ?_, hj, he⟩
  unfold slotI
  rw [if_neg (by omega), hi]
theorem slots_host {l : List ByteArray} {n i : Nat} (h0 : 0 < l.length) (hn : 2 ≤ n) (hd : noDiv n) (hi : i < n) : ∃ j : Nat, (slotsI l n)[i]? = some (j : Int) ∧ j < l.length ∧ l[j]? = some (hostAt l n i) := by
  have hf := table_full (names := sortB l) (n := n) (by rw [sortB_length]; exact h0) hn hd
  have hl : i < (table (sortB l) n).length := by unfold table; rw [tab_length]; exact hi
  have hv := hf _ (List.getElem_mem hl)
  rw [sortB_length] at hv
  obtain ⟨j, h1, h2, h3⟩ := slot_host hv.1 hv.2
  refine ⟨j, ?_, h2, ?_⟩
  · unfold slotsI
    rw [List.getElem?_map, List.getElem?_eq_getElem hl, Option.map_some, h1]
  · unfold hostAt
    rw [List.getD_eq_getElem?_getD, List.getElem?_eq_getElem hl]; exact h3
theorem hostAt_perm {l o : List ByteArray} (h : l.Perm o) (n i : Nat) : hostAt l n i = hostAt o n i := by unfold hostAt; rw [sortB_perm h]
theorem slots_none {l : List ByteArray} {n : Nat} (h0 : 0 < l.length) (h12 : l.length ≤ 12) (hn : 2 ≤ n) (hd : noDiv n) : countsFault (slotsI l n) (l.length : Int) = none := by
  refine countsFault_end h12 fun i hi => ?_
  rw [slotsI_length] at hi
  obtain ⟨j, h1, h2, _⟩ := slots_host h0 hn hd hi
  rw [(List.getElem?_eq_some_iff.1 h1).2]
  omega
theorem count_map_iff {f : Int → Nat} {j : Nat} {k : Int} : ∀ {T : List Int}, (∀ x ∈ T, f x = j ↔ x = k) → (T.map f).count j = T.count k
  | [], _ => rfl
  | x :: T, h => by
      have ih := count_map_iff (T := T) fun y hy => h y (List.mem_cons_of_mem _ hy)
      have hx := h x List.mem_cons_self
      rw [List.map_cons, List.count_cons, List.count_cons, ih]
      congr 1
      by_cases e : x = k
      · rw [if_pos (by simpa using hx.2 e), if_pos (by simpa using e)]
      · rw [if_neg (by simpa using fun h => e (hx.1 h)), if_neg (by simpa using e)]
theorem slots_count {l : List ByteArray} {n j : Nat} (hnd : l.Nodup) (hn : 2 ≤ n) (hd : noDiv n) (hj : j < l.length) : ∃ k : Nat, k < (sortB l).length ∧ ((slotsI l n).map Int.toNat).count j = (table (sortB l) n).count (k : Int) := by
  have hp := (isSort_sortB l).1
  have hsn : (sortB l).Nodup := hp.nodup_iff.2 hnd
  obtain ⟨k, hk, he⟩ := List.getElem_of_mem (hp.mem_iff.2 (List.getElem_mem hj))
  refine ⟨k, hk, ?_⟩
  unfold slotsI
  rw [List.map_map]
  refine count_map_iff fun x hx => ?_
  have hv := table_full (names := sortB l) (n := n) (by omega) hn hd x hx
  rw [sortB_length] at hv
  obtain ⟨j', h1, h2, h3⟩ := slot_host hv.1 hv.2
  have hxl : x.toNat < (sortB l).length := by rw [sortB_length]; omega
  rw [nmAt_eq hxl] at h3
  show (slotI l (sortB l) x).toNat = j ↔ _
  rw [h1]
  have h4 := (List.getElem?_eq_some_iff.1 h3).2
  constructor
  · intro hh
    have : j' = j := by omega
    subst this
    have e2 : (sortB l)[k] = (sortB l)[x.toNat] := by rw [he, ← h4]
    rcases Nat.lt_trichotomy k x.toNat with h | h | h
    · exact absurd e2 (List.pairwise_iff_getElem.1 hsn k x.toNat hk hxl h)
    · omega
    · exact absurd e2.symm (List.pairwise_iff_getElem.1 hsn x.toNat k hxl hk h)
  · rintro rfl
    simp only [Int.toNat_natCast] at h4
    have e2 : l[j'] = l[j] := by rw [h4, he]
    rcases Nat.lt_trichotomy j' j with h | h | h
    · exact absurd e2 (List.pairwise_iff_getElem.1 hnd j' j h2 hj h)
    · omega
    · exact absurd e2.symm (List.pairwise_iff_getElem.1 hnd j j' hj h2 h)
theorem slots_even {l : List ByteArray} {n j : Nat} (hnd : l.Nodup) (hn : 2 ≤ n) (hd : noDiv n) (hj : j < l.length) :
    n / l.length ≤ ((slotsI l n).map Int.toNat).count j ∧ ((slotsI l n).map Int.toNat).count j ≤ (n + l.length - 1) / l.length := by
  obtain ⟨k, hk, he⟩ := slots_count hnd hn hd hj
  have := table_even (names := sortB l) (n := n) (k := k) (by omega) hn hd hk
  rw [sortB_length] at this
  rw [he]; exact this
/-- Which slots a row has had. -/
def seenV (s : ByteArray) (n k : Nat) : List Value := (List.range n).map fun p => Value.bool ((List.range k).any fun i => decide (rowAt s n i = p))
theorem seenV_start (s : ByteArray) (n : Nat) : seenV s n 0 = List.replicate n (.bool false) := by simp [seenV, List.map_const']
theorem seenV_set {s : ByteArray} {n k p : Nat} (hp : rowAt s n k = p) : (seenV s n k).toArray.setIfInBounds p (.bool true) = (seenV s n (k + 1)).toArray := by
  simp only [List.setIfInBounds_toArray]
  congr 1
  apply List.ext_getElem?
  intro q
  rw [List.getElem?_set]
  unfold seenV
  by_cases hq : p = q
  · subst hq
    by_cases hl : p < n
    · simp [hl, List.range_succ, hp]
    · simp [hl]
  · rw [if_neg hq]
    by_cases hl : q < n
    · simp [hl, List.range_succ, hp, hq]
    · simp [hl]
theorem seenV_get {s : ByteArray} {n k p : Nat} (hn : 2 ≤ n) (hd : noDiv n) (hk : k < n) (hp : rowAt s n k = p) : (seenV s n k).toArray[p]? = some (.bool false) := by
  have hl : p < n := by rw [← hp]; exact rowAt_lt s k hn
  simp only [List.getElem?_toArray]
  unfold seenV
  rw [List.getElem?_map, List.getElem?_range hl]
  simp only [Option.map_some, Option.some.injEq, Value.bool.injEq, List.any_eq_false, List.mem_range, decide_eq_true_eq]
  intro i hi he
  exact rowAt_inj s hn hd hi hk (by rw [he, hp])
end Go.Proofs.YtbbbnnooaaelmaaDoor
