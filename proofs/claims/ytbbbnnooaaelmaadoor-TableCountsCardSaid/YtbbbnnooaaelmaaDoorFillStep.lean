/-
  One key's place, in plain words: a host with room is found; what the maps say of the keys placed so far.
-/
import Derived.Test.YtbbbnnooaaelmaaDoorFillBad
namespace Go.Proofs.YtbbbnnooaaelmaaDoor

/-- What the walk keeps of the two maps. -/
def PlaceInv (l : List ByteArray) (keys xs S : List Nat) (f : ByteArray → Nat) (i : Nat) : Prop := (keys.take i).Nodup ∧ (∀ k, k ∈ S ↔ k ∈ keys.take i) ∧ ∀ j (h : j < l.length), f l[j] = xs.count j
theorem placeInv_count {l : List ByteArray} {keys xs S : List Nat} {f : ByteArray → Nat} {i : Nat} {s : ByteArray} {j : Nat} (h : PlaceInv l keys xs S f i) (hj : l[j]? = some s) : f s = xs.count j := by
  obtain ⟨hl, rfl⟩ := List.getElem?_eq_some_iff.1 hj
  exact h.2.2 j hl
theorem place_step {l : List ByteArray} {cp most : Nat} {keys xs S : List Nat} {f : ByteArray → Nat} {i key q : Nat} {s : ByteArray} {hs : List ByteArray} (hnd : l.Nodup) (hl : 0 < l.length) (hxl : xs.length = i) (g1 : keys[i]? = some key) (hd : key ∉ S)
    (hinv : PlaceInv l keys xs S f i) (hPO : PlaceOK l cp most keys xs) (hhs : nextGo (l.length : Int) [] (hostsOf l cp key) = hs) (gq : hs[q]? = some s) (hmem : s ∈ l)
    (hall : ∀ q', q' < q → ∀ s, hs[q']? = some s → most ≤ f s) (hfm : f s < most) :
    ∃ j, j < l.length ∧ idx l s = j ∧ PlaceOK l cp most keys (xs ++ [j]) ∧ PlaceInv l keys (xs ++ [j]) (key :: S) (fun x => if x = s then f s + 1 else f x) (i + 1) ∧ f s ≤ i := by
  obtain ⟨j, hj, hidx, hjs⟩ := idx_mem hmem
  have hc := placeInv_count hinv hjs
  have hki : i < keys.length := (List.getElem?_eq_some_iff.1 g1).1
  have hke : keys[i] = key := (List.getElem?_eq_some_iff.1 g1).2
  have htk : keys.take (i + 1) = keys.take i ++ [key] := by rw [List.take_succ_eq_append_getElem hki, hke]
  refine ⟨j, hj, hidx, hPO.add hjs (by omega) (fun hfree => ⟨key, by rw [hxl]; exact g1, ?_⟩) ⟨key, by rw [hxl]; exact g1, ?_⟩, ⟨?_, ?_, ?_⟩, ?_⟩
  · have hq0 : q = 0 := by
      refine Classical.byContradiction fun hq => ?_
      have hql : q < hs.length := (List.getElem?_eq_some_iff.1 gq).1
      have h0 : hs[0]? = some hs[0] := List.getElem?_eq_getElem (by omega)
      have hm0 : hs[0] ∈ l := by
        obtain ⟨t, ht, htm⟩ := next_from (many := (l.length : Int)) (hostsOf l cp key) []
        rw [hhs, List.nil_append] at ht
        exact hostsOf_mem (htm _ (ht ▸ List.getElem_mem (by omega)))
      obtain ⟨j0, hj0, _, hjs0⟩ := idx_mem hm0
      have h1 := hall 0 (by omega) _ h0
      have h2 := placeInv_count hinv hjs0
      have h3 := hfree j0 hj0
      omega
    subst hq0
    rw [← hhs] at gq
    cases hH : hostsOf l cp key with
    | nil => rw [hH] at gq; simp [nextGo] at gq
    | cons x r => rw [hH, next_first hl] at gq; simpa using gq
  · rw [hhs]
    have hf : hs.find? (fun s => decide (xs.count (idx l s).toNat < most)) = some s := by
      rw [List.find?_eq_some_iff_getElem]
      obtain ⟨hql, hqe⟩ := List.getElem?_eq_some_iff.1 gq
      refine ⟨by rw [hidx]; simp; omega, q, hql, hqe, fun q' hq' => ?_⟩
      have hm' : hs[q'] ∈ l := by
        obtain ⟨t, ht, htm⟩ := next_from (many := (l.length : Int)) (hostsOf l cp key) []
        rw [hhs, List.nil_append] at ht
        exact hostsOf_mem (htm _ (ht ▸ List.getElem_mem (by omega)))
      obtain ⟨j', _, hi', hjs'⟩ := idx_mem hm'
      have h1 := hall q' hq' _ (List.getElem?_eq_getElem (by omega))
      rw [placeInv_count hinv hjs'] at h1
      rw [hi']; simp; omega
    unfold pick
    rw [hf]; exact hidx
  · rw [htk]
    refine List.nodup_append.2 ⟨hinv.1, by simp, fun a ha b hb => ?_⟩
    obtain rfl : b = key := by simpa using hb
    exact fun e => hd ((hinv.2.1 _).2 (e ▸ ha))
  · intro k
    rw [htk]
    simp only [List.mem_cons, List.mem_append, hinv.2.1 k, List.not_mem_nil, or_false]
    exact Or.comm
  · intro j' hj'
    have h2 := hinv.2.2 j' hj'
    obtain ⟨hjl, hje⟩ := List.getElem?_eq_some_iff.1 hjs
    simp only [List.count_append, List.count_cons, List.count_nil, Nat.zero_add]
    by_cases he : j = j'
    · subst he
      rw [if_pos hje, hc]; simp
    · have hne : ¬ l[j'] = s := fun e => by
        rcases Nat.lt_or_gt_of_ne he with h | h
        · exact List.pairwise_iff_getElem.1 hnd j j' hjl hj' h (hje.trans e.symm)
        · exact List.pairwise_iff_getElem.1 hnd j' j hj' hjl h (e.trans hje.symm)
      rw [if_neg hne, h2]; simp [he]
  · rw [hc, ← hxl]; exact List.count_le_length
theorem place_stuck {l : List ByteArray} {cp most : Nat} {keys xs S : List Nat} {f : ByteArray → Nat} {i key q : Nat} {hs : List ByteArray} (hc1 : 1 ≤ cp)
    (hinv : PlaceInv l keys xs S f i) (hhs : nextGo (l.length : Int) [] (hostsOf l cp key) = hs) (hq : hs.length ≤ q)
    (hall : ∀ q', q' < q → ∀ s, hs[q']? = some s → most ≤ f s) (hroom : ∃ j, j < l.length ∧ xs.count j < most) : False := by
  obtain ⟨j, hj, hlt⟩ := hroom
  have hm : l[j] ∈ hs := by
    rw [← hhs]
    exact next_all (hostsOf l cp key) [] (by simp) (fun x h => by cases h) (fun x h => hostsOf_mem h) _ (.inl (mem_hostsOf (List.getElem_mem hj) hc1))
  obtain ⟨q', hq', he⟩ := List.getElem_of_mem hm
  have h1 := hall q' (by omega) _ (List.getElem?_eq_getElem hq')
  rw [he, hinv.2.2 j hj] at h1
  omega
end Go.Proofs.YtbbbnnooaaelmaaDoor
