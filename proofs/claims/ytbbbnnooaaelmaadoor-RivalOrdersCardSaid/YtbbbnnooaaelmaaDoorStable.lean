/-
  A stable insertion sort by one order of a list that another order has laid: it is the sort by both.
-/
import Derived.Sort.WalkA
import Derived.Sort.Lot0
namespace Go.Proofs.YtbbbnnooaaelmaaDoor
open Go.Sort Go.Proofs

theorem extract_all {α : Type} (a : Array α) {n : Nat} (h : a.size = n) : a.extract 0 n = a := by subst h; simp
section
variable {α : Type} [Inhabited α] (lt1 lt2 : α → α → Bool) (N : α → α → Prop)
theorem insInner_eq (hEq : ∀ x y, N x y → lt1 x y = lt2 x y) : ∀ (j : Nat) (d : Array α), j < d.size → (∀ k, k < j → N d[j]! d[k]!) → insInner lt1 0 j d = insInner lt2 0 j d
  | 0, d, _, _ => by unfold insInner; rfl
  | j + 1, d, hj, hN => by
      unfold insInner
      rw [hEq _ _ (hN j (by omega))]
      split
      · refine insInner_eq hEq j _ (by rw [swp_size]; omega) fun k hk => ?_
        rw [swp_right d (j + 1) j (by omega), swp_other d (j + 1) j k (by omega) (by omega)]
        exact hN k (by omega)
      · rfl
theorem insInner_perm (lt : α → α → Bool) : ∀ (j : Nat) (d : Array α), j < d.size → PermIn 0 (j + 1) d (insInner lt 0 j d)
  | 0, d, _ => by unfold insInner; exact permIn_refl _ _ _
  | j + 1, d, hj => by
      unfold insInner
      split
      · have h1 := swp_permIn d 0 (j + 1 + 1) (j + 1) j (by omega) (by omega) (by omega) (by omega) (by omega)
        have h2 := insInner_perm lt j (swp d (j + 1) j) (by rw [swp_size]; omega)
        exact permIn_trans _ _ _ _ _ h1 (permIn_mono _ _ 0 (j + 1) 0 (j + 1 + 1) (by omega) (by omega) (by rw [swp_size]; omega) h2)
      · exact permIn_refl _ _ _
theorem insOuter_eq (hEq : ∀ x y, N x y → lt1 x y = lt2 x y) (b : Nat) : ∀ (n i : Nat) (d : Array α), b - i = n → b ≤ d.size → (∀ k m, k < i → i ≤ m → m < b → N d[m]! d[k]!) → (∀ k m, i ≤ k → k < m → m < b → N d[m]! d[k]!) → insOuter lt1 0 b i d = insOuter lt2 0 b i d
  | 0, i, d, hn, _, _, _ => by
      rw [insOuter_stop _ _ _ _ _ (by omega), insOuter_stop _ _ _ _ _ (by omega)]
  | n + 1, i, d, hn, hb, h1, h2 => by
      have hlt : i < b := by omega
      have hp := insInner_perm lt2 i d (by omega)
      rw [insOuter_go _ _ _ _ _ hlt, insOuter_go _ _ _ _ _ hlt, insInner_eq lt1 lt2 N hEq i d (by omega) fun k hk => h1 k i hk (Nat.le_refl _) hlt]
      have hsame : ∀ m, i + 1 ≤ m → (insInner lt2 0 i d)[m]! = d[m]! := fun m hm => hp.2.1 m (.inr hm)
      refine insOuter_eq hEq b n (i + 1) _ (by omega) (by rw [hp.1]; exact hb) (fun k m hk hm hmb => ?_) (fun k m hk hkm hmb => ?_)
      · rw [hsame m hm]
        refine permIn_all d _ 0 (i + 1) (fun x => N d[m]! x) (by omega) hp (fun k' _ hk' => ?_) k (by omega) hk
        by_cases hki : k' < i
        · exact h1 k' m hki (by omega) hmb
        · exact h2 k' m (by omega) (by omega) hmb
      · rw [hsame m (by omega), hsame k hk]
        exact h2 k m (by omega) hkm hmb
theorem insertionSort_eq (hEq : ∀ x y, N x y → lt1 x y = lt2 x y) (d : Array α) (hN : ∀ k m, k < m → m < d.size → N d[m]! d[k]!) : insertionSort lt1 d 0 d.size = insertionSort lt2 d 0 d.size := by
  unfold insertionSort
  exact insOuter_eq lt1 lt2 N hEq d.size _ (0 + 1) d rfl (Nat.le_refl _) (fun k m hk hm hmb => hN k m (by omega) hmb) (fun k m hk hkm hmb => hN k m hkm hmb)
/-- The stable sort of a list that lies in the order N: a permutation in the order of both. -/
theorem stable_sort (hEq : ∀ x y, N x y → lt1 x y = lt2 x y) (hS : SWO lt2) (l : List α) (hN : l.Pairwise fun a b => N b a) :
    (insertionSort lt1 l.toArray 0 l.length).size = l.length ∧ (insertionSort lt1 l.toArray 0 l.length).toList.Perm l ∧ (insertionSort lt1 l.toArray 0 l.length).toList.Pairwise fun a b => lt2 b a = false := by
  have he := insertionSort_eq lt1 lt2 N hEq l.toArray fun k m hk hm => by
    have hm' : m < l.length := by simpa using hm
    have := List.pairwise_iff_getElem.1 hN k m (by omega) hm' hk
    simpa [hm', show k < l.length by omega] using this
  simp only [List.size_toArray] at he
  rw [he]
  obtain ⟨hp, hs⟩ := insertionSort_holds hS l.toArray 0 l.length (by omega) (by simp)
  have hsz : (insertionSort lt2 l.toArray 0 l.length).size = l.length := by rw [hp.1]; simp
  refine ⟨hsz, ?_, ?_⟩
  · have h3 := hp.2.2
    have e1 : (insertionSort lt2 l.toArray 0 l.length).extract 0 l.length = insertionSort lt2 l.toArray 0 l.length := extract_all _ hsz
    rw [e1] at h3
    simpa using h3
  · rw [List.pairwise_iff_getElem]
    intro i j hi hj hij
    have hj' : j < l.length := by simpa [hsz] using hj
    have := hs i j (by omega) hij hj'
    simpa [hsz, hj', show i < l.length by omega] using this
end
end Go.Proofs.YtbbbnnooaaelmaaDoor
