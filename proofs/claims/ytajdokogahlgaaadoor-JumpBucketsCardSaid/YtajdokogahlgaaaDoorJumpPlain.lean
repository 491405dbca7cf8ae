/-
  The path of a key by plain numbers: what jump.Path and PathOf compute, and what is so of it.
-/
namespace Go.Proofs.YtajdokogahlgaaaDoor
namespace Jp

def nextKey (key : Nat) : Nat := (key * 2862933555777941757 + 1) % 18446744073709551616
def nextJ (key j : Nat) : Nat := (j + 1) * 2147483648 / (key / 8589934592 + 1)

/-- The path from j on, for at most f steps. -/
def path : Nat → Nat → Nat → Nat → List Nat
  | 0, _, _, _ => []
  | f + 1, key, j, n => if j < n then j :: path f (nextKey key) (nextJ (nextKey key) j) n else []
/-- The whole path. -/
def P (key n : Nat) : List Nat := path n key 0 n

theorem nextKey_lt (key : Nat) : nextKey key < 18446744073709551616 := Nat.mod_lt _ (by decide)
theorem nextJ_gt (key j : Nat) (h : key < 18446744073709551616) : j < nextJ key j := by
  have h1 : key / 8589934592 + 1 ≤ 2147483648 := by omega
  unfold nextJ
  show j + 1 ≤ _
  rw [Nat.le_div_iff_mul_le (by omega)]
  exact Nat.mul_le_mul_left _ h1
theorem path_stop {f key j n : Nat} (h : n ≤ j) : path f key j n = [] := by
  cases f with
  | zero => rfl
  | succ f => unfold path; rw [if_neg (by omega)]
theorem path_go {f key j n : Nat} (h : j < n) : path (f + 1) key j n = j :: path f (nextKey key) (nextJ (nextKey key) j) n := by
  rw [path, if_pos h]
theorem path_fuel : ∀ (f g key j n : Nat), n - j ≤ f → n - j ≤ g → path f key j n = path g key j n
  | 0, g, key, j, n, hf, _ => by rw [path_stop (by omega), path_stop (by omega)]
  | f + 1, 0, key, j, n, _, hg => by rw [path_stop (by omega), path_stop (by omega)]
  | f + 1, g + 1, key, j, n, hf, hg => by
      by_cases h : j < n
      · rw [path_go h, path_go h]
        have := nextJ_gt (nextKey key) j (nextKey_lt key)
        rw [path_fuel f g _ _ n (by omega) (by omega)]
      · rw [path_stop (by omega), path_stop (by omega)]
theorem path_ge : ∀ (f key j n : Nat) (x : Nat), x ∈ path f key j n → j ≤ x ∧ x < n
  | 0, _, _, _, x, h => by simp [path] at h
  | f + 1, key, j, n, x, h => by
      by_cases hj : j < n
      · rw [path_go hj] at h
        rcases List.mem_cons.1 h with rfl | h
        · exact ⟨Nat.le_refl _, hj⟩
        · have := path_ge f _ _ n x h
          have := nextJ_gt (nextKey key) j (nextKey_lt key)
          omega
      · rw [path_stop (by omega)] at h; cases h
theorem path_length : ∀ (f key j n : Nat), (path f key j n).length ≤ n - j
  | 0, _, _, _ => by simp [path]
  | f + 1, key, j, n => by
      by_cases hj : j < n
      · rw [path_go hj, List.length_cons]
        have := path_length f (nextKey key) (nextJ (nextKey key) j) n
        have := nextJ_gt (nextKey key) j (nextKey_lt key)
        omega
      · rw [path_stop (by omega)]; simp
theorem path_sorted : ∀ (f key j n : Nat), (path f key j n).Pairwise (· < ·)
  | 0, _, _, _ => by simp [path]
  | f + 1, key, j, n => by
      by_cases hj : j < n
      · rw [path_go hj, List.pairwise_cons]
        refine ⟨fun x hx => ?_, path_sorted f _ _ n⟩
        have := path_ge f _ _ n x hx
        have := nextJ_gt (nextKey key) j (nextKey_lt key)
        omega
      · rw [path_stop (by omega)]; exact List.Pairwise.nil
/-- The path of fewer buckets is what of the path lies below. -/
theorem path_less : ∀ (f key j n m : Nat), m ≤ n → path f key j m = (path f key j n).takeWhile (fun x => decide (x < m))
  | 0, _, _, _, _, _ => rfl
  | f + 1, key, j, n, m, h => by
      by_cases hj : j < m
      · rw [path_go hj, path_go (show j < n by omega), List.takeWhile_cons]
        simp only [hj, decide_true, if_true]
        rw [path_less f _ _ n m h]
      · rw [path_stop (show m ≤ j by omega)]
        by_cases hn : j < n
        · rw [path_go hn, List.takeWhile_cons]; simp [hj]
        · rw [path_stop (by omega)]; rfl
theorem P_less {key n m : Nat} (h : m ≤ n) : P key m = (P key n).takeWhile (fun x => decide (x < m)) := by
  unfold P
  rw [path_fuel m n key 0 m (by omega) (by omega)]
  exact path_less n key 0 n m h
theorem P_lt {key n x : Nat} (h : x ∈ P key n) : x < n := (path_ge _ _ _ _ _ h).2
theorem P_length (key n : Nat) : (P key n).length ≤ n := path_length n key 0 n
theorem P_sorted (key n : Nat) : (P key n).Pairwise (· < ·) := path_sorted n key 0 n
theorem P_pos {key n : Nat} (h : 0 < n) : ∃ l, P key n = 0 :: l := by
  obtain ⟨m, rfl⟩ : ∃ m, n = m + 1 := ⟨n - 1, by omega⟩
  exact ⟨_, path_go (by omega)⟩
theorem P_ne {key n : Nat} (h : 0 < n) : P key n ≠ [] := by
  obtain ⟨l, e⟩ := P_pos (key := key) h
  rw [e]; exact List.cons_ne_nil _ _
theorem P_head {key n : Nat} (h : 0 < n) : (P key n)[0]? = some 0 := by
  obtain ⟨l, e⟩ := P_pos (key := key) h
  rw [e]; rfl
theorem P_up {key n i : Nat} (h : i + 1 < (P key n).length) : (P key n)[i]'(by omega) < (P key n)[i + 1] :=
  List.pairwise_iff_getElem.1 (P_sorted key n) i (i + 1) (by omega) h (by omega)

theorem takeWhile_lt (l : List Nat) (hs : l.Pairwise (· < ·)) (m : Nat) (hl : ∀ x ∈ l, x < m + 1) :
    l = l.takeWhile (fun x => decide (x < m)) ∨ l = l.takeWhile (fun x => decide (x < m)) ++ [m] := by
  induction l with
  | nil => exact .inl rfl
  | cons a l ih =>
    rw [List.pairwise_cons] at hs
    by_cases ha : a < m
    · rcases ih hs.2 (fun x hx => hl x (List.mem_cons_of_mem _ hx)) with e | e
      · left; rw [List.takeWhile_cons]; simp only [ha, decide_true, if_true]; rw [← e]
      · right; rw [List.takeWhile_cons]; simp only [ha, decide_true, if_true]; rw [List.cons_append, ← e]
    · have ham : a = m := by have := hl a (List.mem_cons_self); omega
      subst ham
      right
      rw [List.takeWhile_cons]; simp only [Nat.lt_irrefl, decide_false, Bool.false_eq_true, if_false, List.nil_append]
      cases l with
      | nil => rfl
      | cons b l =>
        have h1 := hs.1 b List.mem_cons_self
        have h2 := hl b (List.mem_cons_of_mem _ List.mem_cons_self)
        omega
/-- With one bucket more. -/
theorem P_succ (key n : Nat) : P key (n + 1) = P key n ∨ P key (n + 1) = P key n ++ [n] := by
  rcases takeWhile_lt (P key (n + 1)) (P_sorted _ _) n (fun x hx => P_lt hx) with h | h
  · left; rw [P_less (Nat.le_succ n)]; exact h
  · right; rw [P_less (Nat.le_succ n)]; exact h

/-- The bucket. -/
def B (key n : Nat) : Nat := (P key n).getLastD 0
theorem B_mem {key n : Nat} (h : 0 < n) : B key n ∈ P key n := by
  unfold B
  rw [List.getLastD_eq_getLast?]
  cases h' : (P key n).getLast? with
  | none => rw [List.getLast?_eq_none_iff] at h'; exact absurd h' (P_ne h)
  | some x => exact List.mem_of_getLast? h'
theorem B_lt {key n : Nat} (h : 0 < n) : B key n < n := P_lt (B_mem h)
theorem B_last {key n : Nat} (h : 0 < n) : (P key n)[(P key n).length - 1]? = some (B key n) := by
  unfold B
  rw [← List.getLast?_eq_getElem?, List.getLastD_eq_getLast?]
  cases h' : (P key n).getLast? with
  | none => rw [List.getLast?_eq_none_iff] at h'; exact absurd h' (P_ne h)
  | some x => rfl
end Jp
end Go.Proofs.YtajdokogahlgaaaDoor
