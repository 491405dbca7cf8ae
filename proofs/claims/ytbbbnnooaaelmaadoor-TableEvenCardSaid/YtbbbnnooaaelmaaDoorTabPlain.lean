/-
  Tables by plain lists: sizes that nothing divides, rows, turn by turn.
-/
import Derived.Test.YtbbbnnooaaelmaaDoorOf
namespace Go.Proofs.YtbbbnnooaaelmaaDoor

theorem nodup_le {α : Type} [DecidableEq α] : ∀ {o l : List α}, o.Nodup → (∀ x ∈ o, x ∈ l) → o.length ≤ l.length
  | [], _, _, _ => Nat.zero_le _
  | a :: o, l, hn, hs => by
      have ha := hs a (List.mem_cons_self)
      obtain ⟨h1, h2⟩ := List.nodup_cons.1 hn
      have h3 := nodup_le (l := l.erase a) h2 fun x hx => (List.mem_erase_of_ne (fun e => h1 (by rw [← e]; exact hx))).2 (hs x (List.mem_cons_of_mem _ hx))
      rw [List.length_erase_of_mem ha] at h3
      have h4 := List.length_pos_of_mem ha
      simp only [List.length_cons]; omega
/-! A table's size. -/
/-- No number divides it. -/
def noDiv (n : Nat) : Prop := ∀ k, 2 ≤ k → k < n → n % k ≠ 0
instance (n : Nat) : Decidable (noDiv n) := decidable_of_iff (∀ k, k < n → 2 ≤ k → n % k ≠ 0) ⟨fun h k h1 h2 => h k h2 h1, fun h k h1 h2 => h k h2 h1⟩
theorem noDiv_of_small {n k : Nat} (h : ∀ j, 2 ≤ j → j < k → n % j ≠ 0) (hk : n < k * k) : noDiv n := by
  intro d h2 hd he
  obtain ⟨e, rfl⟩ := Nat.dvd_of_mod_eq_zero he
  have he2 : 2 ≤ e := by
    rcases Nat.lt_or_ge e 2 with h1 | h1
    · have : d * e ≤ d * 1 := Nat.mul_le_mul_left d (by omega)
      omega
    · exact h1
  rcases Nat.lt_or_ge d k with h1 | h1
  · exact h d h2 h1 (Nat.mul_mod_right d e)
  · rcases Nat.lt_or_ge e k with h3 | h3
    · exact h e he2 h3 (Nat.mul_mod_left d e)
    · have := Nat.mul_le_mul h1 h3
      omega

/-! A row: where it begins, and how far it goes. -/
def skipOf (s : ByteArray) (n : Nat) : Nat := 1 + ofN s 2 % (n - 1)
def rowAt (s : ByteArray) (n i : Nat) : Nat := (ofN s 1 % n + i * skipOf s n) % n
theorem rowAt_lt (s : ByteArray) {n : Nat} (i : Nat) (hn : 2 ≤ n) : rowAt s n i < n := Nat.mod_lt _ (by omega)
theorem rowAt_zero (s : ByteArray) (n : Nat) : rowAt s n 0 = ofN s 1 % n := by
  unfold rowAt; rw [Nat.zero_mul, Nat.add_zero, Nat.mod_mod]
theorem rowAt_succ (s : ByteArray) (n i : Nat) : rowAt s n (i + 1) = (rowAt s n i + skipOf s n) % n := by
  unfold rowAt
  rw [Nat.succ_mul, ← Nat.add_assoc]
  exact (Nat.mod_add_mod _ _ _).symm
theorem skipOf_lt (s : ByteArray) {n : Nat} (hn : 2 ≤ n) : 1 ≤ skipOf s n ∧ skipOf s n < n := by
  unfold skipOf
  have := Nat.mod_lt (ofN s 2) (show 0 < n - 1 by omega)
  omega
theorem coprime_skip {n k : Nat} (hn : noDiv n) (h1 : 1 ≤ k) (h2 : k < n) : Nat.Coprime n k := by
  have hd1 := Nat.gcd_dvd_left n k
  have hd2 := Nat.gcd_dvd_right n k
  have hle := Nat.le_of_dvd (by omega) hd2
  have hpos : 0 < Nat.gcd n k := Nat.gcd_pos_of_pos_right n (by omega)
  refine Classical.byContradiction fun hne => ?_
  exact hn (Nat.gcd n k) (by unfold Nat.Coprime at hne; omega) (by omega) (Nat.mod_eq_zero_of_dvd hd1)
theorem rowAt_inj (s : ByteArray) {n i j : Nat} (hn : 2 ≤ n) (hd : noDiv n) (hij : i < j) (hj : j < n) : rowAt s n i ≠ rowAt s n j := by
  intro he
  unfold rowAt at he
  obtain ⟨h1, h2⟩ := skipOf_lt s hn
  have hc := coprime_skip hd h1 h2
  obtain ⟨d, rfl⟩ : ∃ d, j = i + d := ⟨j - i, by omega⟩
  have hdvd : n ∣ d * skipOf s n := by
    have h3 : (ofN s 1 % n + (i + d) * skipOf s n) = (ofN s 1 % n + i * skipOf s n) + d * skipOf s n := by rw [Nat.add_mul]; omega
    rw [h3] at he
    generalize ofN s 1 % n + i * skipOf s n = a at he
    generalize d * skipOf s n = b at he ⊢
    have h4 := Nat.div_add_mod a n
    have h5 := Nat.div_add_mod (a + b) n
    refine ⟨(a + b) / n - a / n, ?_⟩
    rw [Nat.mul_sub]
    omega
  have := Nat.le_of_dvd (by omega) (hc.dvd_of_dvd_mul_right hdvd)
  omega
theorem rowAt_onto (s : ByteArray) {n p : Nat} (hn : 2 ≤ n) (hd : noDiv n) (hp : p < n) : ∃ i, i < n ∧ rowAt s n i = p := by
  refine Classical.byContradiction fun hno => ?_
  have hnd : (p :: (List.range n).map (rowAt s n)).Nodup := by
    rw [List.nodup_cons]
    refine ⟨fun h => ?_, ?_⟩
    · obtain ⟨i, hi, he⟩ := List.mem_map.1 h
      exact hno ⟨i, List.mem_range.1 hi, he⟩
    · rw [List.Nodup, List.pairwise_map]
      refine List.Pairwise.imp_of_mem ?_ List.pairwise_lt_range
      intro a b ha hb hab
      exact rowAt_inj s hn hd hab (List.mem_range.1 hb)
  have := nodup_le (l := List.range n) hnd fun x hx => by
    rcases List.mem_cons.1 hx with rfl | hx
    · exact List.mem_range.2 hp
    · obtain ⟨i, _, rfl⟩ := List.mem_map.1 hx
      exact List.mem_range.2 (rowAt_lt s i hn)
  simp at this
  omega

/-! A table, turn by turn. -/
/-- The first slot of a row that is free. -/
def firstFree (s : ByteArray) (n : Nat) (out : List Int) : Nat := ((List.range n).find? fun i => decide (out.getD (rowAt s n i) 0 < 0)).getD n
theorem firstFree_at {s : ByteArray} {n i : Nat} {out : List Int} (hi : i < n) (h1 : ∀ j, j < i → ¬ out.getD (rowAt s n j) 0 < 0) (h2 : out.getD (rowAt s n i) 0 < 0) : firstFree s n out = i := by
  have : (List.range n).find? (fun i => decide (out.getD (rowAt s n i) 0 < 0)) = some i := by
    rw [List.find?_eq_some_iff_getElem]
    exact ⟨by simpa using h2, i, by simpa using hi, by simp, fun j hj => by simpa using h1 j hj⟩
  unfold firstFree; rw [this]; rfl
def tab (names : List ByteArray) (n : Nat) : Nat → List Int
  | 0 => List.replicate n (-1)
  | t + 1 => (tab names n t).set (rowAt (names.getD (t % names.length) ByteArray.empty) n (firstFree (names.getD (t % names.length) ByteArray.empty) n (tab names n t))) ((t % names.length : Nat) : Int)
theorem tab_length (names : List ByteArray) (n : Nat) : ∀ t, (tab names n t).length = n
  | 0 => by simp [tab]
  | t + 1 => by rw [tab, List.length_set, tab_length names n t]
theorem count_neg_set : ∀ (l : List Int) (k : Nat) (v : Int) (hk : k < l.length), l[k] < 0 → 0 ≤ v → (l.set k v).countP (fun x => decide (x < 0)) + 1 = l.countP fun x => decide (x < 0)
  | [], k, _, hk, _, _ => absurd hk (by simp)
  | x :: l, 0, v, _, h, hv => by
      have h' : x < 0 := h
      have hv' : ¬ v < 0 := by omega
      simp [h', hv']
  | x :: l, k + 1, v, hk, h, hv => by
      have ih := count_neg_set l k v (by simpa using hk) (by simpa using h) hv
      simp only [List.set_cons_succ, List.countP_cons]
      omega
theorem count_set_new (c : Nat) : ∀ (l : List Int) (k : Nat) (v : Nat) (hk : k < l.length), l[k] < 0 → (l.set k (v : Int)).count (c : Int) = l.count (c : Int) + if v = c then 1 else 0
  | [], k, _, hk, _ => absurd hk (by simp)
  | x :: l, 0, v, _, h => by
      have h' : x < 0 := h
      have h1 : ¬ x = (c : Int) := by omega
      simp only [List.set_cons_zero, List.count_cons]
      have h2 : (x == (c : Int)) = false := by simpa using h1
      have h3 : ((v : Int) == (c : Int)) = decide (v = c) := by
        rw [Bool.eq_iff_iff]; simp; omega
      rw [h2, h3]
      by_cases hvc : v = c <;> simp [hvc]
  | x :: l, k + 1, v, hk, h => by
      have ih := count_set_new c l k v (by simpa using hk) (by simpa using h)
      simp only [List.set_cons_succ, List.count_cons]
      omega
/-- What holds of a table behind so many turns. -/
structure TabOK (m n t : Nat) (out : List Int) : Prop where
  len : out.length = n
  free : out.countP (fun x => decide (x < 0)) = n - t
  lt : ∀ x ∈ out, x = -1 ∨ 0 ≤ x ∧ x < m
  cnt : ∀ k, k < m → out.count (k : Int) = t / m + if k < t % m then 1 else 0
theorem div_mod_next (t : Nat) {m : Nat} (hm : 0 < m) : ((t + 1) / m = t / m ∧ (t + 1) % m = t % m + 1) ∨ (t % m + 1 = m ∧ (t + 1) / m = t / m + 1 ∧ (t + 1) % m = 0) := by
  have h1 := Nat.div_add_mod t m
  have h2 := Nat.mod_lt t hm
  generalize t / m = q at *
  generalize t % m = r at *
  subst h1
  rw [show m * q + r + 1 = m * q + (r + 1) by omega, Nat.mul_add_div hm, Nat.mul_add_mod]
  rcases Nat.lt_or_ge (r + 1) m with h | h
  · left
    rw [Nat.div_eq_of_lt h, Nat.mod_eq_of_lt h]; exact ⟨rfl, rfl⟩
  · right
    have e : r + 1 = m := by omega
    rw [e, Nat.div_self hm, Nat.mod_self]; exact ⟨rfl, rfl, rfl⟩
theorem free_exists {out : List Int} (h : 0 < out.countP fun x => decide (x < 0)) : ∃ p, ∃ hp : p < out.length, out[p] < 0 := by
  rw [List.countP_pos_iff] at h
  obtain ⟨x, hx, hx2⟩ := h
  obtain ⟨p, hp, rfl⟩ := List.getElem_of_mem hx
  exact ⟨p, hp, by simpa using hx2⟩
theorem firstFree_spec {s : ByteArray} {n : Nat} {out : List Int} (hn : 2 ≤ n) (hd : noDiv n) (hl : out.length = n) (h : 0 < out.countP fun x => decide (x < 0)) :
    firstFree s n out < n ∧ out.getD (rowAt s n (firstFree s n out)) 0 < 0 ∧ ∀ j, j < firstFree s n out → ¬ out.getD (rowAt s n j) 0 < 0 := by
  obtain ⟨p, hp, hneg⟩ := free_exists h
  obtain ⟨i, hi, hr⟩ := rowAt_onto s hn hd (by omega : p < n)
  cases hf : (List.range n).find? (fun i => decide (out.getD (rowAt s n i) 0 < 0)) with
  | none =>
    rw [List.find?_eq_none] at hf
    have := hf i (List.mem_range.2 hi)
    rw [hr] at this
    simp [List.getD_eq_getElem?_getD, List.getElem?_eq_getElem hp] at this
    omega
  | some j =>
    have hff : firstFree s n out = j := by unfold firstFree; rw [hf]; rfl
    rw [hff]
    rw [List.find?_eq_some_iff_getElem] at hf
    obtain ⟨h1, q, hq, he, h2⟩ := hf
    rw [List.getElem_range] at he
    subst he
    rw [List.length_range] at hq
    exact ⟨hq, by simpa using h1, fun j hj => by simpa using h2 j hj⟩
theorem tab_ok (names : List ByteArray) {n : Nat} (hm : 0 < names.length) (hn : 2 ≤ n) (hd : noDiv n) : ∀ t, t ≤ n → TabOK names.length n t (tab names n t)
  | 0, _ => by
      refine ⟨by simp [tab], by simp [tab, List.countP_replicate], fun x hx => ?_, fun k hk => ?_⟩
      · rw [tab, List.mem_replicate] at hx; exact .inl hx.2
      · rw [tab, Nat.zero_div, Nat.zero_mod, List.count_replicate]
        have : ¬ ((-1 : Int) == (k : Int)) = true := by simp
        rw [if_neg this, if_neg (by omega : ¬ k < 0)]
  | t + 1, ht => by
      have ih := tab_ok names hm hn hd t (by omega)
      have hmod := Nat.mod_lt t hm
      generalize hs : names.getD (t % names.length) ByteArray.empty = s
      have hsp := firstFree_spec (s := s) hn hd ih.len (by rw [ih.free]; omega)
      have hlt := rowAt_lt s (firstFree s n (tab names n t)) hn
      rw [tab, hs]
      generalize rowAt s n (firstFree s n (tab names n t)) = p at *
      have hp : p < (tab names n t).length := by rw [ih.len]; exact hlt
      have hneg : (tab names n t)[p] < 0 := by
        have := hsp.2.1
        rwa [List.getD_eq_getElem?_getD, List.getElem?_eq_getElem hp] at this
      refine ⟨by rw [List.length_set]; exact ih.len, ?_, fun x hx => ?_, fun k hk => ?_⟩
      · have := count_neg_set (tab names n t) p ((t % names.length : Nat) : Int) hp hneg (by omega)
        have h2 := ih.free
        omega
      · rcases List.mem_or_eq_of_mem_set hx with h | h
        · exact ih.lt x h
        · right; omega
      · rw [count_set_new k _ p _ hp hneg, ih.cnt k hk]
        rcases div_mod_next t hm with ⟨h1, h2⟩ | ⟨h0, h1, h2⟩
        · rw [h1, h2]
          by_cases hk2 : t % names.length = k
          · rw [if_pos hk2, if_neg (by omega), if_pos (by omega)]
          · rw [if_neg hk2]
            by_cases hk3 : k < t % names.length
            · rw [if_pos hk3, if_pos (by omega)]
            · rw [if_neg hk3, if_neg (by omega)]
        · rw [h1, h2, if_neg (by omega : ¬ k < 0)]
          by_cases hk2 : t % names.length = k
          · rw [if_pos hk2, if_neg (by omega)]
          · rw [if_neg hk2, if_pos (by omega)]
/-- The whole table: a host's number in order at each slot. -/
def table (names : List ByteArray) (n : Nat) : List Int := tab names n n
theorem table_full {names : List ByteArray} {n : Nat} (hm : 0 < names.length) (hn : 2 ≤ n) (hd : noDiv n) : ∀ x ∈ table names n, 0 ≤ x ∧ x < names.length := by
  have h := tab_ok names hm hn hd n (Nat.le_refl n)
  intro x hx
  rcases h.lt x hx with rfl | h1
  · have := (List.countP_pos_iff (p := fun x : Int => decide (x < 0))).2 ⟨-1, hx, by decide⟩
    unfold table at this
    rw [h.free] at this
    omega
  · exact h1
theorem even_bounds (n : Nat) {m k : Nat} (hm : 0 < m) : n / m ≤ n / m + (if k < n % m then 1 else 0) ∧ n / m + (if k < n % m then 1 else 0) ≤ (n + m - 1) / m := by
  refine ⟨by omega, ?_⟩
  have h1 := Nat.div_add_mod n m
  have h2 := Nat.mod_lt n hm
  by_cases hr : k < n % m
  · rw [if_pos hr, Nat.le_div_iff_mul_le hm, Nat.add_mul, Nat.mul_comm]
    omega
  · rw [if_neg hr, Nat.le_div_iff_mul_le hm, Nat.add_zero, Nat.mul_comm]
    omega
theorem table_even {names : List ByteArray} {n k : Nat} (hm : 0 < names.length) (hn : 2 ≤ n) (hd : noDiv n) (hk : k < names.length) : n / names.length ≤ (table names n).count (k : Int) ∧ (table names n).count (k : Int) ≤ (n + names.length - 1) / names.length := by
  have h := (tab_ok names hm hn hd n (Nat.le_refl n)).cnt k hk
  unfold table
  rw [h]
  exact even_bounds n hm
end Go.Proofs.YtbbbnnooaaelmaaDoor
