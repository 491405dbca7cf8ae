/-
  Filled evenly, in plain words: the order of all hosts; there is always one with room.
-/
import Derived.Test.YtbbbnnooaaelmaaDoorFill
namespace Go.Proofs.YtbbbnnooaaelmaaDoor

theorem nodup_len {α : Type} [DecidableEq α] : ∀ {o l : List α}, o.Nodup → (∀ x ∈ o, x ∈ l) → o.length ≤ l.length
  | [], _, _, _ => Nat.zero_le _
  | a :: o, l, hn, hs => by
      have ha := hs a (List.mem_cons_self)
      obtain ⟨h1, h2⟩ := List.nodup_cons.1 hn
      have h3 := nodup_len (l := l.erase a) h2 fun x hx => (List.mem_erase_of_ne (fun e => h1 (by rw [← e]; exact hx))).2 (hs x (List.mem_cons_of_mem _ hx))
      rw [List.length_erase_of_mem ha] at h3
      have h4 := List.length_pos_of_mem ha
      simp only [List.length_cons]; omega
theorem next_all {l : List ByteArray} : ∀ (H out : List ByteArray), out.Nodup → (∀ x ∈ out, x ∈ l) → (∀ x ∈ H, x ∈ l) → ∀ y, y ∈ H ∨ y ∈ out → y ∈ nextGo (l.length : Int) out H
  | [], out, _, _, _, y, hy => by
      rcases hy with h | h
      · cases h
      · exact h
  | x :: r, out, hn, ho, hH, y, hy => by
      by_cases hm : (l.length : Int) ≤ out.length
      · rw [nextGo_stop hm]
        have hyl : y ∈ l := by
          rcases hy with h | h
          · exact hH y h
          · exact ho y h
        refine Classical.byContradiction fun hno => ?_
        have := nodup_len (o := y :: out) (l := l) (List.nodup_cons.2 ⟨hno, hn⟩) (fun z hz => by
          rcases List.mem_cons.1 hz with rfl | hz
          · exact hyl
          · exact ho z hz)
        simp only [List.length_cons] at this; omega
      · cases hh : has out x with
        | true =>
          rw [nextGo_skip hm hh]
          refine next_all r out hn ho (fun z hz => hH z (List.mem_cons_of_mem _ hz)) y ?_
          rcases hy with h | h
          · rcases List.mem_cons.1 h with rfl | h
            · exact .inr (has_iff.1 hh)
            · exact .inl h
          · exact .inr h
        | false =>
          rw [nextGo_more hm hh]
          have hx : x ∉ out := fun h => by rw [has_iff.2 h] at hh; cases hh
          refine next_all r (out ++ [x]) ?_ ?_ (fun z hz => hH z (List.mem_cons_of_mem _ hz)) y ?_
          · exact List.nodup_append.2 ⟨hn, by simp, fun a ha b hb => by
              obtain rfl : b = x := by simpa using hb
              exact fun e => hx (e ▸ ha)⟩
          · intro z hz
            rcases List.mem_append.1 hz with h | h
            · exact ho z h
            · obtain rfl : z = x := by simpa using h
              exact hH _ (List.mem_cons_self)
          · rcases hy with h | h
            · rcases List.mem_cons.1 h with rfl | h
              · exact .inr (by simp)
              · exact .inl h
            · exact .inr (List.mem_append_left _ h)
theorem next_from {many : Int} : ∀ (H out : List ByteArray), ∃ t, nextGo many out H = out ++ t ∧ ∀ y ∈ t, y ∈ H
  | [], out => ⟨[], by simp [nextGo], fun _ h => by cases h⟩
  | x :: r, out => by
      by_cases hm : many ≤ out.length
      · exact ⟨[], by rw [nextGo_stop hm]; simp, fun _ h => by cases h⟩
      · cases hh : has out x with
        | true =>
          obtain ⟨t, h1, h2⟩ := next_from (many := many) r out
          exact ⟨t, by rw [nextGo_skip hm hh, h1], fun y hy => List.mem_cons_of_mem _ (h2 y hy)⟩
        | false =>
          obtain ⟨t, h1, h2⟩ := next_from (many := many) r (out ++ [x])
          refine ⟨x :: t, by rw [nextGo_more hm hh, h1]; simp, fun y hy => ?_⟩
          rcases List.mem_cons.1 hy with rfl | hy
          · exact List.mem_cons_self
          · exact List.mem_cons_of_mem _ (h2 y hy)
theorem next_first {l : List ByteArray} {x : ByteArray} {r : List ByteArray} (h : 0 < l.length) : (nextGo (l.length : Int) [] (x :: r))[0]? = some x := by
  rw [nextGo_more (by simp only [List.length_nil]; omega) (by rfl)]
  obtain ⟨t, h1, _⟩ := next_from (many := (l.length : Int)) r [x]
  simp only [List.nil_append]
  rw [h1]; rfl
theorem count_split (n : Nat) : ∀ xs : List Nat, (xs.filter fun x => x != n).length + xs.count n = xs.length
  | [] => rfl
  | x :: xs => by
      have ih := count_split n xs
      by_cases h : x = n
      · subst h; simp; omega
      · have h2 : (x != n) = true := by simpa using h
        simp [h]; omega
theorem room : ∀ (n most : Nat) (xs : List Nat), (∀ j, j < n → most ≤ xs.count j) → n * most ≤ xs.length
  | 0, _, _, _ => by simp
  | n + 1, most, xs, h => by
      have h1 := room n most (xs.filter fun x => x != n) fun j hj => by
        rw [List.count_filter (by simp; omega)]
        exact h j (by omega)
      have h2 := h n (by omega)
      have h3 := count_split n xs
      rw [Nat.succ_mul]; omega
/-- While keys are left, some host has room. -/
theorem has_room {n k p : Nat} (hn : 1 ≤ n) {xs : List Nat} (h : xs.length < k) : ∃ j, j < n ∧ xs.count j < capN k n p := by
  refine Classical.byContradiction fun hno => ?_
  have h1 := room n (capN k n p) xs fun j hj => Nat.le_of_not_lt fun hc => hno ⟨j, hj, hc⟩
  have h2 := cap_room (k := k) p hn
  omega
end Go.Proofs.YtbbbnnooaaelmaaDoor
