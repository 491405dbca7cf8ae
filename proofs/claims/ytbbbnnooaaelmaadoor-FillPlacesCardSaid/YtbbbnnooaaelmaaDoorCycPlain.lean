/-
  The reference's order of points from a place on, in plain words.
-/
import Derived.Test.YtbbbnnooaaelmaaDoorRingPlain
namespace Go.Proofs.YtbbbnnooaaelmaaDoor

/-- Does a come ahead of b, from number t on? -/
def ltC (t : Nat) (a b : Pt) : Bool := if decide (a.at_ < t) != decide (b.at_ < t) then decide (b.at_ < t) else if a.at_ != b.at_ then decide (a.at_ < b.at_) else ltB a.host b.host
theorem ltC_iff (t : Nat) (a b : Pt) : ltC t a b = true ↔ (t ≤ a.at_ ∧ b.at_ < t) ∨ ((a.at_ < t ↔ b.at_ < t) ∧ ltP a b = true) := by
  unfold ltC ltP
  generalize ltB a.host b.host = z
  generalize a.at_ = x
  generalize b.at_ = y
  cases z <;> by_cases h1 : x < t <;> by_cases h2 : y < t <;> by_cases h3 : x = y <;> simp [h1, h2, h3] <;> omega
theorem ltC_no {t : Nat} {a b : Pt} : ltC t a b = false ↔ ¬ ((t ≤ a.at_ ∧ b.at_ < t) ∨ ((a.at_ < t ↔ b.at_ < t) ∧ ltP a b = true)) := by
  rw [← ltC_iff, Bool.not_eq_true]
theorem ltC_irrefl (t : Nat) (a : Pt) : ltC t a a = false := by
  rw [ltC_no]
  rintro (h | ⟨_, h⟩)
  · omega
  · rw [ltP_irrefl] at h; cases h
theorem ltC_trans {t : Nat} {a b c : Pt} (h1 : ltC t a b = true) (h2 : ltC t b c = true) : ltC t a c = true := by
  rw [ltC_iff] at *
  rcases h1 with h1 | ⟨h1, g1⟩ <;> rcases h2 with h2 | ⟨h2, g2⟩
  · omega
  · left; omega
  · left; omega
  · right; exact ⟨by omega, ltP_trans g1 g2⟩
theorem ltC_tri {t : Nat} {a b : Pt} (h1 : ltC t a b = false) (h2 : ltC t b a = false) : a = b := by
  rw [ltC_no] at h1 h2
  simp only [not_or, not_and] at h1 h2
  have hi : a.at_ < t ↔ b.at_ < t := by omega
  refine ltP_tri ?_ ?_
  · rw [← Bool.not_eq_true]; exact h1.2 hi
  · rw [← Bool.not_eq_true]; exact h2.2 hi.symm
/-- The points from number t on, around. -/
def cyc (t : Nat) (s : List Pt) : List Pt := s.filter (fun p => decide (t ≤ p.at_)) ++ s.filter (fun p => decide (p.at_ < t))
theorem around_cyc (t : Nat) (s : List Pt) : around t s = (cyc t s).map (·.host) := rfl
theorem cyc_perm (t : Nat) (s : List Pt) : (cyc t s).Perm s := by
  have h := List.filter_append_perm (fun p : Pt => decide (t ≤ p.at_)) s
  have e : (fun p : Pt => decide (p.at_ < t)) = fun p : Pt => !decide (t ≤ p.at_) := by
    funext p
    by_cases h : p.at_ < t
    · simp [h]
    · have h2 : t ≤ p.at_ := by omega
      simp [h2]
  unfold cyc
  rw [e]; exact h
theorem cyc_sorted (t : Nat) {s : List Pt} (h : s.Pairwise fun a b => ltP b a = false) : (cyc t s).Pairwise fun a b => ltC t b a = false := by
  unfold cyc
  refine List.pairwise_append.2 ⟨?_, ?_, ?_⟩
  · refine (h.filter _).imp_of_mem fun {a b} ha hb hab => ?_
    have h1 := (List.mem_filter.1 ha).2
    have h2 := (List.mem_filter.1 hb).2
    simp only [decide_eq_true_eq] at h1 h2
    rw [ltC_no]
    rintro (hx | ⟨_, hx⟩)
    · omega
    · rw [hab] at hx; cases hx
  · refine (h.filter _).imp_of_mem fun {a b} ha hb hab => ?_
    have h1 := (List.mem_filter.1 ha).2
    have h2 := (List.mem_filter.1 hb).2
    simp only [decide_eq_true_eq] at h1 h2
    rw [ltC_no]
    rintro (hx | ⟨_, hx⟩)
    · omega
    · rw [hab] at hx; cases hx
  · intro a ha b hb
    have h1 := (List.mem_filter.1 ha).2
    have h2 := (List.mem_filter.1 hb).2
    simp only [decide_eq_true_eq] at h1 h2
    rw [ltC_no]
    rintro (hx | ⟨hx, _⟩) <;> omega
theorem next_skip_all {many : Int} {out : List ByteArray} (h : ¬ many ≤ out.length) : ∀ (pre r : List ByteArray), (∀ y ∈ pre, has out y = true) → nextGo many out (pre ++ r) = nextGo many out r
  | [], _, _ => rfl
  | y :: pre, r, hp => by
      rw [List.cons_append, nextGo_skip h (hp y List.mem_cons_self)]
      exact next_skip_all h pre r fun z hz => hp z (List.mem_cons_of_mem _ hz)
theorem next_none {many : Int} {out H : List ByteArray} (h : ¬ many ≤ out.length) (hp : ∀ y ∈ H, has out y = true) : nextGo many out H = out := by
  have := next_skip_all h H [] hp
  rw [List.append_nil] at this
  rw [this]; rfl
/-- One found, one may begin anew. -/
theorem next_again {many : Int} {out pre r : List ByteArray} {x : ByteArray} (h : ¬ many ≤ out.length) (hp : ∀ y ∈ pre, has out y = true) (hx : has out x = false) : nextGo many out (pre ++ x :: r) = nextGo many (out ++ [x]) (pre ++ x :: r) := by
  rw [next_skip_all h pre _ hp, nextGo_more h hx]
  by_cases h2 : many ≤ (out ++ [x]).length
  · rw [nextGo_stop h2, nextGo_stop h2]
  · rw [next_skip_all h2 pre _ fun y hy => ?_, nextGo_skip h2 (has_iff.2 (by simp))]
    exact has_iff.2 (List.mem_append_left _ (has_iff.1 (hp y hy)))
/-- The least of those that are not there yet comes next. -/
theorem next_best {many : Int} {out : List ByteArray} {t : Nat} {L C : List Pt} {q : Pt} (hp : C.Perm L) (hs : C.Pairwise fun a b => ltC t b a = false) (h : ¬ many ≤ out.length) (hq : q ∈ L) (he : has out q.host = false) (hb : ∀ r ∈ L, has out r.host = false → ltC t r q = false) :
    nextGo many out (C.map (·.host)) = nextGo many (out ++ [q.host]) (C.map (·.host)) := by
  have hqC : q ∈ C := hp.mem_iff.2 hq
  cases hf : C.find? fun p => !has out p.host with
  | none =>
    have := List.find?_eq_none.1 hf q hqC
    rw [he] at this; simp at this
  | some p =>
    obtain ⟨hpe, pre, r, hC, hpre⟩ := List.find?_eq_some_iff_append.1 hf
    have hpe' : has out p.host = false := by simpa using hpe
    have hpre' : ∀ y ∈ pre, has out y.host = true := fun y hy => by simpa using hpre y hy
    have hpL : p ∈ L := hp.mem_iff.1 (by rw [hC]; simp)
    have h1 := hb p hpL hpe'
    have e : p = q := by
      rw [hC] at hqC hs
      rcases List.mem_append.1 hqC with hm | hm
      · rw [hpre' q hm] at he; cases he
      · rcases List.mem_cons.1 hm with hm | hm
        · exact hm.symm
        · have h2 := (List.pairwise_cons.1 (List.pairwise_append.1 hs).2.1).1 q hm
          exact ltC_tri h1 h2
    subst e
    rw [hC, List.map_append, List.map_cons]
    exact next_again h (fun y hy => by
      obtain ⟨z, hz, rfl⟩ := List.mem_map.1 hy
      exact hpre' z hz) hpe'

/-- The best of the first k. -/
def BestIs (out : List ByteArray) (t : Nat) (L : List Pt) (k : Nat) (b : Int) : Prop :=
  (b = -1 ∧ ∀ i p, i < k → L[i]? = some p → has out p.host = true) ∨ ∃ (j : Nat) (q : Pt), b = j ∧ j < k ∧ L[j]? = some q ∧ has out q.host = false ∧ ∀ i p, i < k → L[i]? = some p → has out p.host = false → ltC t p q = false
theorem BestIs.zero (out : List ByteArray) (t : Nat) (L : List Pt) : BestIs out t L 0 (-1) := .inl ⟨rfl, fun i p h => absurd h (by omega)⟩
theorem BestIs.skip {out : List ByteArray} {t : Nat} {L : List Pt} {k : Nat} {b : Int} {p : Pt} (h : BestIs out t L k b) (hk : L[k]? = some p) (hh : has out p.host = true) : BestIs out t L (k + 1) b := by
  rcases h with ⟨rfl, h⟩ | ⟨j, q, rfl, hj, hq, he, h⟩
  · refine .inl ⟨rfl, fun i p' hi hp' => ?_⟩
    rcases Nat.lt_succ_iff_lt_or_eq.1 hi with hi | rfl
    · exact h i p' hi hp'
    · rw [hk] at hp'; obtain rfl := Option.some.inj hp'; exact hh
  · refine .inr ⟨j, q, rfl, by omega, hq, he, fun i p' hi hp' he' => ?_⟩
    rcases Nat.lt_succ_iff_lt_or_eq.1 hi with hi | rfl
    · exact h i p' hi hp' he'
    · rw [hk] at hp'; obtain rfl := Option.some.inj hp'; rw [hh] at he'; cases he'
theorem BestIs.first {out : List ByteArray} {t : Nat} {L : List Pt} {k : Nat} {p : Pt} (h : BestIs out t L k (-1)) (hk : L[k]? = some p) (hh : has out p.host = false) : BestIs out t L (k + 1) (k : Int) := by
  rcases h with ⟨_, h⟩ | ⟨j, q, hj, _⟩
  · refine .inr ⟨k, p, rfl, by omega, hk, hh, fun i p' hi hp' he' => ?_⟩
    rcases Nat.lt_succ_iff_lt_or_eq.1 hi with hi | rfl
    · rw [h i p' hi hp'] at he'; cases he'
    · rw [hk] at hp'; obtain rfl := Option.some.inj hp'; exact ltC_irrefl _ _
  · omega
theorem BestIs.turn {out : List ByteArray} {t : Nat} {L : List Pt} {k j : Nat} {p q : Pt} (h : BestIs out t L k (j : Int)) (hq : L[j]? = some q) (hk : L[k]? = some p) (hh : has out p.host = false) (hl : ltC t p q = true) : BestIs out t L (k + 1) (k : Int) := by
  rcases h with ⟨h, _⟩ | ⟨j', q', hj, _, hq', he, h⟩
  · omega
  · obtain rfl : j = j' := by omega
    rw [hq] at hq'
    obtain rfl := Option.some.inj hq'
    refine .inr ⟨k, p, rfl, by omega, hk, hh, fun i p' hi hp' he' => ?_⟩
    rcases Nat.lt_succ_iff_lt_or_eq.1 hi with hi | rfl
    · rw [← Bool.not_eq_true]
      intro hlt
      have h1 := h i p' hi hp' he'
      rw [ltC_trans hlt hl] at h1; cases h1
    · rw [hk] at hp'; obtain rfl := Option.some.inj hp'; exact ltC_irrefl _ _
theorem BestIs.stay {out : List ByteArray} {t : Nat} {L : List Pt} {k j : Nat} {p q : Pt} (h : BestIs out t L k (j : Int)) (hq : L[j]? = some q) (hk : L[k]? = some p) (hl : ltC t p q = false) : BestIs out t L (k + 1) (j : Int) := by
  rcases h with ⟨h, _⟩ | ⟨j', q', hj, hjk, hq', he, h⟩
  · omega
  · obtain rfl : j = j' := by omega
    rw [hq] at hq'
    obtain rfl := Option.some.inj hq'
    refine .inr ⟨j, q, rfl, by omega, hq, he, fun i p' hi hp' he' => ?_⟩
    rcases Nat.lt_succ_iff_lt_or_eq.1 hi with hi | rfl
    · exact h i p' hi hp' he'
    · rw [hk] at hp'; obtain rfl := Option.some.inj hp'; exact hl
end Go.Proofs.YtbbbnnooaaelmaaDoor
