/-
  A balance's picks in plain words: a key stays with its host.
-/
import Derived.Test.YtnmkdmehljkedaaGreatDoorBalNew
namespace Go.Proofs.YtnmkdmehljkedaaGreatDoor
open Go.RowKit

theorem findF_iff {L : List Fl} (hr : Rise L) {k : Nat} {y : Fl} : findF L k = some y ↔ y ∈ L ∧ y.key = k :=
  ⟨findF_some, fun ⟨h1, h2⟩ => by rw [← h2]; exact findF_mem hr h1⟩
theorem putF_lowB {L : List Fl} {x : Fl} (hl : L.length < 200) : putF L x = insF x (delF x.key L) := by
  have e : roomF L x.key = L := by unfold roomF; rw [if_pos (.inr hl)]
  unfold putF
  rw [e]
theorem rise_put {L : List Fl} (hr : Rise L) (x : Fl) : Rise (putF L x) := by
  unfold putF
  exact (roomF_rise hr _).put
theorem put_same {L : List Fl} (hr : Rise L) (x : Fl) : findF (putF L x) x.key = some x := by
  refine (findF_iff (rise_put hr x)).2 ⟨?_, rfl⟩
  unfold putF
  exact mem_insF.2 (.inl rfl)
theorem put_mem {L : List Fl} {x y : Fl} (hl : L.length < 200) : y ∈ putF L x ↔ y = x ∨ (y ∈ L ∧ y.key ≠ x.key) := by
  rw [putF_lowB hl, mem_insF]
  constructor
  · rintro (h | h)
    · exact .inl h
    · exact .inr ⟨delF_mem h, delF_key h⟩
  · rintro (h | ⟨h1, h2⟩)
    · exact .inl h
    · exact .inr (List.mem_filter.2 ⟨h1, by simpa using h2⟩)
theorem put_other {L : List Fl} (hr : Rise L) {x : Fl} (hl : L.length < 200) {k : Nat} {y : Fl} (hk : k ≠ x.key) (h : findF L k = some y) : findF (putF L x) k = some y := by
  obtain ⟨h1, h2⟩ := findF_some h
  exact (findF_iff (rise_put hr x)).2 ⟨(put_mem hl).2 (.inr ⟨h1, by rw [h2]; exact hk⟩), h2⟩
theorem put_len {L : List Fl} {x : Fl} (hl : L.length < 200) : (putF L x).length ≤ L.length + 1 := by
  rw [putF_lowB hl, insF_length]
  have := List.length_filter_le (fun y => !decide (y.key = x.key)) L
  show (List.filter (fun y => !decide (y.key = x.key)) L).length + 1 ≤ _
  omega
theorem tick_zero {l n : Nat} (h1 : l ≤ n) (h2 : n ≤ 1099511627776) : tickE l (n : Int) = 0 := by
  unfold tickE
  rw [if_neg (by omega), if_neg (by omega)]
/-- What a pick does where some host is open. -/
theorem pickS_step {c : BCfg} {s : BS} {k n : Nat} (h1 : s.fs.1 ≤ n) (h2 : n ≤ 1099511627776) (ho : openOf s ≠ []) (htf : tableFault (openOf s) (c.size : Int) = none) (h0 : 0 < c.size) :
    ∃ (h : ByteArray) (kept : Bool), pickS c s k n = ((h, kept, 0), { s with fs := (n, putF s.fs.2 ⟨k, h, (n : Int) + c.time⟩) }) ∧
      ((kept = true ∧ ∃ y, findF s.fs.2 k = some y ∧ (n : Int) < y.til ∧ y.host = h ∧ upOf s.st h = true) ∨ (kept = false ∧ h ∈ openOf s ∧ ∀ y, findF s.fs.2 k = some y → ¬ ((n : Int) < y.til ∧ upOf s.st y.host = true))) := by
  unfold pickS
  rw [if_pos (tick_zero h1 h2), Int.toNat_natCast]
  cases hk : keptOf s k n with
  | some x =>
    refine ⟨x, true, rfl, .inl ⟨rfl, ?_⟩⟩
    unfold keptOf at hk
    cases hg : getF s.fs.2 k n with
    | none => rw [hg] at hk; cases hk
    | some z =>
      rw [hg] at hk
      dsimp only at hk
      split at hk
      · obtain rfl := Option.some.inj hk
        unfold getF at hg
        cases hf : findF s.fs.2 k with
        | none => rw [hf] at hg; cases hg
        | some y =>
          rw [hf] at hg
          dsimp only at hg
          split at hg
          · cases hg
          · obtain rfl := Option.some.inj hg
            exact ⟨y, rfl, by omega, rfl, ‹_›⟩
      · cases hk
  | none =>
    dsimp only
    rw [if_neg ho]
    refine ⟨_, false, rfl, .inr ⟨rfl, hostAt_mem ho htf (Nat.mod_lt _ h0), fun y hf hy => ?_⟩⟩
    unfold keptOf getF at hk
    rw [hf] at hk
    dsimp only at hk
    rw [if_neg (by omega)] at hk
    dsimp only at hk
    rw [if_pos hy.2] at hk
    cases hk
/-- What stands between picks: those of keys that were picked are there, with their hosts. -/
structure PInv (keys : List Nat) (was : List ByteArray) (Q : Nat → Prop) (n cnt : Nat) (s : BS) : Prop where
  rise : Rise s.fs.2
  len : s.fs.2.length ≤ cnt
  last : s.fs.1 ≤ n
  up : ∀ y ∈ s.fs.2, upOf s.st y.host = true ∧ 20 ≤ y.til
  old : ∀ (j k : Nat) (x : ByteArray), keys[j]? = some k → was[j]? = some x → Q j → ∃ y, findF s.fs.2 k = some y ∧ y.host = x
theorem PInv.step {keys : List Nat} {was : List ByteArray} {Q : Nat → Prop} {n cnt : Nat} {s : BS} {c : BCfg} {k n' : Nat} (h : PInv keys was Q n cnt s) (hc : cnt < 200) (ht : c.time = 20) (hn : n ≤ n') (hn2 : n' < 20) (ho : openOf s ≠ []) (htf : tableFault (openOf s) (c.size : Int) = none) (h0 : 0 < c.size) (hou : ∀ x ∈ openOf s, upOf s.st x = true) :
    ∃ (x : ByteArray) (kept : Bool), pickS c s k n' = ((x, kept, 0), { s with fs := (n', putF s.fs.2 ⟨k, x, (n' : Int) + c.time⟩) }) ∧ PInv keys was Q n' (cnt + 1) { s with fs := (n', putF s.fs.2 ⟨k, x, (n' : Int) + c.time⟩) } ∧
      findF (putF s.fs.2 ⟨k, x, (n' : Int) + c.time⟩) k = some ⟨k, x, (n' : Int) + c.time⟩ ∧ (∀ y, findF s.fs.2 k = some y → kept = true ∧ y.host = x) ∧ (kept = false → x ∈ openOf s) ∧ upOf s.st x = true := by
  obtain ⟨x, kept, hp, hk⟩ := pickS_step (c := c) (s := s) (k := k) (n := n') (Nat.le_trans h.last hn) (by omega) ho htf h0
  have hl : s.fs.2.length < 200 := Nat.lt_of_le_of_lt h.len hc
  have hux : upOf s.st x = true := by
    rcases hk with ⟨_, y, _, _, _, hu⟩ | ⟨_, hm, _⟩
    · exact hu
    · exact hou x hm
  have hin : ∀ y, findF s.fs.2 k = some y → kept = true ∧ y.host = x := fun y hf => by
    obtain ⟨hy, _⟩ := findF_some hf
    obtain ⟨u1, u2⟩ := h.up y hy
    rcases hk with ⟨hkt, y', hf', _, hx, _⟩ | ⟨_, _, hno⟩
    · rw [hf] at hf'
      obtain rfl := Option.some.inj hf'
      exact ⟨hkt, hx⟩
    · exact absurd ⟨by omega, u1⟩ (hno y hf)
  refine ⟨x, kept, hp, ⟨rise_put h.rise _, Nat.le_trans (put_len hl) (Nat.succ_le_succ h.len), Nat.le_refl _, fun y hy => ?_, fun j k' z hkj hwj hQ => ?_⟩, put_same h.rise _, hin, fun hkf => ?_, hux⟩
  · rcases (put_mem hl).1 hy with rfl | ⟨hy, _⟩
    · exact ⟨hux, by dsimp only; rw [ht]; omega⟩
    · exact h.up y hy
  · obtain ⟨y, hf, hz⟩ := h.old j k' z hkj hwj hQ
    by_cases he : k' = k
    · subst he
      exact ⟨_, put_same h.rise _, by rw [← hz]; exact (hin y hf).2.symm⟩
    · exact ⟨y, put_other h.rise hl he hf, hz⟩
  · rcases hk with ⟨hkt, _⟩ | ⟨_, hm, _⟩
    · rw [hkt] at hkf; cases hkf
    · exact hm
/-- One key more is remembered. -/
theorem PInv.more {keys : List Nat} {was : List ByteArray} {Q : Nat → Prop} {n cnt k : Nat} {s : BS} {x : ByteArray} (h : PInv keys was Q n cnt s) (hk : keys[was.length]? = some k) (hf : ∃ y, findF s.fs.2 k = some y ∧ y.host = x) : PInv keys (was ++ [x]) Q n cnt s := by
  refine ⟨h.rise, h.len, h.last, h.up, fun j k' z hkj hwj hQ => ?_⟩
  by_cases hj : j < was.length
  · rw [List.getElem?_append_left hj] at hwj
    exact h.old j k' z hkj hwj hQ
  · rw [List.getElem?_append_right (by omega)] at hwj
    have hj0 : j - was.length = 0 := by
      rcases Nat.eq_zero_or_pos (j - was.length) with h0 | h0
      · exact h0
      · rw [List.getElem?_eq_none (by simp; omega)] at hwj; cases hwj
    rw [hj0] at hwj
    obtain rfl : j = was.length := by omega
    rw [hk] at hkj
    obtain rfl := Option.some.inj hkj
    simp at hwj
    subst hwj
    exact hf
theorem upOf_fresh {l : List ByteArray} {x : ByteArray} (hx : x ∈ l) : upOf (fresh l) x = true := by
  obtain ⟨j, hj, hi, _⟩ := idx_mem hx
  unfold upOf
  rw [fresh_hosts, hi]
  have : (fresh l)[j]? = some ⟨l[j], true, 0⟩ := by simp [fresh, List.getElem?_eq_getElem hj]
  show (match (fresh l)[j]? with | some s => s.up | none => false) = true
  rw [this]
theorem ups_fresh (l : List ByteArray) : ups (fresh l) = l := by
  unfold ups fresh
  rw [List.filter_eq_self.2 (by intro a ha; obtain ⟨s, _, rfl⟩ := List.mem_map.1 ha; rfl)]
  simp [Function.comp_def]
theorem openOf_new (c : BCfg) : openOf (newS c) = c.hosts := by
  unfold openOf newS
  dsimp only
  rw [ups_fresh]
  simp
theorem PInv.new (keys : List Nat) (Q : Nat → Prop) (c : BCfg) : PInv keys [] Q 0 0 (newS c) :=
  ⟨List.Pairwise.nil, Nat.zero_le _, Nat.le_refl _, fun y hy => by simp [newS] at hy, fun j k x _ hx _ => by simp at hx⟩
end Go.Proofs.YtnmkdmehljkedaaGreatDoor
