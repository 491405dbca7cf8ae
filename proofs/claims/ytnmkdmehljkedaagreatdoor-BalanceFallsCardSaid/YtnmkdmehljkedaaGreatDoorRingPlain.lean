/-
  Rings by plain lists: points in order, and what comes next from a place on.
-/
import Derived.Test.YtnmkdmehljkedaaGreatDoorOf
import Derived.Test.YtnmkdmehljkedaaGreatDoorTexts
import Derived.Sort.Walk0
namespace Go.Proofs.YtnmkdmehljkedaaGreatDoor

structure Pt where
  at_ : Nat
  host : ByteArray
instance : Inhabited Pt := ⟨⟨0, ByteArray.empty⟩⟩
theorem Pt.eq {a b : Pt} (h1 : a.at_ = b.at_) (h2 : a.host = b.host) : a = b := by cases a; cases b; simp_all

/-! Texts in order. -/
def ltB (a b : ByteArray) : Bool := Op.bytesLess a.toList b.toList
theorem ltB_iff (a b : ByteArray) : ltB a b = true ↔ a.data.toList < b.data.toList := by
  unfold ltB
  rw [bytesLess_eq, Lib.toList_data, Lib.toList_data]; simp
theorem ltB_irrefl (a : ByteArray) : ltB a a = false := by
  rw [Bool.eq_false_iff, ne_eq, ltB_iff]; exact List.lt_irrefl _
theorem ltB_trans {a b c : ByteArray} (h1 : ltB a b = true) (h2 : ltB b c = true) : ltB a c = true := by
  rw [ltB_iff] at *; exact List.lt_trans h1 h2
theorem ba_ext {a b : ByteArray} (h : a.data.toList = b.data.toList) : a = b := by
  cases a; cases b
  simp only at h
  congr
  exact Array.toList_inj.1 h
theorem ltB_tri {a b : ByteArray} (h1 : ltB a b = false) (h2 : ltB b a = false) : a = b := by
  have h1' : ¬ a.data.toList < b.data.toList := fun h => by rw [(ltB_iff a b).2 h] at h1; cases h1
  have h2' : ¬ b.data.toList < a.data.toList := fun h => by rw [(ltB_iff b a).2 h] at h2; cases h2
  exact ba_ext (List.le_antisymm (List.not_lt.1 h2') (List.not_lt.1 h1'))
theorem ltB_ntrans {a b c : ByteArray} (h1 : ltB a b = false) (h2 : ltB b c = false) : ltB a c = false := by
  rw [Bool.eq_false_iff] at *
  intro h
  cases hba : ltB b a with
  | true => exact h2 (ltB_trans hba h)
  | false =>
    have : a = b := ltB_tri (by simpa using h1) hba
    subst this
    exact h2 h
theorem ltB_asymm {a b : ByteArray} (h : ltB a b = true) : ltB b a = false := by
  rw [Bool.eq_false_iff]; intro h'
  have := ltB_trans h h'
  rw [ltB_irrefl] at this; cases this

/-! Points in order. -/
def ltP (x y : Pt) : Bool := decide (x.at_ < y.at_) || (decide (x.at_ = y.at_) && ltB x.host y.host)
theorem ltP_tri {x y : Pt} (h1 : ltP x y = false) (h2 : ltP y x = false) : x = y := by
  simp only [ltP, Bool.or_eq_false_iff, Bool.and_eq_false_iff, decide_eq_false_iff_not] at h1 h2
  have e : x.at_ = y.at_ := by omega
  rcases h1.2 with h | h
  · exact absurd e h
  · rcases h2.2 with h' | h'
    · exact absurd e.symm h'
    · exact Pt.eq e (ltB_tri h h')
theorem ltP_irrefl (x : Pt) : ltP x x = false := by simp [ltP, ltB_irrefl]
theorem ltP_trans {x y z : Pt} (h1 : ltP x y = true) (h2 : ltP y z = true) : ltP x z = true := by
  simp only [ltP, Bool.or_eq_true, Bool.and_eq_true, decide_eq_true_eq] at *
  rcases h1 with h1 | ⟨h1, g1⟩ <;> rcases h2 with h2 | ⟨h2, g2⟩
  · exact .inl (by omega)
  · exact .inl (by omega)
  · exact .inl (by omega)
  · exact .inr ⟨by omega, ltB_trans g1 g2⟩
theorem ltP_ntrans {x y z : Pt} (h1 : ltP x y = false) (h2 : ltP y z = false) : ltP x z = false := by
  cases hyx : ltP y x with
  | false => rw [ltP_tri h1 hyx]; exact h2
  | true =>
    rw [Bool.eq_false_iff] at *
    intro h
    exact h2 (ltP_trans hyx h)
theorem ltP_at {x y : Pt} (h : ltP y x = false) : x.at_ ≤ y.at_ := by
  simp only [ltP, Bool.or_eq_false_iff, decide_eq_false_iff_not] at h; omega

/-- s is l in order. -/
def IsSort (l s : List Pt) : Prop := s.Perm l ∧ s.Pairwise fun a b => ltP b a = false
theorem IsSort.unique {l s s' : List Pt} (h : IsSort l s) (h' : IsSort l s') : s = s' :=
  List.Perm.eq_of_pairwise (le := fun a b => ltP b a = false) (fun _ _ _ _ h1 h2 => ltP_tri h2 h1) h.2 h'.2 (h.1.trans h'.1.symm)
theorem IsSort.filter {l s : List Pt} (h : IsSort l s) (p : Pt → Bool) : IsSort (l.filter p) (s.filter p) := ⟨h.1.filter p, h.2.filter p⟩
theorem IsSort.perm {l l' s : List Pt} (h : IsSort l s) (hp : l.Perm l') : IsSort l' s := ⟨h.1.trans hp, h.2⟩

/-- The points of hosts. -/
def pointsOf (l : List ByteArray) (copies : Nat) : List Pt := l.flatMap fun h => (List.range copies).map fun c => ⟨ofN h (1000 + c), h⟩
theorem pointsOf_filter (l : List ByteArray) (copies : Nat) (q : ByteArray → Bool) : (pointsOf l copies).filter (fun p => q p.host) = pointsOf (l.filter q) copies := by
  unfold pointsOf
  induction l with
  | nil => rfl
  | cons h l ih =>
    rw [List.flatMap_cons, List.filter_append, ih, List.filter_cons]
    cases hq : q h with
    | true =>
      simp only [if_true, List.flatMap_cons]
      congr 1
      rw [List.filter_eq_self]
      intro p hp
      obtain ⟨c, _, rfl⟩ := List.mem_map.1 hp
      exact hq
    | false =>
      have : ((List.range copies).map fun c => (⟨ofN h (1000 + c), h⟩ : Pt)).filter (fun p => q p.host) = [] := by
        rw [List.filter_eq_nil_iff]
        intro p hp
        obtain ⟨c, _, rfl⟩ := List.mem_map.1 hp
        simp [hq]
      rw [this]; simp
theorem pointsOf_length (l : List ByteArray) (copies : Nat) : (pointsOf l copies).length = l.length * copies := by
  unfold pointsOf
  induction l with
  | nil => simp
  | cons h l ih => rw [List.flatMap_cons, List.length_append, ih]; simp [Nat.add_mul, Nat.add_comm]
theorem mem_pointsOf {l : List ByteArray} {copies : Nat} {p : Pt} (h : p ∈ pointsOf l copies) : p.host ∈ l := by
  unfold pointsOf at h
  obtain ⟨x, hx, hp⟩ := List.mem_flatMap.1 h
  obtain ⟨c, _, rfl⟩ := List.mem_map.1 hp
  exact hx
theorem pointsOf_mem {l : List ByteArray} {copies : Nat} {x : ByteArray} (hx : x ∈ l) (hc : 1 ≤ copies) : ∃ p ∈ pointsOf l copies, p.host = x := by
  refine ⟨⟨ofN x (1000 + 0), x⟩, ?_, rfl⟩
  unfold pointsOf
  exact List.mem_flatMap.2 ⟨x, hx, List.mem_map.2 ⟨0, List.mem_range.2 (by omega), rfl⟩⟩

/-! From a place on. -/
/-- The hosts from number t on, around. -/
def around (t : Nat) (s : List Pt) : List ByteArray := (s.filter (fun p => decide (t ≤ p.at_)) ++ s.filter (fun p => decide (p.at_ < t))).map (·.host)
theorem around_filter (t : Nat) (s : List Pt) (q : ByteArray → Bool) : around t (s.filter fun p => q p.host) = (around t s).filter q := by
  unfold around
  rw [List.filter_filter, List.filter_filter, List.map_append, List.map_append, List.filter_append]
  have e : ∀ (f : Pt → Bool), ((s.filter fun p => f p && q p.host).map (·.host)) = ((s.filter f).map (·.host)).filter q := by
    intro f
    rw [List.filter_map]
    congr 1
    rw [List.filter_filter]
    congr 1
    funext p
    simp [Bool.and_comm]
  rw [e, e]
/-- k is the first place of number t. -/
def FirstAt (t : Nat) (s : List Pt) (k : Nat) : Prop := k ≤ s.length ∧ (∀ (j : Nat) (p : Pt), j < k → s[j]? = some p → p.at_ < t) ∧ ∀ (j : Nat) (p : Pt), k ≤ j → s[j]? = some p → t ≤ p.at_
theorem filter_split {t : Nat} {s : List Pt} {k : Nat} (h : FirstAt t s k) : s.filter (fun p => decide (t ≤ p.at_)) = s.drop k ∧ s.filter (fun p => decide (p.at_ < t)) = s.take k := by
  have hd : ∀ p ∈ s.drop k, t ≤ p.at_ := fun p hp => by
    obtain ⟨j, hj, rfl⟩ := List.mem_iff_getElem.1 hp
    have := h.2.2 (k + j) ((s.drop k)[j]) (by omega) (by rw [← List.getElem?_drop]; exact List.getElem?_eq_getElem hj)
    exact this
  have ht : ∀ p ∈ s.take k, p.at_ < t := fun p hp => by
    obtain ⟨j, hj, rfl⟩ := List.mem_iff_getElem.1 hp
    rw [List.length_take] at hj
    exact h.2.1 j _ (by omega) (by rw [List.getElem_take]; exact List.getElem?_eq_getElem (by omega))
  have e := List.take_append_drop k s
  constructor
  · conv => lhs; rw [← e]
    rw [List.filter_append, List.filter_eq_nil_iff.2 (fun p hp => by have := ht p hp; simp; omega), List.nil_append, List.filter_eq_self.2 (fun p hp => by simpa using hd p hp)]
  · conv => lhs; rw [← e]
    rw [List.filter_append, List.filter_eq_self.2 (fun p hp => by simpa using ht p hp), List.filter_eq_nil_iff.2 (fun p hp => by have := hd p hp; simp; omega), List.append_nil]
theorem around_at {t : Nat} {s : List Pt} {k : Nat} (h : FirstAt t s k) {i : Nat} (hi : i < s.length) : (around t s)[i]? = some (s[(k % s.length + i) % s.length]'(Nat.mod_lt _ (by omega))).host := by
  obtain ⟨h1, h2⟩ := filter_split h
  unfold around
  rw [h1, h2, List.getElem?_map]
  have hk := h.1
  suffices hh : (s.drop k ++ s.take k)[i]? = some (s[(k % s.length + i) % s.length]'(Nat.mod_lt _ (by omega))) by rw [hh]; rfl
  rcases Nat.lt_or_ge k s.length with hlt | hge
  · rw [Nat.mod_eq_of_lt hlt]
    by_cases hik : i < s.length - k
    · rw [List.getElem?_append_left (by rw [List.length_drop]; exact hik), List.getElem?_drop]
      rw [List.getElem?_eq_getElem (by omega)]
      congr 2
      exact (Nat.mod_eq_of_lt (by omega)).symm
    · rw [List.getElem?_append_right (by rw [List.length_drop]; omega), List.length_drop, List.getElem?_take_of_lt (by omega)]
      rw [List.getElem?_eq_getElem (by omega)]
      congr 2
      rw [Nat.mod_eq_sub_mod (by omega), Nat.mod_eq_of_lt (by omega)]
      omega
  · have e : k = s.length := by omega
    subst e
    rw [Nat.mod_self, Nat.zero_add]
    rw [List.drop_length, List.nil_append, List.take_length, List.getElem?_eq_getElem hi]
    congr 2
    exact (Nat.mod_eq_of_lt hi).symm
theorem around_length (t : Nat) (s : List Pt) : (around t s).length = s.length := by
  unfold around
  rw [List.length_map, List.length_append]
  induction s with
  | nil => rfl
  | cons p s ih =>
    rw [List.filter_cons, List.filter_cons, List.length_cons]
    by_cases h : t ≤ p.at_
    · have h' : ¬ p.at_ < t := by omega
      simp [h, h'] at ih ⊢; omega
    · have h' : p.at_ < t := by omega
      simp [h, h'] at ih ⊢; omega
theorem mem_around {t : Nat} {s : List Pt} {x : ByteArray} : x ∈ around t s ↔ ∃ p ∈ s, p.host = x := by
  unfold around
  simp only [List.mem_map, List.mem_append, List.mem_filter, decide_eq_true_eq]
  constructor
  · rintro ⟨p, h | h, hx⟩ <;> exact ⟨p, h.1, hx⟩
  · rintro ⟨p, hp, hx⟩
    rcases Nat.lt_or_ge p.at_ t with h | h
    · exact ⟨p, .inr ⟨hp, h⟩, hx⟩
    · exact ⟨p, .inl ⟨hp, h⟩, hx⟩

/-- Different ones in order, so many. -/
def nextGo (many : Int) : List ByteArray → List ByteArray → List ByteArray
  | out, [] => out
  | out, x :: r => if many ≤ out.length then out else if has out x = true then nextGo many out r else nextGo many (out ++ [x]) r
theorem nextGo_stop {many : Int} {out : List ByteArray} (h : many ≤ out.length) : ∀ r : List ByteArray, nextGo many out r = out
  | [] => rfl
  | x :: r => by rw [nextGo, if_pos h]
theorem nextGo_skip {many : Int} {out r : List ByteArray} {x : ByteArray} (h : ¬ many ≤ out.length) (hx : has out x = true) : nextGo many out (x :: r) = nextGo many out r := by rw [nextGo, if_neg h, if_pos hx]
theorem nextGo_more {many : Int} {out r : List ByteArray} {x : ByteArray} (h : ¬ many ≤ out.length) (hx : has out x = false) : nextGo many out (x :: r) = nextGo many (out ++ [x]) r := by
  rw [nextGo, if_neg h, if_neg (by rw [hx]; decide)]
end Go.Proofs.YtnmkdmehljkedaaGreatDoor
