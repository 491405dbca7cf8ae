/-
  The reference's health answers as the program's: the plain law.
-/
import Derived.Test.YtajdokogahlgaaaDoorHealthAll
namespace Go.Proofs.YtajdokogahlgaaaDoor

/-- The two states answer alike. -/
structure Mt (st : List St) (rs : List Rt) (n : Nat) : Prop where
  len : st.length = rs.length
  le : st.length ≤ 12
  at_ : ∀ (i : Nat) (s : St) (r : Rt), st[i]? = some s → rs[i]? = some r → s.host = r.host ∧ s.up = r.up ∧ s.looks = tr r.up r.looks ∧ r.looks.length ≤ n
section
variable {st : List St} {rs : List Rt} {n : Nat}
theorem Mt.hosts (h : Mt st rs n) : hosts st = rhosts rs := by
  unfold Go.Proofs.YtajdokogahlgaaaDoor.hosts rhosts
  apply List.ext_getElem (by simp [h.len])
  intro i h1 h2
  simp only [List.length_map] at h1 h2
  simp only [List.getElem_map]
  exact (h.at_ i st[i] rs[i] (List.getElem?_eq_getElem h1) (List.getElem?_eq_getElem h2)).1
theorem Mt.ups (h : Mt st rs n) : ups st = rups rs := by
  have : ∀ (a : List St) (b : List Rt), a.length = b.length → (∀ (i : Nat) (s : St) (r : Rt), a[i]? = some s → b[i]? = some r → s.host = r.host ∧ s.up = r.up) → Go.Proofs.YtajdokogahlgaaaDoor.ups a = rups b := by
    intro a
    induction a with
    | nil => intro b hl _; cases b with
      | nil => rfl
      | cons _ _ => cases hl
    | cons s a ih => intro b hl hat; cases b with
      | nil => cases hl
      | cons r b =>
        have h0 := hat 0 s r rfl rfl
        have := ih b (by simpa using hl) (fun i s' r' h1 h2 => hat (i + 1) s' r' h1 h2)
        unfold Go.Proofs.YtajdokogahlgaaaDoor.ups rups at this ⊢
        rw [List.filter_cons, List.filter_cons, h0.2]
        cases r.up
        · simpa using this
        · simp only [if_true, List.map_cons, h0.1, this]
  exact this st rs h.len fun i s r a b => ⟨(h.at_ i s r a b).1, (h.at_ i s r a b).2.1⟩
theorem Mt.upOf (h : Mt st rs n) (x : ByteArray) : upOf st x = rUp rs x := by
  unfold Go.Proofs.YtajdokogahlgaaaDoor.upOf rUp
  rw [h.hosts]
  generalize idx (rhosts rs) x = i
  cases i with
  | ofNat k =>
    dsimp only
    cases hs : st[k]? with
    | none =>
      have : rs[k]? = none := by rw [List.getElem?_eq_none_iff] at hs ⊢; rw [← h.len]; exact hs
      rw [this]
    | some s =>
      have hk : k < rs.length := by rw [← h.len]; exact (List.getElem?_eq_some_iff.1 hs).1
      rw [List.getElem?_eq_getElem hk]
      exact (h.at_ k s rs[k] hs (List.getElem?_eq_getElem hk)).2.1
  | negSucc k => rfl
theorem Mt.mono {m : Nat} (h : Mt st rs n) (hm : n ≤ m) : Mt st rs m := ⟨h.len, h.le, fun i s r a b => by obtain ⟨x, y, z, u⟩ := h.at_ i s r a b; exact ⟨x, y, z, by omega⟩⟩
theorem Mt.add (h : Mt st rs n) (x : ByteArray) : Mt (addSt st x) (addRt rs x) n := by
  unfold addSt addRt
  rw [h.hosts]
  by_cases hc : addCode (rhosts rs) x = 0
  · rw [if_pos hc, if_pos hc]
    have h12 : st.length < 12 := by
      unfold addCode at hc
      rw [rhosts_length, ← h.len] at hc
      rcases Nat.lt_or_ge st.length 12 with h1 | h1
      · exact h1
      · rw [if_pos h1] at hc; cases hc
    refine ⟨by simp [h.len], by simp; omega, fun i s r a b => ?_⟩
    by_cases hi : i < st.length
    · rw [List.getElem?_append_left hi] at a
      rw [List.getElem?_append_left (by rw [← h.len]; exact hi)] at b
      exact h.at_ i s r a b
    · have hi0 : i - st.length = 0 := by
        rcases Nat.eq_zero_or_pos (i - st.length) with h0 | h0
        · exact h0
        · rw [List.getElem?_append_right (by omega), List.getElem?_eq_none (by simp; omega)] at a; cases a
      rw [List.getElem?_append_right (by omega), hi0] at a
      rw [List.getElem?_append_right (by rw [← h.len]; omega), ← h.len, hi0] at b
      cases a; cases b
      exact ⟨rfl, rfl, rfl, Nat.zero_le _⟩
  · rw [if_neg hc, if_neg hc]; exact h
theorem Mt.rem (h : Mt st rs n) (i : Int) : Mt (remAt st i) (remAt rs i) n := by
  unfold remAt
  by_cases hi : i < 0
  · rw [if_pos hi, if_pos hi]; exact h
  · rw [if_neg hi, if_neg hi]
    refine ⟨by rw [List.length_eraseIdx, List.length_eraseIdx, h.len], Nat.le_trans (List.length_eraseIdx_le _ _) h.le, fun j s r a b => ?_⟩
    rw [List.getElem?_eraseIdx] at a b
    split at a
    · rw [if_pos ‹_›] at b; exact h.at_ j s r a b
    · rw [if_neg ‹_›] at b; exact h.at_ (j + 1) s r a b
theorem look_one_step {fall rise : Nat} {s : St} {r : Rt} (well : Bool) (h1 : 1 ≤ fall) (h2 : 1 ≤ rise) (hh : s.host = r.host) (hu : s.up = r.up) (hl : s.looks = tr r.up r.looks) :
    (lookSt fall rise s well).2 = (lookR fall rise r well).2 ∧ (lookSt fall rise s well).1.host = (lookR fall rise r well).1.host ∧ (lookSt fall rise s well).1.up = (lookR fall rise r well).1.up ∧
      (lookSt fall rise s well).1.looks = tr (lookR fall rise r well).1.up (lookR fall rise r well).1.looks ∧ (lookR fall rise r well).1.looks.length ≤ r.looks.length + 1 := by
  have ht := tr_snoc r.up well r.looks
  unfold lookSt lookR
  rw [hu]
  by_cases hw : r.up = well
  · have hw' : well = r.up := hw.symm
    rw [if_pos hw'] at ht
    have hne : ¬ (if r.up = true then fall else rise) ≤ tr r.up (r.looks ++ [well]) := by rw [ht]; split <;> omega
    rw [if_pos hw, if_neg hne]
    exact ⟨rfl, hh, rfl, ht.symm, by simp⟩
  · have hw' : ¬ well = r.up := fun e => hw e.symm
    rw [if_neg hw'] at ht
    rw [if_neg hw, ht, hl]
    by_cases he : tr r.up r.looks + 1 < (if r.up = true then fall else rise)
    · rw [if_pos he, if_neg (by omega)]
      exact ⟨rfl, hh, rfl, ht.symm, by simp⟩
    · rw [if_neg he, if_pos (by omega)]
      exact ⟨rfl, hh, rfl, rfl, Nat.zero_le _⟩
theorem Mt.look {fall rise : Nat} (h : Mt st rs n) (i : Int) (well : Bool) (h1 : 1 ≤ fall) (h2 : 1 ≤ rise) :
    (lookAll st i fun s => lookSt fall rise s well).2 = (lookAll rs i fun r => lookR fall rise r well).2 ∧ Mt (lookAll st i fun s => lookSt fall rise s well).1 (lookAll rs i fun r => lookR fall rise r well).1 (n + 1) := by
  unfold lookAll
  by_cases hi : i < 0
  · rw [if_pos hi, if_pos hi]; exact ⟨rfl, h.mono (by omega)⟩
  rw [if_neg hi, if_neg hi]
  cases hs : st[i.toNat]? with
  | none =>
    have : rs[i.toNat]? = none := by rw [List.getElem?_eq_none_iff] at hs ⊢; rw [← h.len]; exact hs
    rw [this]
    exact ⟨rfl, h.mono (by omega)⟩
  | some s =>
    have hk : i.toNat < rs.length := by rw [← h.len]; exact (List.getElem?_eq_some_iff.1 hs).1
    have hks := (List.getElem?_eq_some_iff.1 hs).1
    have hr := List.getElem?_eq_getElem hk
    rw [hr]
    obtain ⟨a, b, c, d⟩ := h.at_ _ s _ hs hr
    obtain ⟨e1, e2, e3, e4, e5⟩ := look_one_step (fall := fall) (rise := rise) well h1 h2 a b c
    refine ⟨e1, by simp [h.len], by simp; exact h.le, fun j s' r' x y => ?_⟩
    by_cases hj : i.toNat = j
    · subst hj
      rw [List.getElem?_set_self hks] at x
      rw [List.getElem?_set_self hk] at y
      cases x; cases y
      exact ⟨e2, e3, e4, Nat.le_trans e5 (Nat.add_le_add_right d 1)⟩
    · rw [List.getElem?_set_ne hj] at x y
      obtain ⟨x1, x2, x3, x4⟩ := h.at_ j s' r' x y
      exact ⟨x1, x2, x3, by omega⟩
theorem Mt.looks (h : Mt st rs n) (hn : n < 100) : ∀ s ∈ st, s.looks < 100 := by
  intro s hs
  obtain ⟨i, hi, rfl⟩ := List.mem_iff_getElem.1 hs
  have hr : i < rs.length := by rw [← h.len]; exact hi
  obtain ⟨_, _, c, d⟩ := h.at_ i st[i] rs[i] (List.getElem?_eq_getElem hi) (List.getElem?_eq_getElem hr)
  have := tr_le rs[i].up rs[i].looks
  omega
theorem Mt.rlooks (h : Mt st rs n) (hn : n ≤ 1000) : ∀ r ∈ rs, r.looks.length ≤ 1000 := by
  intro r hr
  obtain ⟨i, hi, rfl⟩ := List.mem_iff_getElem.1 hr
  have hs : i < st.length := by rw [h.len]; exact hi
  have := (h.at_ i st[i] rs[i] (List.getElem?_eq_getElem hs) (List.getElem?_eq_getElem hi)).2.2.2
  omega
theorem Mt.fresh (l : List ByteArray) (hl : l.length ≤ 12) : Mt (fresh l) (rfresh l) 0 := by
  refine ⟨by simp [Go.Proofs.YtajdokogahlgaaaDoor.fresh, rfresh], by simpa [Go.Proofs.YtajdokogahlgaaaDoor.fresh] using hl, fun i s r a b => ?_⟩
  unfold Go.Proofs.YtajdokogahlgaaaDoor.fresh at a
  unfold rfresh at b
  rw [List.getElem?_map] at a b
  cases hx : l[i]? with
  | none => rw [hx] at a; cases a
  | some x => rw [hx] at a b; cases a; cases b; exact ⟨rfl, rfl, rfl, Nat.le_refl _⟩
end
end Go.Proofs.YtajdokogahlgaaaDoor
