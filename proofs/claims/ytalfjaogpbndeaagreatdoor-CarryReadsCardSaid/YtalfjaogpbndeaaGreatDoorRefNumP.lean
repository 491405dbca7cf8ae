/-
  The reference's numbers and keys, in plain words.
-/
import Derived.Test.YtalfjaogpbndeaaGreatDoorCarLaws
import Derived.Test.YtalfjaogpbndeaaGreatDoorRefDigits
namespace Go.Proofs.YtalfjaogpbndeaaGreatDoor

/-- A digit. -/
def IsD (c : UInt8) : Prop := 48 ≤ c.toNat ∧ c.toNat ≤ 57
/-- The value of digits. -/
def dv (l : List UInt8) : Nat := l.foldl (fun a c => 10 * a + (c.toNat - 48)) 0
theorem dv_snoc (l : List UInt8) (c : UInt8) : dv (l ++ [c]) = 10 * dv l + (c.toNat - 48) := by simp [dv, List.foldl_append]
theorem dd_aux : ∀ (n : Nat) (l : List UInt8), l.length = n + 1 → (∀ c ∈ l, IsD c) → (l.headD 0 ≠ 48 ∨ n = 0) → Lib.decDigits (dv l) = l ∧ (l.headD 0 ≠ 48 → 1 ≤ dv l)
  | 0, l, hl, hd, _ => by
    match l, hl with
    | [c], _ =>
      have hc := hd c List.mem_cons_self
      have h1 : c.toNat - 48 < 10 := by have := hc.2; omega
      have e : dv [c] = c.toNat - 48 := by simp [dv]
      rw [e, Lib.decDigits_one h1]
      refine ⟨?_, fun h => ?_⟩
      · rw [show 48 + (c.toNat - 48) = c.toNat by have := hc.1; omega, UInt8.ofNat_toNat]
      · have : c.toNat ≠ 48 := fun e => h (UInt8.toNat_inj.1 e)
        have := hc.1
        omega
  | n + 1, l, hl, hd, h0 => by
    rcases List.eq_nil_or_concat l with rfl | ⟨l', c, rfl⟩
    · simp at hl
    · rw [List.concat_eq_append] at hl hd h0 ⊢
      have hl' : l'.length = n + 1 := by simpa using hl
      have hh : (l' ++ [c]).headD 0 = l'.headD 0 := by
        cases l' with
        | nil => simp at hl'
        | cons a t => rfl
      rw [hh] at h0 ⊢
      have h48 : l'.headD 0 ≠ 48 := h0.resolve_right (by omega)
      obtain ⟨h1, h2⟩ := dd_aux n l' hl' (fun x hx => hd x (List.mem_append_left _ hx)) (.inl h48)
      have h3 := h2 h48
      have hc := hd c (List.mem_append_right _ List.mem_cons_self)
      have hc2 := hc.2
      have hc1 := hc.1
      rw [dv_snoc]
      refine ⟨?_, fun _ => by omega⟩
      rw [Lib.decDigits, dif_neg (by omega), show (10 * dv l' + (c.toNat - 48)) / 10 = dv l' by omega, h1, show (10 * dv l' + (c.toNat - 48)) % 10 = c.toNat - 48 by omega, show 48 + (c.toNat - 48) = c.toNat by omega, UInt8.ofNat_toNat]
theorem dv_lt : ∀ (n : Nat) (l : List UInt8), l.length = n → (∀ c ∈ l, IsD c) → dv l < 10 ^ n
  | 0, l, hl, _ => by
    have := List.length_eq_zero_iff.1 hl
    subst this
    decide
  | n + 1, l, hl, hd => by
    rcases List.eq_nil_or_concat l with rfl | ⟨l', c, rfl⟩
    · simp at hl
    · rw [List.concat_eq_append] at hl hd ⊢
      have h1 := dv_lt n l' (by simpa using hl) (fun x hx => hd x (List.mem_append_left _ hx))
      have hc := (hd c (List.mem_append_right _ List.mem_cons_self)).2
      rw [dv_snoc, Nat.pow_succ]
      omega
theorem num_yes {l : List UInt8} (h1 : 1 ≤ l.length) (h14 : l.length ≤ 14) (hd : ∀ c ∈ l, IsD c) (h0 : l.headD 0 ≠ 48 ∨ l.length = 1) : numOf l = some (dv l) := by
  have h := (dd_aux (l.length - 1) l (by omega) hd (h0.imp id (fun e => by omega))).1
  have hlt := dv_lt l.length l rfl hd
  have h2 : (10 : Nat) ^ l.length ≤ 10 ^ 14 := Nat.pow_le_pow_right (by decide) h14
  have := numOf_digits (dv l) (by omega) (by rw [h]; exact h14)
  rwa [h] at this
theorem dec_head0 : ∀ (n : Nat) (r : List UInt8), Lib.decDigits n = 48 :: r → n = 0
  | n, r, h => by
    by_cases hn : n < 10
    · rw [Lib.decDigits_one hn] at h
      have h1 := congrArg UInt8.toNat (List.cons.inj h).1
      rw [tenth n hn] at h1
      have e : (48 : UInt8).toNat = 48 := rfl
      omega
    · rw [Lib.decDigits, dif_neg hn] at h
      obtain ⟨c, t, hc, _⟩ := digits_head (n / 10)
      rw [hc] at h
      have h1 := (List.cons.inj h).1
      subst h1
      have := dec_head0 (n / 10) t hc
      omega
termination_by n => n
theorem num_no {l : List UInt8} (h : l.length < 1 ∨ 14 < l.length ∨ (1 < l.length ∧ l.headD 0 = 48) ∨ ∃ c ∈ l, ¬ IsD c) : numOf l = none := by
  cases hn : numOf l with
  | none => rfl
  | some n =>
    obtain ⟨h1, h2⟩ := numOf_some hn
    exfalso
    rcases h with h | h | ⟨h, h3⟩ | ⟨c, hc, h3⟩
    · obtain ⟨c, r, e, _⟩ := digits_head n
      rw [h1, e] at h
      simp at h
    · omega
    · cases hl : l with
      | nil => rw [hl] at h; simp at h
      | cons a t =>
        rw [hl] at h3
        have ha : a = 48 := h3
        subst ha
        have h0 := dec_head0 n t (h1.symm.trans hl)
        rw [h1, h0, Lib.decDigits_one (by decide)] at h
        simp at h
    · rw [h1] at hc
      exact h3 (dec_byte n c hc)
/-- A letter of sixteen. -/
def IsX (c : UInt8) : Prop := (48 ≤ c.toNat ∧ c.toNat ≤ 57) ∨ (97 ≤ c.toNat ∧ c.toNat ≤ 102)
def xd (c : UInt8) : Nat := if c.toNat ≤ 57 then c.toNat - 48 else c.toNat - 87
def xv (l : List UInt8) : Nat := l.foldl (fun a c => 16 * a + xd c) 0
theorem xv_snoc (l : List UInt8) (c : UInt8) : xv (l ++ [c]) = 16 * xv l + xd c := by simp [xv, List.foldl_append]
theorem xd_lt {c : UInt8} (h : IsX c) : xd c < 16 := by
  unfold xd
  rcases h with ⟨h1, h2⟩ | ⟨h1, h2⟩
  · rw [if_pos h2]; omega
  · rw [if_neg (by omega)]; omega
theorem hd_xd {c : UInt8} (h : IsX c) : Hex.hd (xd c) = c := by
  unfold xd Hex.hd
  rcases h with ⟨h1, h2⟩ | ⟨h1, h2⟩
  · rw [if_pos h2, if_pos (by omega), show 48 + (c.toNat - 48) = c.toNat by omega, UInt8.ofNat_toNat]
  · have e : (if c.toNat ≤ 57 then c.toNat - 48 else c.toNat - 87) = c.toNat - 87 := if_neg (by omega)
    rw [e, if_neg (by omega), show 87 + (c.toNat - 87) = c.toNat by omega, UInt8.ofNat_toNat]
theorem low_hi : ∀ i : Fin 6, Hex.low (UInt8.ofNat (97 + i.val)) = 97 + i.val := by decide
theorem dig_xd {c : UInt8} (h : IsX c) : Hex.dig c = some (xd c) := by
  unfold xd Hex.dig
  rcases h with ⟨h1, h2⟩ | ⟨h1, h2⟩
  · rw [if_pos ⟨h1, h2⟩, if_pos h2]
  · rw [if_neg (by omega), if_neg (by omega : ¬ c.toNat ≤ 57)]
    have hl := low_hi ⟨c.toNat - 97, by omega⟩
    simp only [show 97 + (c.toNat - 97) = c.toNat by omega, UInt8.ofNat_toNat] at hl
    rw [hl, if_pos (by omega)]
theorem xv_all : ∀ (n : Nat) (l : List UInt8), l.length = n → (∀ c ∈ l, IsX c) → xv l < 16 ^ n ∧ lowd (xv l) n = l ∧ (n ≤ 16 → Hex.rd 0 l = .ok (xv l))
  | 0, l, hl, _ => by
    have := List.length_eq_zero_iff.1 hl
    subst this
    exact ⟨by decide, rfl, fun _ => rfl⟩
  | n + 1, l, hl, hd => by
    rcases List.eq_nil_or_concat l with rfl | ⟨l', c, rfl⟩
    · simp at hl
    · rw [List.concat_eq_append] at hl hd ⊢
      obtain ⟨h1, h2, h3⟩ := xv_all n l' (by simpa using hl) (fun x hx => hd x (List.mem_append_left _ hx))
      have hc := hd c (List.mem_append_right _ List.mem_cons_self)
      have hx := xd_lt hc
      refine ⟨?_, ?_, fun hn => ?_⟩
      · rw [xv_snoc, Nat.pow_succ]; omega
      · rw [lowd_snoc, xv_snoc, show (16 * xv l' + xd c) / 16 = xv l' by omega, show (16 * xv l' + xd c) % 16 = xd c by omega, h2, hd_xd hc]
      · rw [Hex.rd_append _ _ 0 _ (h3 (by omega)), Hex.rd, dig_xd hc]
        simp only
        have h4 : (16 : Nat) ^ n ≤ 16 ^ 15 := Nat.pow_le_pow_right (by decide) (by omega)
        rw [if_neg (by omega), Hex.rd, xv_snoc]
        congr 1
        omega
theorem key_yes {l : List UInt8} {d : Nat} (h1 : 1 ≤ d) (h16 : d ≤ 16) (hl : l.length = d) (hx : ∀ c ∈ l, IsX c) : Hex.keyOf l d = some (xv l) := by
  obtain ⟨a1, a2, a3⟩ := xv_all d l hl hx
  obtain ⟨k, rfl⟩ : ∃ k, d = k + 1 := ⟨d - 1, by omega⟩
  have ht := lowd_text k (xv l) a1
  unfold Hex.keyOf Hex.read
  rw [if_neg (by rintro rfl; simp at hl), a3 h16]
  simp only
  rw [if_pos ⟨hl, by rw [← ht, a2]⟩]
theorem hd_isX : ∀ m : Fin 16, (48 ≤ (Hex.hd m.val).toNat ∧ (Hex.hd m.val).toNat ≤ 57) ∨ (97 ≤ (Hex.hd m.val).toNat ∧ (Hex.hd m.val).toNat ≤ 102) := by decide
theorem wr_isX : ∀ (n : Nat) (c : UInt8), c ∈ Hex.wr n → IsX c
  | n, c, h => by
    by_cases hn : n < 16
    · rw [Hex.wr_lo hn] at h
      have := List.mem_singleton.1 h
      subst this
      exact hd_isX ⟨n, hn⟩
    · rw [Hex.wr_hi hn, List.mem_append] at h
      rcases h with h | h
      · exact wr_isX (n / 16) c h
      · have := List.mem_singleton.1 h
        subst this
        exact hd_isX ⟨n % 16, by omega⟩
termination_by n => n
theorem key_no {l : List UInt8} {d : Nat} (h : l.length ≠ d ∨ ∃ c ∈ l, ¬ IsX c) : Hex.keyOf l d = none := by
  cases hk : Hex.keyOf l d with
  | none => rfl
  | some n =>
    obtain ⟨h1, h2⟩ := Hex.keyOf_some hk
    exfalso
    rcases h with h | ⟨c, hc, h3⟩
    · exact h h2
    · rw [h1, Hex.text, List.mem_append] at hc
      rcases hc with hc | hc
      · have := (List.mem_replicate.1 hc).2
        subst this
        exact h3 (.inl (by decide))
      · exact h3 (wr_isX n c hc)
end Go.Proofs.YtalfjaogpbndeaaGreatDoor
