/-
  What carry writes and reads, in plain words.
  The laws of what carry writes and reads: what is written is read; what is read is so written.
-/
import Derived.Test.YtalfjaogpbndeaaGreatDoorCarHeads
import Derived.Test.YtalfjaogpbndeaaGreatDoorHexLaws
import Derived.Test.YtalfjaogpbndeaaGreatDoorNumLaws
import Derived.Test.YtalfjaogpbndeaaGreatDoorCutting
import Derived.Test.YtalfjaogpbndeaaGreatDoorCrcAll
import Derived.Test.YtalfjaogpbndeaaGreatDoorFlowPlain
import Derived.Test.YtalfjaogpbndeaaGreatDoorErrs
import Derived.Test.YtalfjaogpbndeaaGreatDoorName
namespace Go.Proofs.YtalfjaogpbndeaaGreatDoor

/-- The first line. -/
def headLine (e : Int) (m : Nat) : List UInt8 := wFlows ++ 32 :: (Lib.itoa e ++ 32 :: Lib.itoa (m : Int))
/-- A flow's line. -/
def flowLine (x : Fl) : List UInt8 := Hex.text x.key 16 ++ 32 :: (x.host.data.toList ++ 32 :: Lib.itoa x.til)
def wSum : List UInt8 := [115, 117, 109, 32]
/-- The last line, for a number. -/
def sumLine (n : Nat) : List UInt8 := wSum ++ Hex.text n 8
def bodyOf (e : Int) (L : List Fl) : List UInt8 := (headLine e L.length :: L.map flowLine).flatMap fun l => l ++ [10]
/-- The text of flows. -/
def textOf (e : Int) (L : List Fl) : List UInt8 := bodyOf e L ++ (sumLine (Crc.sum (bodyOf e L)) ++ [10])
/-- What is wrong with a flow behind others. -/
def ckOne (seen : List Nat) (x : Fl) : Nat := if isName x.host = false then 4 else if x.til < 0 ∨ 1099511628776 < x.til then 2 else if x.key ∈ seen then 6 else 0
def ckGo (seen : List Nat) (i : Nat) : List Fl → Option Flt
  | [] => none
  | x :: r => if ckOne seen x = 0 then ckGo (x.key :: seen) (i + 1) r else some ⟨ckOne seen x, some i⟩
/-- What is wrong with what is to be carried. -/
def checkOf (e : Int) (L : List Fl) : Option Flt := if e < 0 ∨ 1099511627776 < e ∨ 200 < L.length then some ⟨2, none⟩ else ckGo [] 0 L
def flowsOf : List (List UInt8) → Option (List Fl)
  | [] => some []
  | t :: r => match flowOf t with
    | none => none
    | some p => match flowsOf r with
      | none => none
      | some L => some (⟨p.1, ⟨p.2.1.toArray⟩, (p.2.2 : Int)⟩ :: L)
/-- What a last line tells. -/
def sumOf (l : List UInt8) : Option Nat := if l.take 4 = wSum then Hex.keyOf (l.drop 4) 8 else none
inductive Rd where
  | bad (f : Flt)
  | good (e : Nat) (L : List Fl)
/-- What a text says. -/
def readOf (s : List UInt8) : Rd :=
  if 20000 < s.length then .bad ⟨2, none⟩ else
  match headOf ((cuts 10 s).headD []) with
  | none => .bad ⟨1, none⟩
  | some (e, m) =>
    if (cuts 10 s).length = m + 3 ∧ (cuts 10 s).getLastD [] = [] then
      match flowsOf (((cuts 10 s).drop 1).take m) with
      | none => .bad ⟨1, none⟩
      | some L => match sumOf ((cuts 10 s).getD (m + 1) []) with
        | none => .bad ⟨1, none⟩
        | some n => if n = Crc.sum (s.take (s.length - ((cuts 10 s).getD (m + 1) []).length - 1)) then
            (match checkOf e L with
            | some f => .bad f
            | none => .good e L) else .bad ⟨9, none⟩
    else .bad ⟨1, none⟩

theorem glue_ends (c : UInt8) : ∀ (ls : List (List UInt8)) (l : List UInt8), cuts c l = ls ++ [[]] → l = ls.flatMap fun x => x ++ [c]
  | [], [], _ => rfl
  | [], x :: r, h => by
    unfold cuts at h
    split at h
    · have := cuts_ne c r
      cases hc : cuts c r with
      | nil => exact absurd hc this
      | cons a t => rw [hc] at h; simp at h
    · simp at h
  | a :: ls, [], h => by
    have := congrArg List.length h
    simp [cuts] at this
  | a :: ls, x :: r, h => by
    unfold cuts at h
    split at h
    · rename_i hx
      subst hx
      simp only [List.cons_append, List.cons.injEq] at h
      obtain ⟨rfl, h2⟩ := h
      rw [glue_ends x ls r h2]
      simp
    · rename_i hx
      simp only [List.cons_append, List.cons.injEq] at h
      obtain ⟨rfl, h2⟩ := h
      have hne := cuts_ne c r
      cases hc : cuts c r with
      | nil => exact absurd hc hne
      | cons b t =>
        rw [hc] at h2
        simp only [List.tail_cons] at h2
        rw [h2] at hc
        rw [glue_ends c (b :: ls) r (by rw [hc]; rfl)]
        simp
theorem glue3 {c : UInt8} : ∀ {l a b d : List UInt8}, cuts c l = [a, b, d] → l = a ++ c :: (b ++ c :: d) := by
  have g1 : ∀ (l d : List UInt8), cuts c l = [d] → l = d := by
    intro l
    induction l with
    | nil => intro d h; simpa [cuts] using h
    | cons x r ih =>
      intro d h
      unfold cuts at h
      split at h
      · have := cuts_ne c r
        simp only [List.cons.injEq] at h
        exact absurd h.2 this
      · have hne := cuts_ne c r
        cases hc : cuts c r with
        | nil => exact absurd hc hne
        | cons a t =>
          rw [hc] at h
          simp only [List.headD_cons, List.tail_cons, List.cons.injEq] at h
          obtain ⟨rfl, rfl⟩ := h
          rw [ih a hc]
  have gc : ∀ (l a : List UInt8) (t : List (List UInt8)), t ≠ [] → cuts c l = a :: t → ∃ r, l = a ++ c :: r ∧ cuts c r = t := by
    intro l
    induction l with
    | nil => intro a t ht h; simp [cuts] at h; exact absurd h.2.symm (fun e => ht e.symm)
    | cons x r ih =>
      intro a t ht h
      unfold cuts at h
      split at h
      · rename_i hx
        simp only [List.cons.injEq] at h
        obtain ⟨rfl, h2⟩ := h
        exact ⟨r, by rw [hx]; rfl, h2⟩
      · have hne := cuts_ne c r
        cases hc : cuts c r with
        | nil => exact absurd hc hne
        | cons b t2 =>
          rw [hc] at h
          simp only [List.headD_cons, List.tail_cons, List.cons.injEq] at h
          obtain ⟨rfl, rfl⟩ := h
          obtain ⟨r2, h1, h2⟩ := ih b t2 ht hc
          exact ⟨r2, by rw [h1]; rfl, h2⟩
  intro l a b d h
  obtain ⟨r, rfl, h1⟩ := gc l a [b, d] (by simp) h
  obtain ⟨r2, rfl, h2⟩ := gc r b [d] (by simp) h1
  rw [g1 r2 d h2]
/-- A text's digits are neither a space nor an end of a line. -/
theorem dec_byte : ∀ (n : Nat) (c : UInt8), c ∈ Lib.decDigits n → 48 ≤ c.toNat ∧ c.toNat ≤ 57
  | n, c, h => by
    by_cases hn : n < 10
    · rw [Lib.decDigits, dif_pos hn] at h
      have := List.mem_singleton.1 h
      subst this
      rw [tenth n hn]; omega
    · rw [Lib.decDigits, dif_neg hn, List.mem_append] at h
      rcases h with h | h
      · exact dec_byte (n / 10) c h
      · have := List.mem_singleton.1 h
        subst this
        rw [tenth _ (by omega)]; omega
termination_by n => n
theorem itoa_byte {n : Int} (h0 : 0 ≤ n) {c : UInt8} (h : c ∈ Lib.itoa n) : 48 ≤ c.toNat ∧ c.toNat ≤ 57 := by
  rw [show n = ((n.toNat : Nat) : Int) by omega, Lib.itoa_nonneg] at h
  exact dec_byte _ c h
theorem hd_byte : ∀ m : Fin 16, 48 ≤ (Hex.hd m.val).toNat := by decide
theorem wr_byte : ∀ (n : Nat) (c : UInt8), c ∈ Hex.wr n → 48 ≤ c.toNat
  | n, c, h => by
    by_cases hn : n < 16
    · rw [Hex.wr_lo hn] at h
      have := List.mem_singleton.1 h
      subst this
      exact hd_byte ⟨n, hn⟩
    · rw [Hex.wr_hi hn, List.mem_append] at h
      rcases h with h | h
      · exact wr_byte (n / 16) c h
      · have := List.mem_singleton.1 h
        subst this
        exact hd_byte ⟨n % 16, by omega⟩
termination_by n => n
theorem hex_byte {n d : Nat} {c : UInt8} (h : c ∈ Hex.text n d) : 48 ≤ c.toNat := by
  unfold Hex.text at h
  rw [List.mem_append] at h
  rcases h with h | h
  · have := (List.mem_replicate.1 h).2
    subst this
    decide
  · exact wr_byte n c h
theorem name_byte {s : ByteArray} (h : isName s = true) {c : UInt8} (hc : c ∈ s.data.toList) : 45 ≤ c.toNat := by
  unfold isName at h
  simp only [Bool.and_eq_true] at h
  have h2 := h.2
  rw [Bool.not_eq_true', List.any_eq_false] at h2
  have h3 := h2 c.toNat (by unfold nums; exact List.mem_map_of_mem hc)
  simp [nb] at h3
  omega
theorem dec_len : ∀ (d n : Nat), n < 10 ^ (d + 1) → (Lib.decDigits n).length ≤ d + 1
  | 0, n, h => by rw [Lib.decDigits, dif_pos (by omega)]; simp
  | d + 1, n, h => by
    by_cases hn : n < 10
    · rw [Lib.decDigits, dif_pos hn]; simp
    · rw [Lib.decDigits, dif_neg hn, List.length_append, List.length_singleton]
      have := dec_len d (n / 10) (by rw [Nat.pow_succ] at h; omega)
      omega
theorem numOf_itoa {n : Int} (h0 : 0 ≤ n) (h1 : n < 10000000000000) : numOf (Lib.itoa n) = some n.toNat := by
  rw [show n = ((n.toNat : Nat) : Int) by omega, Lib.itoa_nonneg]
  have := dec_len 12 n.toNat (by omega)
  rw [numOf_digits _ (by omega) (by omega)]
  simp only [Int.toNat_natCast]
end Go.Proofs.YtalfjaogpbndeaaGreatDoor

namespace Go.Proofs.YtalfjaogpbndeaaGreatDoor

/-- A right flow. -/
def FlOk (x : Fl) : Prop := isName x.host = true ∧ 0 ≤ x.til ∧ x.til ≤ 1099511628776
theorem ckOne_zero {seen : List Nat} {x : Fl} (h : ckOne seen x = 0) : FlOk x ∧ x.key ∉ seen := by
  unfold ckOne at h
  split at h
  · cases h
  · split at h
    · cases h
    · split at h
      · cases h
      · rename_i h1 h2 h3
        exact ⟨⟨by simpa using h1, by omega, by omega⟩, h3⟩
theorem ckGo_none : ∀ {L : List Fl} {seen : List Nat} {i : Nat}, ckGo seen i L = none → ∀ x ∈ L, FlOk x
  | [], _, _, _, x, hx => by cases hx
  | y :: r, seen, i, h, x, hx => by
    unfold ckGo at h
    split at h
    · rename_i h0
      rcases List.mem_cons.1 hx with rfl | hx
      · exact (ckOne_zero h0).1
      · exact ckGo_none h x hx
    · cases h
structure COk (e : Int) (L : List Fl) : Prop where
  e0 : 0 ≤ e
  e1 : e ≤ 1099511627776
  n : L.length ≤ 200
  l : ∀ x ∈ L, FlOk x
theorem checkOf_none {e : Int} {L : List Fl} (h : checkOf e L = none) : COk e L := by
  unfold checkOf at h
  split at h
  · cases h
  · exact ⟨by omega, by omega, by omega, ckGo_none h⟩
theorem n10 {l : List UInt8} {c : UInt8} {k : Nat} (h : ∀ b ∈ l, k ≤ b.toNat) (hc : c.toNat < k) : c ∉ l := fun m => by have := h c m; omega
theorem headLine_10 {e : Int} {m : Nat} (h0 : 0 ≤ e) : (10 : UInt8) ∉ headLine e m := by
  unfold headLine
  rw [List.mem_append, List.mem_cons, List.mem_append, List.mem_cons]
  rintro (h | h | h | h | h)
  · revert h; decide
  · revert h; decide
  · have := itoa_byte h0 h; revert this; decide
  · revert h; decide
  · have := itoa_byte (by omega) h; revert this; decide
theorem flowLine_10 {x : Fl} (hx : FlOk x) : (10 : UInt8) ∉ flowLine x := by
  unfold flowLine
  rw [List.mem_append, List.mem_cons, List.mem_append, List.mem_cons]
  rintro (h | h | h | h | h)
  · have := hex_byte h; revert this; decide
  · revert h; decide
  · have := name_byte hx.1 h; revert this; decide
  · revert h; decide
  · have := itoa_byte hx.2.1 h; revert this; decide
theorem sumLine_10 {n : Nat} : (10 : UInt8) ∉ sumLine n := by
  unfold sumLine
  rw [List.mem_append]
  rintro (h | h)
  · revert h; decide
  · have := hex_byte h; revert this; decide
theorem not32 {l : List UInt8} {k : Nat} (h : ∀ b ∈ l, k ≤ b.toNat) (hk : 32 < k) : (32 : UInt8) ∉ l := fun m => by
  have := h 32 m
  have e : (32 : UInt8).toNat = 32 := by decide
  omega
theorem headOf_line {e : Int} {m : Nat} (h0 : 0 ≤ e) (h1 : e ≤ 1099511627776) (hm : m ≤ 1000) : headOf (headLine e m) = some (e.toNat, m) := by
  have c1 : cuts 32 (headLine e m) = [wFlows, Lib.itoa e, Lib.itoa (m : Int)] := by
    unfold headLine
    rw [cuts_cons 32 _ _ (by decide), cuts_cons 32 _ _ (not32 (fun b hb => (itoa_byte h0 hb).1) (by omega)), cuts_none 32 _ (not32 (fun b hb => (itoa_byte (by omega) hb).1) (by omega))]
  unfold headOf
  rw [c1]
  simp only [if_true]
  rw [numOf_itoa h0 (by omega), numOf_itoa (by omega) (by omega)]
  simp
theorem flowOf_line {x : Fl} (hx : FlOk x) (hk : x.key < 18446744073709551616) : flowOf (flowLine x) = some (x.key, x.host.data.toList, x.til.toNat) := by
  have c1 : cuts 32 (flowLine x) = [Hex.text x.key 16, x.host.data.toList, Lib.itoa x.til] := by
    unfold flowLine
    rw [cuts_cons 32 _ _ (not32 (fun b hb => hex_byte hb) (by omega)), cuts_cons 32 _ _ (not32 (fun b hb => name_byte hx.1 hb) (by omega)), cuts_none 32 _ (not32 (fun b hb => (itoa_byte hx.2.1 hb).1) (by omega))]
  have hne : x.host.data.toList ≠ [] := by
    intro h
    have := hx.1
    unfold isName nums at this
    rw [h] at this
    simp at this
  have h2 := hx.2.2
  unfold flowOf
  rw [c1]
  simp only
  rw [if_neg hne, Hex.keyOf_text _ _ hk (Hex.wr_len 15 _ (by omega)), numOf_itoa hx.2.1 (by omega)]
theorem flowsOf_lines : ∀ {L : List Fl}, (∀ x ∈ L, FlOk x) → (∀ x ∈ L, x.key < 18446744073709551616) → flowsOf (L.map flowLine) = some L
  | [], _, _ => rfl
  | x :: r, h, hk => by
    have hx := h x List.mem_cons_self
    rw [List.map_cons, flowsOf, flowOf_line hx (hk x List.mem_cons_self), flowsOf_lines (fun y hy => h y (List.mem_cons_of_mem _ hy)) (fun y hy => hk y (List.mem_cons_of_mem _ hy))]
    simp only
    congr 2
    obtain ⟨k, ho, t⟩ := x
    have := hx.2.1
    simp only at this ⊢
    congr 1
    omega
theorem cuts_text {e : Int} {L : List Fl} (h : COk e L) (n : Nat) : cuts 10 (bodyOf e L ++ (sumLine n ++ [10])) = (headLine e L.length :: L.map flowLine) ++ [sumLine n] ++ [[]] := by
  have e1 : bodyOf e L ++ (sumLine n ++ [10]) = ((headLine e L.length :: L.map flowLine) ++ [sumLine n]).flatMap fun l => l ++ [10] := by
    rw [List.flatMap_append]
    simp [bodyOf]
  rw [e1, cuts_lines]
  intro l hl
  rw [List.mem_append, List.mem_cons, List.mem_map, List.mem_singleton] at hl
  rcases hl with (rfl | ⟨x, hx, rfl⟩) | rfl
  · exact headLine_10 h.e0
  · exact flowLine_10 (h.l x hx)
  · exact sumLine_10
theorem sumLine_len {n : Nat} (hn : n < 4294967296) : (sumLine n).length = 12 := by
  unfold sumLine
  rw [List.length_append, Hex.text_len _ _ (Hex.wr_len 7 _ (by omega))]
  rfl
theorem name_len {s : ByteArray} (h : isName s = true) : s.data.toList.length ≤ 12 := by
  unfold isName at h
  simp only [Bool.and_eq_true, decide_eq_true_eq] at h
  have := h.1.1.1.2
  simpa [nums] using this
theorem itoa_len {n : Int} (h0 : 0 ≤ n) (h1 : n < 10000000000000) : (Lib.itoa n).length ≤ 13 := by
  rw [show n = ((n.toNat : Nat) : Int) by omega, Lib.itoa_nonneg]
  exact dec_len 12 n.toNat (by omega)
theorem flowLine_len {x : Fl} (hx : FlOk x) (hk : x.key < 18446744073709551616) : (flowLine x).length ≤ 44 := by
  have h1 := name_len hx.1
  have h2 := itoa_len hx.2.1 (by have := hx.2.2; omega)
  have h3 := Hex.text_len x.key 16 (Hex.wr_len 15 _ (by omega))
  unfold flowLine
  simp only [List.length_append, List.length_cons]
  omega
theorem lines_len : ∀ {L : List Fl}, (∀ x ∈ L, FlOk x) → (∀ x ∈ L, x.key < 18446744073709551616) → ((L.map flowLine).flatMap fun l => l ++ [10]).length ≤ 45 * L.length
  | [], _, _ => by simp
  | x :: r, h, hk => by
    have h1 := flowLine_len (h x List.mem_cons_self) (hk x List.mem_cons_self)
    have h2 := lines_len (fun y hy => h y (List.mem_cons_of_mem _ hy)) (fun y hy => hk y (List.mem_cons_of_mem _ hy))
    rw [List.map_cons, List.flatMap_cons, List.length_append, List.length_append, List.length_singleton, List.length_cons]
    omega
theorem body_len {e : Int} {L : List Fl} (h : COk e L) (hk : ∀ x ∈ L, x.key < 18446744073709551616) : (bodyOf e L).length ≤ 9100 := by
  have h1 := lines_len h.l hk
  have h2 := itoa_len h.e0 (by have := h.e1; omega)
  have hn := h.n
  have h3 := itoa_len (n := (L.length : Int)) (by omega) (by omega)
  have h4 : (headLine e L.length).length ≤ 33 := by
    unfold headLine wFlows
    simp only [List.length_append, List.length_cons, List.length_nil]
    omega
  unfold bodyOf
  rw [List.flatMap_cons, List.length_append, List.length_append, List.length_singleton]
  omega
theorem getLastD_end (ls : List (List UInt8)) (x : List UInt8) : (ls ++ [x]).getLastD [] = x := by
  rw [List.getLastD_eq_getLast?]
  simp
/-- What is written is read. -/
theorem read_text {e : Int} {L : List Fl} (hc : checkOf e L = none) (hk : ∀ x ∈ L, x.key < 18446744073709551616) : readOf (textOf e L) = .good e.toNat L := by
  have h := checkOf_none hc
  have hs := Crc.sum_lt (bodyOf e L)
  have hl := sumLine_len hs
  have hb := body_len h hk
  have hn := h.n
  unfold textOf
  have hC := cuts_text h (Crc.sum (bodyOf e L))
  obtain ⟨n, hnq⟩ : ∃ n, n = Crc.sum (bodyOf e L) := ⟨_, rfl⟩
  rw [← hnq] at hs hl hC ⊢
  unfold readOf
  rw [hC]
  have hlen : (bodyOf e L ++ (sumLine n ++ [10])).length = (bodyOf e L).length + 13 := by
    rw [List.length_append, List.length_append, hl]; rfl
  rw [if_neg (by rw [hlen]; omega)]
  simp only [List.cons_append, List.headD_cons]
  rw [headOf_line h.e0 h.e1 (by omega)]
  have g1 : (headLine e L.length :: (L.map flowLine ++ [sumLine n] ++ [[]])).getD (L.length + 1) [] = sumLine n := by
    simp [List.getD]
  have g2 : (headLine e L.length :: (L.map flowLine ++ [sumLine n] ++ [[]])).getLastD [] = [] := by
    rw [← List.cons_append]
    exact getLastD_end _ _
  have g3 : ((headLine e L.length :: (L.map flowLine ++ [sumLine n] ++ [[]])).drop 1).take L.length = L.map flowLine := by
    simp
  simp only [g1, g2, g3]
  rw [if_pos ⟨by simp, trivial⟩, flowsOf_lines h.l hk]
  have hsum : sumOf (sumLine n) = some n := by
    unfold sumOf sumLine
    rw [show (wSum ++ Hex.text n 8).take 4 = wSum from List.take_left' rfl, if_pos rfl, show (wSum ++ Hex.text n 8).drop 4 = Hex.text n 8 from List.drop_left' rfl]
    exact Hex.keyOf_text n 8 (by omega) (Hex.wr_len 7 _ (by omega))
  simp only [hsum]
  have htk : (bodyOf e L ++ (sumLine n ++ [10])).take ((bodyOf e L ++ (sumLine n ++ [10])).length - (sumLine n).length - 1) = bodyOf e L := by
    rw [hlen, hl]
    exact List.take_left' (by omega)
  rw [htk]
  have hce : checkOf ((e.toNat : Nat) : Int) L = none := by
    have : ((e.toNat : Nat) : Int) = e := by have := h.e0; omega
    rw [this]; exact hc
  rw [hce, if_pos hnq]
theorem headOf_some {l : List UInt8} {e m : Nat} (h : headOf l = some (e, m)) : l = headLine (e : Int) m := by
  unfold headOf at h
  split at h
  · rename_i a b c hc
    split at h
    · rename_i ha
      cases hb : numOf b with
      | none => rw [hb] at h; cases h
      | some x =>
        cases hd : numOf c with
        | none => rw [hb, hd] at h; cases h
        | some y =>
          rw [hb, hd] at h
          simp only [Option.some.injEq, Prod.mk.injEq] at h
          obtain ⟨rfl, rfl⟩ := h
          rw [glue3 hc, ha, (numOf_some hb).1, (numOf_some hd).1]
          unfold headLine
          rw [Lib.itoa_nonneg, Lib.itoa_nonneg]
    · cases h
  · cases h
theorem flowOf_some {l : List UInt8} {p : Nat × List UInt8 × Nat} (h : flowOf l = some p) : l = flowLine ⟨p.1, ⟨p.2.1.toArray⟩, (p.2.2 : Int)⟩ ∧ p.1 < 18446744073709551616 := by
  unfold flowOf at h
  split at h
  · rename_i a b c hc
    split at h
    · cases h
    · cases hb : Hex.keyOf a 16 with
      | none => rw [hb] at h; cases h
      | some x =>
        cases hd : numOf c with
        | none => rw [hb, hd] at h; cases h
        | some y =>
          rw [hb, hd] at h
          simp only [Option.some.injEq] at h
          subst h
          refine ⟨?_, ?_⟩
          · rw [glue3 hc, (numOf_some hd).1, (Hex.keyOf_some hb).1]
            unfold flowLine
            rw [Lib.itoa_nonneg]
          · unfold Hex.keyOf at hb
            split at hb
            · rename_i hr
              split at hb
              · cases hb; exact Hex.read_64 hr
              · cases hb
            · cases hb
  · cases h
theorem flowsOf_some : ∀ {ls : List (List UInt8)} {L : List Fl}, flowsOf ls = some L → ls = L.map flowLine ∧ ∀ x ∈ L, x.key < 18446744073709551616
  | [], L, h => by cases h; exact ⟨rfl, fun x hx => by cases hx⟩
  | t :: r, L, h => by
    unfold flowsOf at h
    split at h
    · cases h
    · rename_i p hp
      split at h
      · cases h
      · rename_i L2 hr
        cases h
        obtain ⟨h1, h2⟩ := flowsOf_some hr
        obtain ⟨h3, h4⟩ := flowOf_some hp
        refine ⟨by rw [List.map_cons, ← h3, ← h1], fun x hx => ?_⟩
        rcases List.mem_cons.1 hx with rfl | hx
        · exact h4
        · exact h2 x hx
theorem sumOf_some {l : List UInt8} {n : Nat} (h : sumOf l = some n) : l = sumLine n := by
  unfold sumOf at h
  split at h
  · rename_i h1
    rw [sumLine, ← h1, ← (Hex.keyOf_some h).1, List.take_append_drop]
  · cases h
theorem split_ends {ls : List (List UInt8)} {m : Nat} (hl : ls.length = m + 3) (he : ls.getLastD [] = []) : ls = (ls.headD [] :: (ls.drop 1).take m) ++ [ls.getD (m + 1) []] ++ [[]] := by
  cases ls with
  | nil => simp at hl
  | cons a r =>
    simp only [List.length_cons] at hl
    obtain ⟨x, y, hxy⟩ : ∃ x y, r.drop m = [x, y] := by
      have : (r.drop m).length = 2 := by rw [List.length_drop]; omega
      match hd : r.drop m, this with
      | [x, y], _ => exact ⟨x, y, rfl⟩
    have hr := List.take_append_drop m r
    rw [hxy] at hr
    have ht : (r.take m).length = m := by rw [List.length_take]; omega
    simp only [List.headD_cons, List.drop_succ_cons, List.drop_zero]
    generalize r.take m = t at *
    subst hr
    have e1 : a :: (t ++ [x, y]) = (a :: t ++ [x]) ++ [y] := by simp
    rw [e1, getLastD_end] at he
    subst he
    have e2 : (a :: (t ++ [x, []])).getD (m + 1) [] = x := by
      rw [List.getD_cons_succ, List.getD_eq_getElem?_getD, List.getElem?_append_right (by omega), ht, Nat.sub_self]
      rfl
    rw [e2]
    simp
/-- What is read is so written. -/
theorem read_good {s : List UInt8} {e : Nat} {L : List Fl} (h : readOf s = .good e L) : s = textOf (e : Int) L ∧ checkOf (e : Int) L = none ∧ ∀ x ∈ L, x.key < 18446744073709551616 := by
  unfold readOf at h
  split at h
  · cases h
  · split at h
    · cases h
    · rename_i e2 m hh
      split at h
      · rename_i hc
        split at h
        · cases h
        · rename_i L2 hL
          split at h
          · cases h
          · rename_i n hn
            split at h
            · rename_i hsum
              split at h
              · cases h
              · rename_i hck
                cases h
                have h1 := headOf_some hh
                obtain ⟨h2, h2k⟩ := flowsOf_some hL
                have h3 := sumOf_some hn
                have hm : L.length = m := by
                  have := congrArg List.length h2
                  rw [List.length_map, List.length_take, List.length_drop, hc.1] at this
                  omega
                have hsp := split_ends hc.1 hc.2
                have hs := glue_ends 10 _ _ hsp
                rw [h1, h2, h3, ← hm, List.flatMap_append] at hs
                have hs2 : s = bodyOf (e : Int) L ++ (sumLine n ++ [10]) := by
                  rw [hs]; simp [bodyOf]
                have hnb : n = Crc.sum (bodyOf (e : Int) L) := by
                  rw [hsum, h3]
                  congr 1
                  rw [hs2]
                  refine List.take_left' ?_
                  simp only [List.length_append, List.length_singleton]
                  omega
                refine ⟨?_, hck, h2k⟩
                rw [hs2, hnb]
                rfl
            · cases h
      · cases h
theorem text_end {e : Int} {L : List Fl} : ∃ r, textOf e L = r ++ [10] := ⟨bodyOf e L ++ sumLine (Crc.sum (bodyOf e L)), by simp [textOf]⟩
/-- Whatever is cut off at its end, it is none. -/
theorem cut_none {e e2 : Int} {L L2 : List Fl} (h : COk e L) (h2 : COk e2 L2) {z : List UInt8} (hz : textOf e L = textOf e2 L2 ++ z) : z = [] := by
  have hc := congrArg (cuts 10) hz
  have c1 := cuts_text h (Crc.sum (bodyOf e L))
  have c2 := cuts_text h2 (Crc.sum (bodyOf e2 L2))
  have hn := congrArg (List.count 10) hz
  rw [List.count_append] at hn
  have k1 := cuts_len 10 (textOf e L)
  have k2 := cuts_len 10 (textOf e2 L2)
  have hh : headLine e L.length = headLine e2 L2.length := by
    have t1 : ∀ (e : Int) (L : List Fl), textOf e L = headLine e L.length ++ 10 :: (((L.map flowLine).flatMap fun l => l ++ [10]) ++ (sumLine (Crc.sum (bodyOf e L)) ++ [10])) := fun e L => by simp [textOf, bodyOf]
    have q : cuts 10 (textOf e2 L2 ++ z) = headLine e2 L2.length :: cuts 10 ((((L2.map flowLine).flatMap fun l => l ++ [10]) ++ (sumLine (Crc.sum (bodyOf e2 L2)) ++ [10])) ++ z) := by
      rw [t1 e2 L2, List.append_assoc, List.cons_append, cuts_cons 10 _ _ (headLine_10 h2.e0)]
    rw [q, t1 e L, cuts_cons 10 _ _ (headLine_10 h.e0)] at hc
    exact (List.cons.inj hc).1
  have hm : L.length = L2.length := by
    have g := congrArg headOf hh
    rw [headOf_line h.e0 h.e1 (by have := h.n; omega), headOf_line h2.e0 h2.e1 (by have := h2.n; omega)] at g
    simp only [Option.some.injEq, Prod.mk.injEq] at g
    exact g.2
  have l1 : (cuts 10 (textOf e L)).length = L.length + 3 := by rw [textOf, c1]; simp
  have l2 : (cuts 10 (textOf e2 L2)).length = L2.length + 3 := by rw [textOf, c2]; simp
  have hz0 : z.count 10 = 0 := by omega
  obtain ⟨r, hr⟩ := text_end (e := e) (L := L)
  rw [hr] at hz
  rcases List.eq_nil_or_concat z with h0 | ⟨y, c, h0⟩
  · exact h0
  · rw [h0, List.concat_eq_append, ← List.append_assoc] at hz
    have := List.append_inj_right' hz rfl
    simp only [List.cons.injEq, and_true] at this
    subst this
    rw [h0, List.concat_eq_append, List.count_append] at hz0
    simp at hz0
/-- One byte that is turned is seen. -/
theorem turn_none {e e2 : Int} {L L2 : List Fl} {p r : List UInt8} {x y : UInt8} (h1 : textOf e L = p ++ x :: r) (h2 : textOf e2 L2 = p ++ y :: r) : x = y := by
  unfold textOf at h1 h2
  generalize hb1 : bodyOf e L = b1 at *
  generalize hb2 : bodyOf e2 L2 = b2 at *
  have s1 := Crc.sum_lt b1
  have s2 := Crc.sum_lt b2
  have l1 := congrArg List.length h1
  have l2 := congrArg List.length h2
  simp only [List.length_append, List.length_cons, List.length_nil, sumLine_len s1, sumLine_len s2] at l1 l2
  have e8 : b1.length = b2.length := by omega
  have t1 : (p ++ x :: r).take b1.length = b1 := by rw [← h1]; exact List.take_left' rfl
  have t2 : (p ++ y :: r).take b1.length = b2 := by rw [← h2, e8]; exact List.take_left' rfl
  have d1 : (p ++ x :: r).drop b1.length = sumLine (Crc.sum b1) ++ [10] := by rw [← h1]; exact List.drop_left' rfl
  have d2 : (p ++ y :: r).drop b1.length = sumLine (Crc.sum b2) ++ [10] := by rw [← h2, e8]; exact List.drop_left' rfl
  rcases Nat.lt_or_ge p.length b1.length with hp | hp
  · obtain ⟨k, hk⟩ : ∃ k, b1.length = p.length + (k + 1) := ⟨b1.length - p.length - 1, by omega⟩
    rw [hk, List.drop_length_add_append, List.drop_succ_cons] at d1 d2
    rw [hk, List.take_length_add_append, List.take_succ_cons] at t1 t2
    have hs := d1.symm.trans d2
    unfold sumLine at hs
    rw [List.append_assoc, List.append_assoc] at hs
    have hx := List.append_cancel_right (List.append_cancel_left hs)
    have hr := congrArg Hex.read hx
    rw [Hex.read_text _ _ (by omega), Hex.read_text _ _ (by omega)] at hr
    have hsum : Crc.sum b1 = Crc.sum b2 := by injection hr
    rw [← t1, ← t2] at hsum
    exact Crc.sum_one hsum
  · rw [List.take_append_of_le_length hp] at t1 t2
    have hb : b1 = b2 := t1.symm.trans t2
    rw [hb] at h1
    have := h1.symm.trans h2
    have := List.append_cancel_left this
    exact (List.cons.inj this).1
end Go.Proofs.YtalfjaogpbndeaaGreatDoor
