/-
  What carry writes and reads, in plain words.
-/
import Derived.Test.YtalfjaogpbndeaaDoorCarFlow
import Derived.Test.YtalfjaogpbndeaaDoorHexLaw
import Derived.Test.YtalfjaogpbndeaaDoorNumLaw
import Derived.Test.YtalfjaogpbndeaaDoorCutsLaw
import Derived.Test.YtalfjaogpbndeaaDoorCrcPlain
import Derived.Test.YtalfjaogpbndeaaDoorFlowPlain
import Derived.Test.YtalfjaogpbndeaaDoorErrs
import Derived.Test.YtalfjaogpbndeaaDoorName
namespace Go.Proofs.YtalfjaogpbndeaaDoor

/-- The first line. -/
def headLine (e : Int) (m : Nat) : List UInt8 := wFlows ++ 32 :: (Lib.itoa e ++ 32 :: Lib.itoa (m : Int))
/-- A flow's line. -/
def flowLine (x : Fl) : List UInt8 := Hex.text x.key 16 ++ 32 :: (x.host.data.toList ++ 32 :: Lib.itoa x.til)
def wSum : List UInt8 := [115, 117, 109, 32]
/-- The last line, for a number. -/
def sumLine (n : Nat) : List UInt8 := wSum ++ Hex.text n 8
def bodyOf (e : Int) (L : List Fl) : List UInt8 := (headLine e L.length :: L.map flowLine).flatMap fun l => l ++ [10]
/-- The text of flows. -/
def textOf (e : Int) (L : List Fl) : List UInt8 := bodyOf e L ++ (sumLine (Crc.sum (bodyOf e L)) ++ [10])
/-- What is wrong with a flow behind others. -/
def ckOne (seen : List Nat) (x : Fl) : Nat := if isName x.host = false then 4 else if x.til < 0 ∨ 1099511628776 < x.til then 2 else if x.key ∈ seen then 6 else 0
def ckGo (seen : List Nat) (i : Nat) : List Fl → Option Flt
  | [] => none
  | x :: r => if ckOne seen x = 0 then ckGo (x.key :: seen) (i + 1) r else some ⟨ckOne seen x, some i⟩
/-- What is wrong with what is to be carried. -/
def checkOf (e : Int) (L : List Fl) : Option Flt := if e < 0 ∨ 1099511627776 < e ∨ 200 < L.length then some ⟨2, none⟩ else ckGo [] 0 L
def flowsOf : List (List UInt8) → Option (List Fl)
  | [] => some []
  | t :: r => match flowOf t with
    | none => none
    | some p => match flowsOf r with
      | none => none
      | some L => some (⟨p.1, ⟨p.2.1.toArray⟩, (p.2.2 : Int)⟩ :: L)
/-- What a last line tells. -/
def sumOf (l : List UInt8) : Option Nat := if l.take 4 = wSum then Hex.keyOf (l.drop 4) 8 else none
inductive Rd where
  | bad (f : Flt)
  | good (e : Nat) (L : List Fl)
/-- What a text says. -/
def readOf (s : List UInt8) : Rd :=
  if 20000 < s.length then .bad ⟨2, none⟩ else
  match headOf ((cuts 10 s).headD []) with
  | none => .bad ⟨1, none⟩
  | some (e, m) =>
    if (cuts 10 s).length = m + 3 ∧ (cuts 10 s).getLastD [] = [] then
      match flowsOf (((cuts 10 s).drop 1).take m) with
      | none => .bad ⟨1, none⟩
      | some L => match sumOf ((cuts 10 s).getD (m + 1) []) with
        | none => .bad ⟨1, none⟩
        | some n => if n = Crc.sum (s.take (s.length - ((cuts 10 s).getD (m + 1) []).length - 1)) then
            (match checkOf e L with
            | some f => .bad f
            | none => .good e L) else .bad ⟨9, none⟩
    else .bad ⟨1, none⟩

theorem glue_ends (c : UInt8) : ∀ (ls : List (List UInt8)) (l : List UInt8), cuts c l = ls ++ [[]] → l = ls.flatMap fun x => x ++ [c]
  | [], [], _ => rfl
  | [], x :: r, h => by
    unfold cuts at h
    split at h
    · have := cuts_ne c r
      cases hc : cuts c r with
      | nil => exact absurd hc this
      | cons a t => rw [hc] at h; simp at h
    · simp at h
  | a :: ls, [], h => by
    have := congrArg List.length h
    simp [cuts] at this
  | a :: ls, x :: r, h => by
    unfold cuts at h
    split at h
    · rename_i hx
      subst hx
      simp only [List.cons_append, List.cons.injEq] at h
      obtain ⟨rfl, h2⟩ := h
      rw [glue_ends x ls r h2]
      simp
    · rename_i hx
      simp only [List.cons_append, List.cons.injEq] at h
      obtain ⟨rfl, h2⟩ := h
      have hne := cuts_ne c r
      cases hc : cuts c r with
      | nil => exact absurd hc hne
      | cons b t =>
        rw [hc] at h2
        simp only [List.tail_cons] at h2
        rw [h2] at hc
        rw [glue_ends c (b :: ls) r (by rw [hc]; rfl)]
        simp
theorem glue3 {c : UInt8} : ∀ {l a b d : List UInt8}, cuts c l = [a, b, d] → l = a ++ c :: (b ++ c :: d) := by
  have g1 : ∀ (l d : List UInt8), cuts c l = [d] → l = d := by
    intro l
    induction l with
    | nil => intro d h; simpa [cuts] using h
    | cons x r ih =>
      intro d h
      unfold cuts at h
      split at h
      · have := cuts_ne c r
        simp only [List.cons.injEq] at h
        exact absurd h.2 this
      · have hne := cuts_ne c r
        cases hc : cuts c r with
        | nil => exact absurd hc hne
        | cons a t =>
          rw [hc] at h
          simp only [List.headD_cons, List.tail_cons, List.cons.injEq] at h
          obtain ⟨rfl, rfl⟩ := h
          rw [ih a hc]
  have gc : ∀ (l a : List UInt8) (t : List (List UInt8)), t ≠ [] → cuts c l = a :: t → ∃ r, l = a ++ c :: r ∧ cuts c r = t := by
    intro l
    induction l with
    | nil => intro a t ht h; simp [cuts] at h; exact absurd h.2.symm (fun e => ht e.symm)
    | cons x r ih =>
      intro a t ht h
      unfold cuts at h
      split at h
      · rename_i hx
        simp only [List.cons.injEq] at h
        obtain ⟨rfl, h2⟩ := h
        exact ⟨r, by rw [hx]; rfl, h2⟩
      · have hne := cuts_ne c r
        cases hc : cuts c r with
        | nil => exact absurd hc hne
        | cons b t2 =>
          rw [hc] at h
          simp only [List.headD_cons, List.tail_cons, List.cons.injEq] at h
          obtain ⟨rfl, rfl⟩ := h
          obtain ⟨r2, h1, h2⟩ := ih b t2 ht hc
          exact ⟨r2, by rw [h1]; rfl, h2⟩
  intro l a b d h
  obtain ⟨r, rfl, h1⟩ := gc l a [b, d] (by simp) h
  obtain ⟨r2, rfl, h2⟩ := gc r b [d] (by simp) h1
  rw [g1 r2 d h2]
/-- A text's digits are neither a space nor an end of a line. -/
theorem dec_byte : ∀ (n : Nat) (c : UInt8), c ∈ Lib.decDigits n → 48 ≤ c.toNat ∧ c.toNat ≤ 57
  | n, c, h => by
    by_cases hn : n < 10
    · rw [Lib.decDigits, dif_pos hn] at h
      have := List.mem_singleton.1 h
      subst this
      rw [tenth n hn]; omega
    · rw [Lib.decDigits, dif_neg hn, List.mem_append] at h
      rcases h with h | h
      · exact dec_byte (n / 10) c h
      · have := List.mem_singleton.1 h
        subst this
        rw [tenth _ (by omega)]; omega
termination_by n => n
theorem itoa_byte {n : Int} (h0 : 0 ≤ n) {c : UInt8} (h : c ∈ Lib.itoa n) : 48 ≤ c.toNat ∧ c.toNat ≤ 57 := by
  rw [show n = ((n.toNat : Nat) : Int) by omega, Lib.itoa_nonneg] at h
  exact dec_byte _ c h
theorem hd_byte : ∀ m : Fin 16, 48 ≤ (Hex.hd m.val).toNat := by decide
theorem wr_byte : ∀ (n : Nat) (c : UInt8), c ∈ Hex.wr n → 48 ≤ c.toNat
  | n, c, h => by
    by_cases hn : n < 16
    · rw [Hex.wr_lo hn] at h
      have := List.mem_singleton.1 h
      subst this
      exact hd_byte ⟨n, hn⟩
    · rw [Hex.wr_hi hn, List.mem_append] at h
      rcases h with h | h
      · exact wr_byte (n / 16) c h
      · have := List.mem_singleton.1 h
        subst this
        exact hd_byte ⟨n % 16, by omega⟩
termination_by n => n
theorem hex_byte {n d : Nat} {c : UInt8} (h : c ∈ Hex.text n d) : 48 ≤ c.toNat := by
  unfold Hex.text at h
  rw [List.mem_append] at h
  rcases h with h | h
  · have := (List.mem_replicate.1 h).2
    subst this
    decide
  · exact wr_byte n c h
theorem name_byte {s : ByteArray} (h : isName s = true) {c : UInt8} (hc : c ∈ s.data.toList) : 45 ≤ c.toNat := by
  unfold isName at h
  simp only [Bool.and_eq_true] at h
  have h2 := h.2
  rw [Bool.not_eq_true', List.any_eq_false] at h2
  have h3 := h2 c.toNat (by unfold nums; exact List.mem_map_of_mem hc)
  simp [nb] at h3
  omega
theorem dec_len : ∀ (d n : Nat), n < 10 ^ (d + 1) → (Lib.decDigits n).length ≤ d + 1
  | 0, n, h => by rw [Lib.decDigits, dif_pos (by omega)]; simp
  | d + 1, n, h => by
    by_cases hn : n < 10
    · rw [Lib.decDigits, dif_pos hn]; simp
    · rw [Lib.decDigits, dif_neg hn, List.length_append, List.length_singleton]
      have := dec_len d (n / 10) (by rw [Nat.pow_succ] at h; omega)
      omega
theorem numOf_itoa {n : Int} (h0 : 0 ≤ n) (h1 : n < 10000000000000) : numOf (Lib.itoa n) = some n.toNat := by
  rw [show n = ((n.toNat : Nat) : Int) by omega, Lib.itoa_nonneg]
  have := dec_len 12 n.toNat (by omega)
  rw [numOf_digits _ (by omega) (by omega)]
  simp only [Int.toNat_natCast]
end Go.Proofs.YtalfjaogpbndeaaDoor
