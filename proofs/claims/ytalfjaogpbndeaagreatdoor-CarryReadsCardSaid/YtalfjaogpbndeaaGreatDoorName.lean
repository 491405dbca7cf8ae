/-
  The walks of mix.Name and IsName: is it the name of a host?
-/
import Derived.Test.YtalfjaogpbndeaaGreatDoorBase
import Derived.Lib.ConvBytes
import Derived.Lib.Strings
namespace Go.Proofs.YtalfjaogpbndeaaGreatDoor
open Go.RowKit

/-- A byte of a name. -/
def nb (n : Nat) : Bool := (decide (97 ≤ n) && decide (n ≤ 122)) || (decide (48 ≤ n) && decide (n ≤ 57)) || decide (n = 45)
def bytesV (l : List Nat) : List Value := l.map fun n : Nat => Value.int .u8 (n : Int)

theorem ret_bool {a b : Bool} (h : a = b) : Ending.returned (.bool a) = .returned (.bool b) := by rw [h]

def NotNb (n : Nat) (w : World) (e : Ending) (w' : World) : Prop := e = .returned (.bool (!nb n)) ∧ w = w'
theorem other_byte (n : Nat) (w : World) : Calls Tryz.prog 52 #[.int .u8 (n : Int)] w (NotNb n w) := by
  unfold NotNb
  go_enter Tryz.func52, Tryz.ntmps52
  go_wp2
  all_goals (go_ret; refine ⟨ret_bool ?_, rfl⟩; rw [Bool.eq_iff_iff]; simp [nb]; omega)

def IndexPost (l : List Nat) (w : World) (e : Ending) (w' : World) : Prop := (∃ i : Int, e = .returned (.int .i64 i) ∧ (decide (0 ≤ i) = l.any fun n => !nb n)) ∧ w = w'
theorem bytes_at {w : World} {B : Nat} {A : Option Addr} {l : List Nat} {k : Nat} (h : Reads w B 1 A l.length (bytesV l)) (hk : k < l.length) :
    ∃ ad, A = some ad ∧ w.cell? (ad.add k) = some (.int .u8 ((l[k] : Nat) : Int)) := by
  obtain ⟨ad, u, hA, _, hx, hc⟩ := h.at_ hk
  refine ⟨ad, hA, ?_⟩
  rw [hc]
  simp [bytesV, hk] at hx
  rw [hx]

theorem any_step {l : List Nat} {k : Nat} {f : Nat → Bool} (hk : k < l.length) (h : (l.take k).any f = false) (hf : f l[k] = false) : (l.take (k + 1)).any f = false := by
  rw [List.take_succ_eq_append_getElem hk, List.any_append, h]; simp [hf]
theorem any_hit {l : List Nat} {k : Nat} {f : Nat → Bool} (hk : k < l.length) (hf : f l[k] = true) : l.any f = true := List.any_eq_true.2 ⟨_, List.getElem_mem hk, hf⟩

set_option maxHeartbeats 1000000 in
theorem indexFunc_bytes (A : Option Addr) (c B : Nat) (l : List Nat) (w : World) (hr : Reads w B 1 A l.length (bytesV l)) (hl : l.length ≤ maxLen) :
    Calls Tryz.prog 74 #[.slice A l.length c, .func (.func 52) #[] #[]] w (IndexPost l w) := by
  unfold maxLen at hl
  go_enter Tryz.func74, Tryz.ntmps74
  go_wp2_with fail
  go_loop [5, 8] (fun _ iv => ∃ k : Nat, k ≤ l.length ∧ iv = .int .i64 (k : Int) ∧ Hid ((l.take k).any (fun n => !nb n) = false)) (fun _ iv => l.length - (intOf iv).toNat)
  case atStart => exact ⟨0, Nat.zero_le _, rfl, Lib.hid (by simp)⟩
  case round =>
    obtain ⟨k, hk, rfl, ht⟩ := hrel
    by_cases hlt : k < l.length
    · obtain ⟨ad, rfl, hc⟩ := bytes_at hr hlt
      have hlt2 : (k : Int) < l.length := by omega
      have HO := Lib.hid (fun W => other_byte l[k] W)
      cases hnb : nb l[k] with
      | true =>
        have Hnb := Lib.hid hnb
        have HO' : Hid (∀ W, Calls Tryz.prog 52 #[.int .u8 ((l[k] : Nat) : Int)] W fun e w' => e = .returned (.bool false) ∧ W = w') :=
          Lib.hid fun W => (HO.out W).mono fun e w' h => ⟨by rw [h.1, Hnb.out]; rfl, h.2⟩
        clear hnb HO
        go_wp2_with (go_at_call 52; refine (HO'.out _).mono ?_; rintro e w1 ⟨rfl, rfl⟩)
        go_round
        case rel => exact ⟨k + 1, by omega, by go_num, Lib.hid (any_step hlt ht.out (by rw [Hnb.out]; rfl))⟩
        case measure => simp [intOf]; omega
      | false =>
        have Hnb := Lib.hid hnb
        have HO' : Hid (∀ W, Calls Tryz.prog 52 #[.int .u8 ((l[k] : Nat) : Int)] W fun e w' => e = .returned (.bool true) ∧ W = w') :=
          Lib.hid fun W => (HO.out W).mono fun e w' h => ⟨by rw [h.1, Hnb.out]; rfl, h.2⟩
        clear hnb HO
        go_wp2_with (go_at_call 52; refine (HO'.out _).mono ?_; rintro e w1 ⟨rfl, rfl⟩)
        go_ret
        exact ⟨⟨_, rfl, by rw [any_hit hlt (by rw [Hnb.out]; rfl)]; simp⟩, rfl⟩
    · have hge : (l.length : Int) ≤ k := by omega
      go_wp2
      go_ret
      refine ⟨⟨_, rfl, ?_⟩, rfl⟩
      have h := ht.out
      rw [List.take_of_length_le (by omega)] at h
      rw [h]; rfl

theorem containsFunc_bytes (A : Option Addr) (c B : Nat) (l : List Nat) (w : World) (hr : Reads w B 1 A l.length (bytesV l)) (hl : l.length ≤ maxLen) :
    Calls Tryz.prog 51 #[.slice A l.length c, .func (.func 52) #[] #[]] w fun e w' => e = .returned (.bool (l.any fun n => !nb n)) ∧ w = w' := by
  have H := Lib.hid (indexFunc_bytes A c B l w hr hl)
  clear hr hl
  go_enter Tryz.func51, Tryz.ntmps51
  go_wp2_with fail
  refine H.out.mono ?_
  rintro e w1 ⟨⟨i, rfl, hi⟩, rfl⟩
  have HI := Lib.hid hi
  clear hi
  go_wp2
  go_ret
  exact ⟨ret_bool (by rw [← HI.out]), rfl⟩

/-- The bytes of a text as numbers. -/
def nums (s : ByteArray) : List Nat := s.data.toList.map UInt8.toNat
theorem nums_length (s : ByteArray) : (nums s).length = s.size := by simp [nums]
def isName (s : ByteArray) : Bool := decide (0 < (nums s).length) && decide ((nums s).length ≤ 12) && decide (97 ≤ (nums s).getD 0 0) && decide ((nums s).getD 0 0 ≤ 122) && !((nums s).any fun n => !nb n)
theorem nums_zero (s : ByteArray) (h : 0 < s.size) : (nums s).getD 0 0 = s[0].toNat := by
  have hl : 0 < s.data.toList.length := by simpa using h
  simp [nums, List.getD, List.getElem?_map, List.getElem?_eq_getElem hl]; rfl

theorem below_bytes (w : World) (e : TypeId) (s : ByteArray) : Below w.heap.size w (Lib.bytesWorld w e s) :=
  ⟨rfl, rfl, rfl, by rw [Lib.bytesWorld_size]; omega, fun k hk => Lib.bytesWorld_at_old w e s k hk⟩
theorem reads_bytes (w : World) (e : TypeId) (s : ByteArray) : Reads (Lib.bytesWorld w e s) (w.heap.size + 1) 1 (some ⟨w.heap.size, 0, none⟩) (nums s).length (bytesV (nums s)) := by
  refine ⟨by simp [bytesV], fun _ => ⟨_, rfl, by simp, fun j u hu => ?_⟩⟩
  have hj : j < s.size := by
    rw [← nums_length]
    rcases Nat.lt_or_ge j (nums s).length with h | h
    · exact h
    · simp [bytesV, List.getElem?_eq_none h] at hu
  have hjl : j < s.data.toList.length := by simpa using hj
  have e1 : ((⟨w.heap.size, 0, none⟩ : Addr).add j) = ⟨w.heap.size, j, none⟩ := by
    by_cases h0 : j = 0
    · subst h0; rfl
    · simp [Addr.add, h0]
  rw [e1, Lib.bytesWorld_cell w e s j hj, ← hu]
  simp [bytesV, nums, List.getElem?_map, List.getElem?_eq_getElem hjl, List.getD]

def NameIs (b : Bool) (w : World) (e : Ending) (w' : World) : Prop := e = .returned (.bool b) ∧ Below w.heap.size w w'
theorem name_empty (s : ByteArray) (w : World) (h0 : s.size = 0) : Calls Tryz.prog 37 #[.string s] w (NameIs (isName s) w) := by
  have hn : isName s = false := by unfold isName; rw [nums_length, h0]; rfl
  have e0 : s.toList = [] := by rw [Lib.toList_data]; exact List.eq_nil_of_length_eq_zero (by simpa using h0)
  rw [hn]
  clear h0 hn
  go_enter Tryz.func37, Tryz.ntmps37
  go_wp2
  go_ret
  exact ⟨rfl, Below.refl _ _⟩
theorem not_empty (s : ByteArray) (h : 0 < s.size) : s.toList.isEmpty = false := by
  rw [Lib.toList_data]
  cases hl : s.data.toList with
  | nil => rw [← nums_length] at h; simp [nums, hl] at h
  | cons a l => rfl
theorem name_long (s : ByteArray) (w : World) (h0 : 12 < s.size) (hs : s.size ≤ maxLen) : Calls Tryz.prog 37 #[.string s] w (NameIs (isName s) w) := by
  unfold maxLen at hs
  have hn : isName s = false := by unfold isName; rw [nums_length, decide_eq_false (show ¬ s.size ≤ 12 by omega)]; simp
  have e0 := not_empty s (by omega)
  have e1 : decide ((s.size : Int) ≤ 12) = false := by simp; omega
  rw [hn]
  clear h0 hn
  go_enter Tryz.func37, Tryz.ntmps37
  go_wp2
  go_ret
  exact ⟨rfl, Below.refl _ _⟩
set_option maxRecDepth 100000 in
theorem name_first (s : ByteArray) (w : World) (h0 : 0 < s.size) (h12 : s.size ≤ 12) (hc : s[0].toNat < 97 ∨ 122 < s[0].toNat) : Calls Tryz.prog 37 #[.string s] w (NameIs (isName s) w) := by
  have hn : isName s = false := by
    unfold isName; rw [nums_zero s h0]
    rcases hc with h | h
    · rw [decide_eq_false (show ¬ 97 ≤ s[0].toNat by omega)]; simp
    · rw [decide_eq_false (show ¬ s[0].toNat ≤ 122 by omega)]; simp
  have e0 := not_empty s h0
  have e1 : decide ((s.size : Int) ≤ 12) = true := by simp; omega
  rw [hn]
  clear hn
  have h1 : (0 : Int) < s.size := by omega
  rcases hc with h | h
  · have e2 : decide ((s[0].toNat : Int) ≥ 97) = false := by simp; omega
    go_enter Tryz.func37, Tryz.ntmps37
    go_wp2
    go_ret
    exact ⟨rfl, Below.refl _ _⟩
  · have e2 : decide ((s[0].toNat : Int) ≥ 97) = true := by simp; omega
    have e3 : decide ((s[0].toNat : Int) ≤ 122) = false := by simp; omega
    go_enter Tryz.func37, Tryz.ntmps37
    go_wp2
    go_ret
    exact ⟨rfl, Below.refl _ _⟩
set_option maxRecDepth 100000 in
theorem name_rest (s : ByteArray) (w : World) (h0 : 0 < s.size) (h12 : s.size ≤ 12) (h1 : 97 ≤ s[0].toNat) (h2 : s[0].toNat ≤ 122) : Calls Tryz.prog 37 #[.string s] w (NameIs (isName s) w) := by
  have hn : isName s = !((nums s).any fun n => !nb n) := by
    unfold isName; rw [nums_zero s h0, nums_length, decide_eq_true h0, decide_eq_true h12, decide_eq_true h1, decide_eq_true h2]; rfl
  have e0 := not_empty s h0
  have e1 : decide ((s.size : Int) ≤ 12) = true := by simp; omega
  have e2 : decide ((s[0].toNat : Int) ≥ 97) = true := by simp; omega
  have e3 : decide ((s[0].toNat : Int) ≤ 122) = true := by simp; omega
  have kc := fun W : World => Lib.run_convert_string_bytes (P := Tryz.prog) W 9 49 5 s Tryz.underlying9 Tryz.underlying49 Tryz.underlying5
  have HC := Lib.hid (containsFunc_bytes (some ⟨w.heap.size, 0, none⟩) (grownCap w s.size 0 5) (w.heap.size + 1) (nums s) (Lib.bytesWorld w 5 s) (reads_bytes _ _ _) (by rw [nums_length]; unfold maxLen; omega))
  rw [nums_length] at HC
  rw [hn]
  clear hn
  generalize ((nums s).any fun n => !nb n) = b at *
  go_enter Tryz.func37, Tryz.ntmps37
  go_wp2_with (go_at_call 51; refine HC.out.mono ?_; rintro e w1 ⟨rfl, rfl⟩)
  go_ret
  exact ⟨rfl, below_bytes _ _ _⟩
theorem name_any (s : ByteArray) (w : World) (hs : s.size ≤ maxLen) : Calls Tryz.prog 37 #[.string s] w (NameIs (isName s) w) := by
  by_cases h0 : s.size = 0
  · exact name_empty s w h0
  by_cases h12 : 12 < s.size
  · exact name_long s w h12 hs
  by_cases hc : 97 ≤ s[0].toNat ∧ s[0].toNat ≤ 122
  · exact name_rest s w (by omega) (by omega) hc.1 hc.2
  · exact name_first s w (by omega) (by omega) (by omega)
end Go.Proofs.YtalfjaogpbndeaaGreatDoor
