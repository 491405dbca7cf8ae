/-
  table.Make where it is refused, and whatever it is given; table.Row; the closed fact tabled.
-/
import Derived.Test.YtbbbnnooaaelmaaDoorTabMake
import Derived.Test.YtbbbnnooaaelmaaDoorSame
namespace Go.Proofs.YtbbbnnooaaelmaaDoor
open Go.RowKit

def tableFault (l : List ByteArray) (n : Int) : Option Flt := if l.length = 0 then some ⟨5, none⟩ else match hostsFault l with
  | some f => some f
  | none => sizeFault n
/-- The variables that table.Make is refused by. -/
structure ErrsT (ea : Nat → Addr) (w : World) : Prop where
  e3 : Errs3 ea w
  z : ErrsZ ea w
  c5 : w.cell? ⟨gv 5, 0, none⟩ = some (.iface 206 (.pointer (some (ea (gv 5)))))
theorem ErrsT.below {ea : Nat → Addr} {w w' : World} (h : ErrsT ea w) (hb : Below w.heap.size w w') : ErrsT ea w' :=
  ⟨h.e3.below hb, h.z.below hb, (hb.cell (lt_of_cell h.c5)).trans h.c5⟩
/-- Texts that a call is handed. -/
structure TxIn (w : World) (A : Option Addr) (c : Nat) (l : List ByteArray) : Prop where
  r : Reads w w.heap.size 1 A l.length (strV l)
  lc : l.length ≤ c
  lm : l.length ≤ maxLen
  s : ∀ s ∈ l, s.size ≤ maxLen
theorem TxIn.below {w w' : World} {A : Option Addr} {c : Nat} {l : List ByteArray} (h : TxIn w A c l) (hb : Below w.heap.size w w') : TxIn w' A c l :=
  ⟨(h.r.below hb).more hb.size, h.lc, h.lm, h.s⟩
set_option maxRecDepth 100000 in
set_option maxHeartbeats 1000000 in
theorem make_bad (ea : Nat → Addr) (A : Option Addr) (c : Nat) (l : List ByteArray) (n : Int) (f : Flt) (w : World) (hE : ErrsT ea w) (hI : TxIn w A c l) (hf : tableFault l n = some f) :
    Calls Tryd.prog 14 #[.slice A l.length c, .int .i64 n] w (SortedBad ea f w) := by
  have hlm := hI.lm
  unfold maxLen at hlm
  unfold tableFault at hf
  by_cases h0 : l.length = 0
  · rw [if_pos h0] at hf
    obtain rfl := Option.some.inj hf
    have z0 : ((l.length : Int) == 0) = true := beq_iff_eq.2 (by omega)
    have z1 : l = [] := List.eq_nil_of_length_eq_zero h0
    have c5 := hE.c5
    dsimp only [gv] at c5
    subst z1
    clear hE hI h0 hf
    go_enter Tryd.func14, Tryd.ntmps14
    go_wp2
    go_quiet (fail)
    go_wp2
    go_ret2
    exact ⟨_, _, rfl, ⟨rfl, rfl⟩, below_drewN (Below.refl _ _) _⟩
  rw [if_neg h0] at hf
  have z0 : ((l.length : Int) == 0) = false := beq_eq_false_iff_ne.2 (by omega)
  have z1 : ¬ l = [] := fun e => by simp [e] at h0
  cases ho : hostsFault l with
  | some g =>
    rw [ho] at hf
    obtain rfl := Option.some.inj hf
    have HS := Lib.hid (mixSorted_bad ea A c l g w hE.e3 hI.r hI.lc hI.lm hI.s ho)
    clear hE hI h0 hf ho
    go_enter Tryd.func14, Tryd.ntmps14
    go_wp2_with fail
    refine HS.out.mono ?_
    rintro e w1 ⟨t, a, rfl, hX, hb1⟩
    go_wp2
    go_ret2
    exact ⟨t, a, rfl, hX, hb1⟩
  | none =>
    rw [ho] at hf
    have hpl : f.place = none := by
      have hf2 : sizeFault n = some f := hf
      unfold sizeFault at hf2
      split at hf2
      · obtain rfl := Option.some.inj hf2; rfl
      · split at hf2
        · cases hf2
        · obtain rfl := Option.some.inj hf2; rfl
    have HS := Lib.hid (mixSorted_ok ea A c l w hE.e3 hI.r hI.lc hI.lm hI.s ho)
    have HZ : Hid (∀ W, Below w.heap.size w W → Calls Tryd.prog 62 #[.int .i64 n] W fun e w' => e = .returned (.iface 206 (.pointer (some (ea (gv f.code))))) ∧ W = w') := Lib.hid fun W hW => by
      have := size_any ea n W (hE.z.below hW)
      unfold SizePost at this
      rw [show sizeFault n = some f from hf] at this
      exact this
    have HX : Hid (∀ W, IsErr ea W f 206 (ea (gv f.code))) := Lib.hid fun W => by unfold IsErr; rw [hpl]; exact ⟨rfl, rfl⟩
    generalize ea (gv f.code) = ad at *
    clear hE hI h0 hf ho
    go_enter Tryd.func14, Tryd.ntmps14
    go_wp2_with fail
    refine HS.out.mono ?_
    rintro e w1 ⟨A1, c1, rfl, _, hb1⟩
    go_wp2_with fail
    refine (HZ.out _ hb1).mono ?_
    rintro e w2 ⟨rfl, rfl⟩
    go_wp2
    go_ret2
    exact ⟨_, _, rfl, HX.out _, hb1⟩
theorem tableFault_none {l : List ByteArray} {n : Int} (h : tableFault l n = none) : 0 < l.length ∧ hostsFault l = none ∧ ∃ k : Nat, n = (k : Int) ∧ 2 ≤ k ∧ k ≤ 503 ∧ noDiv k := by
  unfold tableFault at h
  split at h
  · cases h
  · split at h
    · cases h
    · rename_i h1 _ h2
      exact ⟨by omega, h2, sizeFault_none h⟩
theorem make_good (ea : Nat → Addr) (A : Option Addr) (c : Nat) (l : List ByteArray) (n : Nat) (w : World) (hE : ErrsT ea w) (hI : TxIn w A c l) (hf : tableFault l (n : Int) = none) :
    Calls Tryd.prog 14 #[.slice A l.length c, .int .i64 (n : Int)] w (MakeGood l n w) := by
  obtain ⟨h0, ho, k, hk, h2, h5, hd⟩ := tableFault_none hf
  obtain rfl : n = k := by omega
  exact make_ok ea A c l n w hE.e3 hE.z hI.r hI.lc hI.lm hI.s h0 ho h2 h5 hd

/-! The row of a name. -/
def rowFault (s : ByteArray) (n : Int) : Option Flt := if isName s = true then sizeFault n else some ⟨4, none⟩
def RowGood (s : ByteArray) (n : Nat) (w : World) (e : Ending) (w' : World) : Prop :=
  ∃ g, e = .returned (.tuple #[.slice (some ⟨g, 0, none⟩) n n, .nilIface]) ∧ Blk w' g 3 ((List.range n).map fun i => Value.int .i64 (rowAt s n i : Int)).toArray ∧ w.heap.size ≤ g ∧ Below w.heap.size w w'
def rowV2 (s : ByteArray) (n k : Nat) : List Value := (List.range k).map (fun i => Value.int .i64 (rowAt s n i : Int)) ++ List.replicate (n - k) (Value.int .i64 0)
theorem rowV2_length {s : ByteArray} {n k : Nat} (h : k ≤ n) : (rowV2 s n k).length = n := by simp [rowV2]; omega
theorem rowV2_set {s : ByteArray} {n k : Nat} (h : k < n) : (rowV2 s n k).toArray.setIfInBounds k (.int .i64 (rowAt s n k : Int)) = (rowV2 s n (k + 1)).toArray := by
  simp only [List.setIfInBounds_toArray]
  congr 1
  unfold rowV2
  rw [List.set_append_right _ _ (by simp)]
  simp only [List.length_map, List.length_range, Nat.sub_self]
  obtain ⟨m, hm⟩ : ∃ m, n - k = m + 1 := ⟨n - k - 1, by omega⟩
  rw [hm, show n - (k + 1) = m by omega, List.range_succ]
  simp [List.replicate_succ]
theorem row_next {w : World} {g k n : Nat} {s : ByteArray} (h : Blk w g 92 (rowV s n k)) (hn : 2 ≤ n) (hn5 : n ≤ 503) :
    ∃ (p : Nat) (W' : World), p < n ∧ Hid (p = rowAt s n k) ∧ Hid (W' = (w.setCell ⟨g, 0, none⟩ (.int .i64 (rowAt s n (k + 1) : Int))).drew) ∧
      Hid (Calls Tryd.prog 65 #[.pointer (some ⟨g, 0, none⟩), .int .i64 (n : Int)] w fun e w' => e = .returned (.int .i64 (p : Int)) ∧ W' = w') := by
  have hrl := rowAt_lt s k hn
  have hsk := skipOf_lt s hn
  have hN := next_row g (rowAt s n k) (skipOf s n) n w (by omega) (by omega) hn hn5 (h.cell 0) (h.cell 1) (h.frozen 0)
  unfold NextPost at hN
  rw [← rowAt_succ] at hN
  exact ⟨_, _, hrl, Lib.hid rfl, Lib.hid rfl, Lib.hid (hN.mono fun e w' ⟨h1, h2⟩ => ⟨h1, h2.symm⟩)⟩
theorem rowOf_op (s : ByteArray) (n : Nat) (hs : s.size ≤ maxLen) (hn : 2 ≤ n) (hn5 : n ≤ 503) : ∃ a b : Nat, Hid (#[Value.int .i64 (a : Int), Value.int .i64 (b : Int)] = rowV s n 0) ∧ ∀ w, Calls Tryd.prog 63 #[.string s, .int .i64 (n : Int)] w fun e w' => e = .returned (.agg #[.int .i64 (a : Int), .int .i64 (b : Int)]) ∧ Below w.heap.size w w' :=
  ⟨_, _, Lib.hid rfl, fun w => rowOf_any s n w hs hn hn5⟩
set_option maxRecDepth 100000 in
set_option maxHeartbeats 2000000 in
theorem row_ok (ea : Nat → Addr) (s : ByteArray) (n : Nat) (w : World) (hs : s.size ≤ maxLen) (hE : ErrsT ea w) (hN : isName s = true) (hf : sizeFault (n : Int) = none) (hn : 2 ≤ n) (hn5 : n ≤ 503) :
    Calls Tryd.prog 17 #[.string s, .int .i64 (n : Int)] w (RowGood s n w) := by
  have HName := Lib.hid (name_any s w hs)
  rw [hN] at HName
  unfold NameIs at HName
  have HZ : Hid (∀ W, Below w.heap.size w W → Calls Tryd.prog 62 #[.int .i64 (n : Int)] W fun e w' => e = .returned .nilIface ∧ W = w') := Lib.hid fun W hW => by
    have := size_any ea (n : Int) W (hE.z.below hW)
    unfold SizePost at this
    rw [hf] at this
    exact this
  obtain ⟨a, b, HV, hro⟩ := rowOf_op s n hs hn hn5
  have HRo := Lib.hid hro
  have hmk := make_zeros n (by omega)
  have HG : Hid (∀ g e w', e = .returned (.tuple #[.slice (some ⟨g, 0, none⟩) n n, .nilIface]) → Blk w' g 3 (rowV2 s n n).toArray → w.heap.size ≤ g → Below w.heap.size w w' → RowGood s n w e w') := Lib.hid fun g e w' h1 h2 h3 h4 => ⟨g, h1, by
    have : rowV2 s n n = (List.range n).map fun i => Value.int .i64 (rowAt s n i : Int) := by simp [rowV2]
    rwa [this] at h2, h3, h4⟩
  clear hE hf hro hs hN
  go_enter Tryd.func17, Tryd.ntmps17
  go_wp2_with fail
  refine HName.out.mono ?_
  rintro e w1 ⟨rfl, hb1⟩
  go_wp2_with fail
  refine (HZ.out _ hb1).mono ?_
  rintro e w2 ⟨rfl, rfl⟩
  go_wp2_with fail
  refine (HRo.out _).mono ?_
  rintro e w2 ⟨rfl, hb2⟩
  have hbR := below_two hb1 hb2
  go_wp2_with fail
  have hR0 : Blk (w2.alloc (.cells #[.int .i64 (a : Int), .int .i64 (b : Int)] 92)) w2.heap.size 92 (rowV s n 0) := by rw [← HV.out]; exact Blk.new _ _ _
  have hb3 := hbR.alloc hbR.size (.cells #[.int .i64 (a : Int), .int .i64 (b : Int)] 92)
  have e3 : (w2.alloc (.cells #[.int .i64 (a : Int), .int .i64 (b : Int)] 92)).heap.size = w2.heap.size + 1 := by simp
  have hO0 : Blk ((w2.alloc (.cells #[.int .i64 (a : Int), .int .i64 (b : Int)] 92)).alloc (.cells (negV 0 n).toArray 3)) (w2.heap.size + 1) 3 (rowV2 s n 0).toArray := by
    have h := Blk.new (w2.alloc (.cells #[.int .i64 (a : Int), .int .i64 (b : Int)] 92)) 3 (negV 0 n).toArray
    rw [e3] at h
    have e : negV 0 n = rowV2 s n 0 := by simp [negV, rowV2]
    rwa [e] at h
  have hb4 : Below w2.heap.size w2 ((w2.alloc (.cells #[.int .i64 (a : Int), .int .i64 (b : Int)] 92)).alloc (.cells (negV 0 n).toArray 3)) := ((Below.refl _ _).alloc (Nat.le_refl _) _).alloc (by simp) _
  have HR0 := Lib.hid (hR0.alloc (.cells (negV 0 n).toArray 3))
  have HO0 := Lib.hid hO0
  have HB4 := Lib.hid hb4
  clear hR0 hO0 hb4 e3 hb3 hmk
  go_loopg [26] n (fun g iv wr => ∃ k : Nat, g + k = n ∧ iv = .int .i64 (k : Int) ∧ Hid (Blk wr w2.heap.size 92 (rowV s n k)) ∧ Hid (Blk wr (w2.heap.size + 1) 3 (rowV2 s n k).toArray) ∧ Below w2.heap.size w2 wr)
  case atStart => exact ⟨0, by omega, rfl, HR0, HO0, HB4.out⟩
  case round =>
    obtain ⟨k, hgk, rfl, hR, hO, hb⟩ := hrel
    by_cases hlt : k < n
    · have hlt2 : (k : Int) < n := by omega
      obtain ⟨p, W', hp, hpe, hW, HN⟩ := row_next hR.out hn hn5
      have hR2 : Hid (Blk W' w2.heap.size 92 (rowV s n (k + 1))) := Lib.hid (by
        rw [hW.out]
        have := (hR.out.set_ 0 (.int .i64 (rowAt s n (k + 1) : Int))).drew
        simpa [rowV] using this)
      have hO2 : Blk W' (w2.heap.size + 1) 3 (rowV2 s n k).toArray := by
        rw [hW.out]
        exact (hO.out.far (by show w2.heap.size + 1 ≠ w2.heap.size; omega) _).drew
      have hbW : Below w2.heap.size w2 W' := by
        rw [hW.out]
        exact below_drew (hb.setCell (p := ⟨w2.heap.size, 0, none⟩) (Nat.le_refl _) _)
      have hzl := rowV2_length (s := s) (Nat.le_of_lt hlt)
      obtain ⟨old, hold⟩ : ∃ old, W'.cell? ⟨w2.heap.size + 1, k, none⟩ = some old := ⟨(rowV2 s n k)[k]'(by omega), by
        rw [hO2.cell k]
        simp [hzl, hlt]⟩
      have hfz := hO2.frozen k
      have HO3 : Hid (Blk (W'.setCell ⟨w2.heap.size + 1, k, none⟩ (.int .i64 (p : Int))) (w2.heap.size + 1) 3 (rowV2 s n (k + 1)).toArray) := Lib.hid (by
        have := hO2.set_ k (.int .i64 (rowAt s n k : Int))
        rw [rowV2_set hlt] at this
        rwa [← hpe.out] at this)
      have HR3 : Hid (Blk (W'.setCell ⟨w2.heap.size + 1, k, none⟩ (.int .i64 (p : Int))) w2.heap.size 92 (rowV s n (k + 1))) := Lib.hid (hR2.out.far (by show w2.heap.size ≠ w2.heap.size + 1; omega) _)
      have hb3 := hbW.setCell (p := ⟨w2.heap.size + 1, k, none⟩) (by show w2.heap.size ≤ w2.heap.size + 1; omega) (.int .i64 (p : Int))
      clear hO2 hbW hzl hb hR hO
      go_wp2_with fail
      refine HN.out.mono ?_
      rintro e w9 ⟨rfl, rfl⟩
      go_wp2_with fail
      go_roundg (n - (k + 1))
      case rel => exact ⟨k + 1, by omega, by go_num, HR3, HO3, hb3⟩
      case measure => omega
    · obtain rfl : k = n := by omega
      have hge : ¬ (k : Int) < k := by omega
      have HF := Lib.hid (HG.out _ _ wr rfl hO.out (by have := hbR.size; omega) (below_two hbR hb))
      clear hb hR hO
      go_wp2
      go_ret2
      exact HF.out
set_option maxRecDepth 100000 in
set_option maxHeartbeats 1000000 in
theorem row_bad (ea : Nat → Addr) (s : ByteArray) (n : Int) (f : Flt) (w : World) (hs : s.size ≤ maxLen) (hE : ErrsT ea w) (hf : rowFault s n = some f) :
    Calls Tryd.prog 17 #[.string s, .int .i64 n] w (SortedBad ea f w) := by
  have HName := Lib.hid (name_any s w hs)
  unfold NameIs at HName
  unfold rowFault at hf
  have HE := Lib.hid hE
  cases hN : isName s with
  | false =>
    rw [hN] at hf HName
    rw [if_neg (by decide)] at hf
    obtain rfl := Option.some.inj hf
    clear hE hf hs hN
    go_enter Tryd.func17, Tryd.ntmps17
    go_wp2_with fail
    refine HName.out.mono ?_
    rintro e w1 ⟨rfl, hb1⟩
    have c4 := (HE.out.below hb1).e3.c4
    dsimp only [gv] at c4
    go_wp2
    go_quiet (fail)
    go_wp2
    go_ret2
    exact ⟨_, _, rfl, ⟨rfl, rfl⟩, below_drewN hb1 _⟩
  | true =>
    rw [hN] at hf HName
    rw [if_pos rfl] at hf
    have hpl : f.place = none := by
      unfold sizeFault at hf
      split at hf
      · obtain rfl := Option.some.inj hf; rfl
      · split at hf
        · cases hf
        · obtain rfl := Option.some.inj hf; rfl
    have HZ : Hid (∀ W, Below w.heap.size w W → Calls Tryd.prog 62 #[.int .i64 n] W fun e w' => e = .returned (.iface 206 (.pointer (some (ea (gv f.code))))) ∧ W = w') := Lib.hid fun W hW => by
      have := size_any ea n W (HE.out.z.below hW)
      unfold SizePost at this
      rw [hf] at this
      exact this
    have HX : Hid (∀ W, IsErr ea W f 206 (ea (gv f.code))) := Lib.hid fun W => by unfold IsErr; rw [hpl]; exact ⟨rfl, rfl⟩
    generalize ea (gv f.code) = ad at *
    clear hE hf hs hN
    go_enter Tryd.func17, Tryd.ntmps17
    go_wp2_with fail
    refine HName.out.mono ?_
    rintro e w1 ⟨rfl, hb1⟩
    go_wp2_with fail
    refine (HZ.out _ hb1).mono ?_
    rintro e w2 ⟨rfl, rfl⟩
    go_wp2
    go_ret2
    exact ⟨_, _, rfl, HX.out _, hb1⟩
end Go.Proofs.YtbbbnnooaaelmaaDoor
