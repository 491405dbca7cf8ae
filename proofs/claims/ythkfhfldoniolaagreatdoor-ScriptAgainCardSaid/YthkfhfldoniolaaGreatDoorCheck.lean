/-
  The walk of mix.Check.
-/
import Derived.Test.YthkfhfldoniolaaGreatDoorLists
namespace Go.Proofs.YthkfhfldoniolaaGreatDoor
open Go.RowKit

def CheckPost (ea : Nat → Addr) (l : List ByteArray) (w : World) (e : Ending) (w' : World) : Prop :=
  match hostsFault l with
  | none => e = .returned .nilIface ∧ Below w.heap.size w w'
  | some f => ErrPost ea f w e w'
theorem checkPost_ok {ea : Nat → Addr} {l : List ByteArray} {w w' : World} (h : hostsFault l = none) (hb : Below w.heap.size w w') : CheckPost ea l w (.returned .nilIface) w' := by
  unfold CheckPost; rw [h]; exact ⟨rfl, hb⟩
theorem checkPost_bad {ea : Nat → Addr} {l : List ByteArray} {w w' : World} {f : Flt} {e : Ending} (h : hostsFault l = some f) (hb : ErrPost ea f w e w') : CheckPost ea l w e w' := by
  unfold CheckPost; rw [h]; exact hb

/-- The errors that a list of hosts can have. -/
structure Errs3 (ea : Nat → Addr) (w : World) : Prop where
  c2 : w.cell? ⟨gv 2, 0, none⟩ = some (.iface 355 (.pointer (some (ea (gv 2)))))
  c4 : w.cell? ⟨gv 4, 0, none⟩ = some (.iface 355 (.pointer (some (ea (gv 4)))))
  c6 : w.cell? ⟨gv 6, 0, none⟩ = some (.iface 355 (.pointer (some (ea (gv 6)))))
theorem Errs3.below {ea : Nat → Addr} {w w' : World} (h : Errs3 ea w) (hb : Below w.heap.size w w') : Errs3 ea w' :=
  ⟨(hb.cell (p := ⟨gv 2, 0, none⟩) (lt_of_cell h.c2)).trans h.c2, (hb.cell (p := ⟨gv 4, 0, none⟩) (lt_of_cell h.c4)).trans h.c4, (hb.cell (p := ⟨gv 6, 0, none⟩) (lt_of_cell h.c6)).trans h.c6⟩
theorem reads_take {w : World} {B n k : Nat} {A : Option Addr} {xs : List Value} (h : Reads w B 1 A n xs) (hk : k ≤ n) : Reads w B 1 A k (xs.take k) := by
  refine ⟨by rw [List.length_take, h.1]; omega, fun h0 => ?_⟩
  obtain ⟨ad, e, hb, hc⟩ := h.2 (by omega)
  refine ⟨ad, e, hb, fun j u hu => hc j u ?_⟩
  rw [List.getElem?_take] at hu
  split at hu
  · exact hu
  · cases hu
theorem strV_take (l : List ByteArray) (k : Nat) : strV (l.take k) = (strV l).take k := by simp [strV, List.map_take]

theorem name_is (s : ByteArray) (hs : s.size ≤ maxLen) (b : Bool) (h : isName s = b) : ∀ w, Calls Tryz.prog 81 #[.string s] w fun e w' => e = .returned (.bool b) ∧ Below w.heap.size w w' := by
  intro w
  have := name_any s w hs
  rw [h] at this
  exact this

theorem check_long (ea : Nat → Addr) (A : Option Addr) (c : Nat) (l : List ByteArray) (w : World) (hE : Errs3 ea w) (hl : l.length ≤ maxLen) (h : 12 < l.length) :
    Calls Tryz.prog 137 #[.slice A l.length c] w (CheckPost ea l w) := by
  unfold maxLen at hl
  have hf : Hid (hostsFault l = some ⟨2, none⟩) := Lib.hid (by unfold hostsFault; rw [if_pos h])
  have e1 : decide ((l.length : Int) > 12) = true := by simp; omega
  have hc := hE.c2
  dsimp only [gv] at hc
  go_enter Tryz.func137, Tryz.ntmps137
  go_wp2
  go_ret
  exact checkPost_bad hf.out ⟨_, _, rfl, ⟨rfl, rfl⟩, Below.refl _ _⟩

set_option maxHeartbeats 2000000 in
theorem check_short (ea : Nat → Addr) (A : Option Addr) (c B : Nat) (l : List ByteArray) (w : World) (hE : Errs3 ea w) (hr : Reads w B 1 A l.length (strV l)) (hB : B ≤ w.heap.size) (hlc : l.length ≤ c) (hs : ∀ s ∈ l, s.size ≤ maxLen) (h : l.length ≤ 12) :
    Calls Tryz.prog 137 #[.slice A l.length c] w (CheckPost ea l w) := by
  have hf : Hid (hostsFault l = faultGo l l.length 0) := Lib.hid (by unfold hostsFault; rw [if_neg (by omega)])
  have e1 : decide ((l.length : Int) > 12) = false := by simp; omega
  go_enter Tryz.func137, Tryz.ntmps137
  go_wp2_with fail
  go_loopw [3, 4, 11] (fun _ _ kv wr => ∃ k : Nat, k ≤ l.length ∧ kv = .int .i64 (k : Int) ∧ Hid (faultGo l (l.length - k) k = faultGo l l.length 0) ∧ Below w.heap.size w wr) (fun _ _ kv _ => l.length - (intOf kv).toNat)
  case atStart => exact ⟨0, Nat.zero_le _, rfl, Lib.hid rfl, Below.refl _ _⟩
  case round =>
    obtain ⟨k, hk, rfl, ht, hb⟩ := hrel
    by_cases hlt : k < l.length
    · have hrr : Reads wr B 1 A l.length (strV l) := hr.keep fun p hp => hb.cell (by omega)
      obtain ⟨ad, rfl, hc⟩ := str_at hrr hlt
      have hlt2 : (k : Int) < l.length := by omega
      have hkc : (k : Int) ≤ c := by omega
      have hsz := hs l[k] (List.getElem_mem hlt)
      cases hn : isName l[k] with
      | false =>
        have HN := Lib.hid (name_is _ hsz _ hn)
        have HF := Lib.hid (faultGo_name hlt hn)
        clear hn hsz
        go_wp2_with (go_at_call 81; refine (HN.out _).mono ?_; rintro e w1 ⟨rfl, hb1⟩; have hc4 := (hE.below (below_two hb hb1)).c4; dsimp only [gv] at hc4)
        go_ret
        exact checkPost_bad (hf.out.trans (ht.out.symm.trans HF.out)) ⟨_, _, rfl, ⟨rfl, _, rfl, Blk.new _ _ _⟩, (below_two hb hb1).alloc (below_two hb hb1).size _⟩
      | true =>
        have HN := Lib.hid (name_is _ hsz _ hn)
        have hlen : (l.take k).length = k := by rw [List.length_take]; omega
        have hcon : ∀ W, Below wr.heap.size wr W → Calls Tryz.prog 154 #[.slice (some ad) k c, .string l[k]] W fun e w' => e = .returned (.bool (has (l.take k) l[k])) ∧ W = w' := by
          intro W hW
          have h1 : Reads W B 1 (some ad) (l.take k).length (strV (l.take k)) := by
            rw [hlen, strV_take]
            exact reads_take (hrr.keep fun p hp => hW.cell (by have := hb.size; omega)) hk
          have := contains_strings (some ad) c B (l.take k) l[k] W h1 (by rw [hlen]; unfold maxLen; omega)
          rw [hlen] at this
          exact this
        cases hh : has (l.take k) l[k] with
        | false =>
          rw [hh] at hcon
          have HC := Lib.hid hcon
          have HF := Lib.hid (faultGo_step hlt hn hh)
          clear hcon hlen hn hh hsz
          go_wp2_with (first
            | (go_at_call 81; refine (HN.out _).mono ?_; rintro e w1 ⟨rfl, hb1⟩)
            | (go_at_call 154; refine (HC.out _ hb1).mono ?_; rintro e w2 ⟨rfl, rfl⟩))
          go_roundw
          case rel => exact ⟨k + 1, by omega, by go_num, Lib.hid (HF.out.symm.trans ht.out), below_two hb hb1⟩
          case measure => simp [intOf]; omega
        | true =>
          rw [hh] at hcon
          have HC := Lib.hid hcon
          have HF := Lib.hid (faultGo_exist hlt hn hh)
          clear hcon hlen hn hh hsz
          go_wp2_with (first
            | (go_at_call 81; refine (HN.out _).mono ?_; rintro e w1 ⟨rfl, hb1⟩; have hc6 := (hE.below (below_two hb hb1)).c6; dsimp only [gv] at hc6)
            | (go_at_call 154; refine (HC.out _ hb1).mono ?_; rintro e w2 ⟨rfl, rfl⟩))
          go_ret
          exact checkPost_bad (hf.out.trans (ht.out.symm.trans HF.out)) ⟨_, _, rfl, ⟨rfl, _, rfl, Blk.new _ _ _⟩, (below_two hb hb1).alloc (below_two hb hb1).size _⟩
    · have hge : (l.length : Int) ≤ k := by omega
      have HF := Lib.hid (faultGo_end (l := l) (k := k) (by omega))
      go_wp2
      go_ret
      exact checkPost_ok (hf.out.trans (ht.out.symm.trans HF.out)) hb

theorem check_any (ea : Nat → Addr) (A : Option Addr) (c B : Nat) (l : List ByteArray) (w : World) (hE : Errs3 ea w) (hr : Reads w B 1 A l.length (strV l)) (hB : B ≤ w.heap.size) (hlc : l.length ≤ c) (hl : l.length ≤ maxLen) (hs : ∀ s ∈ l, s.size ≤ maxLen) :
    Calls Tryz.prog 137 #[.slice A l.length c] w (CheckPost ea l w) := by
  by_cases h : 12 < l.length
  · exact check_long ea A c l w hE hl h
  · exact check_short ea A c B l w hE hr hB hlc hs (by omega)
end Go.Proofs.YthkfhfldoniolaaGreatDoor
