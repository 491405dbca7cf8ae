/-
  Health in memory, and the walks of package health: find.
-/
import Derived.Test.YtnmkdmehljkedaaGreatDoorCheck
import Derived.Lib.SmallJoins
namespace Go.Proofs.YtnmkdmehljkedaaGreatDoor
open Go.RowKit

/-- One host's state. -/
structure St where
  host : ByteArray
  up : Bool
  looks : Nat

def ptr (b : Nat) : Value := .pointer (some ⟨b, 0, none⟩)
def stCells (s : St) : Array Value := #[.string s.host, .bool s.up, .int .i64 (s.looks : Int)]

/-- Health in memory: its block hp, the slice sv of pointers ps to the states' blocks. -/
structure HealthR (w : World) (B hp : Nat) (fall rise : Nat) (st : List St) (sv : Value) (ps : List Nat) : Prop where
  blk : Blk w hp 60 #[.int .i64 (fall : Int), .int .i64 (rise : Int), sv]
  own : w.ownsRow B 61 1 sv st.length (ps.map ptr)
  len : ps.length = st.length
  at_ : ∀ (i p : Nat) (s : St), ps[i]? = some p → st[i]? = some s → Blk w p 63 (stCells s)
  nodup : ps.Nodup
  base : B ≤ hp ∧ ∀ p ∈ ps, B ≤ p

theorem HealthR.lt {w : World} {B hp fall rise : Nat} {st : List St} {sv : Value} {ps : List Nat} (h : HealthR w B hp fall rise st sv ps) : ∀ p ∈ ps, p < w.heap.size := by
  intro p hp
  obtain ⟨i, hi, rfl⟩ := List.mem_iff_getElem.1 hp
  have hi2 : i < st.length := by rw [← h.len]; exact hi
  exact (h.at_ i ps[i] st[i] (List.getElem?_eq_getElem hi) (List.getElem?_eq_getElem hi2)).lt
theorem HealthR.below {w w' : World} {B hp fall rise : Nat} {st : List St} {sv : Value} {ps : List Nat} (h : HealthR w B hp fall rise st sv ps) (hb : Below w.heap.size w w') : HealthR w' B hp fall rise st sv ps :=
  ⟨h.blk.below hb h.blk.lt, own_below h.own hb, h.len, fun i p s h1 h2 => (h.at_ i p s h1 h2).below hb (h.lt p (List.mem_of_getElem? h1)), h.nodup, h.base⟩
theorem HealthR.drewN {w : World} {B hp fall rise : Nat} {st : List St} {sv : Value} {ps : List Nat} (h : HealthR w B hp fall rise st sv ps) (m : Nat) : HealthR (w.drewN m) B hp fall rise st sv ps := h.below (below_drewN (Below.refl _ _) m)

def hosts (st : List St) : List ByteArray := st.map (·.host)

/-- Where the closure of find stands. -/
theorem find_one (p b : Nat) (s : St) (x : ByteArray) (w : World) (h : Blk w p 63 (stCells s)) (hx : w.cell? ⟨b, 0, none⟩ = some (.string x)) :
    Calls Tryz.prog 48 #[ptr p, ptr b] w fun e w' => e = .returned (.bool (decide (s.host = x))) ∧ ∃ m, w' = w.drewN m := by
  have hc : w.cell? ⟨p, 0, none⟩ = some (.string s.host) := h.cell 0
  unfold ptr
  clear h
  have HE := Lib.hid (str_eq s.host x)
  go_enter Tryz.func48, Tryz.ntmps48
  go_wp2
  go_quiet (fail)
  go_wp2
  go_ret
  exact ⟨ret_bool HE.out, _, rfl⟩

theorem ptr_at {w : World} {B : Nat} {A : Option Addr} {ps : List Nat} {k : Nat} (h : Reads w B 1 A ps.length (ps.map ptr)) (hk : k < ps.length) :
    ∃ ad, A = some ad ∧ w.cell? (ad.add k) = some (.pointer (some ⟨ps[k], 0, none⟩)) := by
  obtain ⟨ad, u, hA, _, hx, hc⟩ := h.at_ hk
  refine ⟨ad, hA, ?_⟩
  rw [hc]
  simp [hk, ptr] at hx
  rw [hx]
theorem hosts_get {st : List St} {k : Nat} (hk : k < st.length) : (hosts st)[k]'(by simpa [hosts] using hk) = st[k].host := by simp [hosts]

def IdxQuiet (i : Int) (w : World) (e : Ending) (w' : World) : Prop := e = .returned (.int .i64 i) ∧ ∃ m, w' = w.drewN m
set_option maxHeartbeats 1000000 in
theorem index_states (A : Option Addr) (c B b : Nat) (ps : List Nat) (st : List St) (x : ByteArray) (w : World) (hr : Reads w B 1 A ps.length (ps.map ptr)) (hl : ps.length ≤ maxLen) (hlen : ps.length = st.length)
    (hat : ∀ (i p : Nat) (s : St), ps[i]? = some p → st[i]? = some s → Blk w p 63 (stCells s)) (hx : w.cell? ⟨b, 0, none⟩ = some (.string x)) :
    Calls Tryz.prog 47 #[.slice A ps.length c, .func (.func 48) #[] #[ptr b]] w (IdxQuiet (idx (hosts st) x) w) := by
  unfold maxLen at hl
  have HL := Lib.hid hlen
  have HAT := Lib.hid hat
  have HX := Lib.hid hx
  clear hlen hat hx
  go_enter Tryz.func47, Tryz.ntmps47
  go_wp2_with fail
  go_loopw [5, 8] (fun _ iv wr => ∃ k m : Nat, k ≤ ps.length ∧ iv = .int .i64 (k : Int) ∧ wr = w.drewN m ∧ Hid (∀ t ∈ (hosts st).take k, x ≠ t)) (fun _ iv _ => ps.length - (intOf iv).toNat)
  case atStart => exact ⟨0, 0, Nat.zero_le _, rfl, rfl, Lib.hid (by simp)⟩
  case round =>
    obtain ⟨k, m, hk, rfl, rfl, ht⟩ := hrel
    by_cases hlt : k < ps.length
    · obtain ⟨ad, rfl, hc⟩ := ptr_at hr hlt
      have hlt2 : (k : Int) < ps.length := by omega
      have hks : k < st.length := by rw [← HL.out]; exact hlt
      have hkh : k < (hosts st).length := by simpa [hosts] using hks
      have HO : Hid (∀ W, (∃ n, W = w.drewN n) → Calls Tryz.prog 48 #[.pointer (some ⟨ps[k], 0, none⟩), ptr b] W fun e w' => e = .returned (.bool (decide (st[k].host = x))) ∧ ∃ m, w' = W.drewN m) :=
        Lib.hid fun W hW => by
          obtain ⟨n, rfl⟩ := hW
          exact find_one ps[k] b st[k] x _ ((HAT.out k ps[k] st[k] (List.getElem?_eq_getElem hlt) (List.getElem?_eq_getElem hks)).drewN n) HX.out
      by_cases he : st[k].host = x
      · have hB : decide (st[k].host = x) = true := by simpa using he
        rw [hB] at HO
        have HE : Hid (x = (hosts st)[k]) := Lib.hid (by rw [hosts_get hks]; exact he.symm)
        clear he hB
        go_wp2_with (go_at_call 48; refine (HO.out _ ⟨_, rfl⟩).mono ?_; rintro e w1 ⟨rfl, m1, rfl⟩)
        go_ret
        exact ⟨by rw [idx_hit hkh ht.out HE.out]; rfl, _, rfl⟩
      · have hB : decide (st[k].host = x) = false := by simpa using he
        rw [hB] at HO
        have HE : Hid (x ≠ (hosts st)[k]) := Lib.hid (by rw [hosts_get hks]; exact fun h => he h.symm)
        clear he hB
        go_wp2_with (go_at_call 48; refine (HO.out _ ⟨_, rfl⟩).mono ?_; rintro e w1 ⟨rfl, m1, rfl⟩)
        go_roundw
        case rel => exact ⟨k + 1, _, by omega, by go_num, rfl, take_miss hkh ht HE.out⟩
        case measure => simp [intOf]; omega
    · have hge : (ps.length : Int) ≤ k := by omega
      have hgeh : (hosts st).length ≤ k := by simp [hosts]; rw [← HL.out]; omega
      go_wp2
      go_ret
      exact ⟨by rw [idx_miss (all_miss hgeh ht)]; rfl, m, rfl⟩

def IdxBelow (i : Int) (w : World) (e : Ending) (w' : World) : Prop := e = .returned (.int .i64 i) ∧ Below w.heap.size w w'
theorem find_any {B hp fall rise : Nat} {st : List St} {sv : Value} {ps : List Nat} (x : ByteArray) (w : World) (h : HealthR w B hp fall rise st sv ps) :
    Calls Tryz.prog 30 #[ptr hp, .string x] w (IdxBelow (idx (hosts st) x) w) := by
  have h1 := h.below ((Below.refl w.heap.size w).alloc (Nat.le_refl _) (.cells #[.string x] 9))
  obtain ⟨A, cap, hsv, hr, _, hm⟩ := own_slice h1.own
  subst hsv
  have hpl := h.blk.lt
  have hc : w.cell? ⟨hp, 2, none⟩ = some (.slice A st.length cap) := h.blk.cell 2
  rw [← h1.len] at hr hm
  have HI := Lib.hid (index_states _ cap _ w.heap.size ps st x (w.alloc (.cells #[.string x] 9)) hr hm h1.len h1.at_ (by simp))
  rw [h1.len] at HI
  unfold ptr at HI ⊢
  generalize idx (hosts st) x = i at *
  clear h h1 hr hm
  go_enter Tryz.func30, Tryz.ntmps30
  go_wp2_with (go_at_call 47; refine HI.out.mono ?_; rintro e w1 ⟨rfl, m, rfl⟩)
  go_ret
  exact ⟨rfl, below_drewN ((Below.refl _ _).alloc (Nat.le_refl _) _) _⟩
end Go.Proofs.YtnmkdmehljkedaaGreatDoor
