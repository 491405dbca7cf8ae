/-
  Looks at a single host; the closed fact 'watched'.
-/
import Derived.Test.YtajdokogahlgaaaDoorUp
namespace Go.Proofs.YtajdokogahlgaaaDoor
open Go.RowKit

theorem idx_one (s : St) : idx (hosts [s]) s.host = ((0 : Nat) : Int) := by simp [idx, hosts]
theorem below_grown {B p : Nat} {w w' : World} (hg : w.grownBy w' (some p)) (hp : B ≤ p) (hB : B ≤ w.heap.size) : Below B w w' := (Below.refl B w).grown hg hB fun k hk => by obtain rfl := Option.some.inj hk; exact hp

def LookOne (B hp fall rise : Nat) (s' : St) (r : Bool) (sv : Value) (ps : List Nat) (w : World) (e : Ending) (w' : World) : Prop :=
  e = .returned (.tuple #[.bool r, .nilIface]) ∧ HealthR w' B hp fall rise [s'] sv ps ∧ Below B w w'
theorem look_one {B hp fall rise : Nat} {s : St} {sv : Value} {ps : List Nat} (x : ByteArray) (well : Bool) (s' : St) (r : Bool) (w : World) (h : HealthR w B hp fall rise [s] sv ps) (hB : B ≤ w.heap.size) (hx : s.host = x) (hr : lookSt fall rise s well = (s', r)) (hl : s.looks < 100) :
    Calls Tryd.prog 29 #[ptr hp, .string x, .bool well] w (LookOne B hp fall rise s' r sv ps w) := by
  subst hx
  obtain ⟨g, cap, p, s0, hS⟩ := h.stAt (k := 0) (by simp)
  have hs : s0 = s := by have := hS.get; simp at this; exact this.symm
  subst hs
  have hc := look_found s0.host well w h (idx_one s0) hS hl
  rw [hr] at hc
  refine hc.mono fun e w' hp' => ⟨hp'.1, ?_, ?_⟩
  · have := hp'.2.1; simpa using this
  · exact below_grown hp'.2.2 (h.base.2 p (List.mem_of_getElem? hS.pget)) hB
theorem is_one {B hp fall rise : Nat} {s : St} {sv : Value} {ps : List Nat} (w : World) (h : HealthR w B hp fall rise [s] sv ps) :
    Calls Tryd.prog 31 #[ptr hp, .string s.host] w fun e w' => e = .returned (.bool s.up) ∧ Below w.heap.size w w' := by
  obtain ⟨g, cap, p, s', hS⟩ := h.stAt (k := 0) (by simp)
  have hs : s' = s := by have := hS.get; simp at this; exact this.symm
  subst hs
  exact is_found s'.host w h (idx_one s') hS

theorem reads_lit (w : World) (l : List ByteArray) (cs : Array Value) (h : cs = (strV l).toArray) : Reads (w.alloc (.cells cs 9)) (w.heap.size + 1) 1 (some ⟨w.heap.size, 0, none⟩) l.length (strV l) := by
  subst h
  refine ⟨by simp [strV], fun _ => ⟨_, rfl, by simp, fun j u hu => ?_⟩⟩
  have hb := Blk.new w 9 (strV l).toArray
  have e : ((⟨w.heap.size, 0, none⟩ : Addr).add j) = ⟨w.heap.size, j, none⟩ := by
    by_cases h0 : j = 0
    · subst h0; rfl
    · simp [Addr.add, h0]
  rw [e, hb.cell j]
  simpa using hu
def New1 (x : ByteArray) (fall rise : Nat) (w : World) (e : Ending) (w' : World) : Prop :=
  ∃ hp sv ps, e = .returned (.tuple #[.pointer (some ⟨hp, 0, none⟩), .nilIface]) ∧ HealthR w' w.heap.size hp fall rise [⟨x, true, 0⟩] sv ps ∧ Below w.heap.size w w'
theorem new_one (ea : Nat → Addr) (x : ByteArray) (fall rise : Nat) (w : World) (hE : Errs3 ea w) (hx : hostsFault [x] = none) (hs : x.size ≤ maxLen) (h1 : 1 ≤ fall) (h2 : fall ≤ 10) (h3 : 1 ≤ rise) (h4 : rise ≤ 10) :
    Calls Tryd.prog 19 #[.slice (some ⟨w.heap.size, 0, none⟩) 1 1, .int .i64 (fall : Int), .int .i64 (rise : Int)] (w.alloc (.cells #[.string x] 9)) (New1 x fall rise (w.alloc (.cells #[.string x] 9))) := by
  have hb : Below w.heap.size w (w.alloc (.cells #[.string x] 9)) := (Below.refl _ _).alloc (Nat.le_refl _) _
  exact new_ok ea (some ⟨w.heap.size, 0, none⟩) 1 (w.heap.size + 1) [x] fall rise _ (hE.below hb) (reads_lit w [x] _ rfl) (by simp) (Nat.le_refl _) (by simp [maxLen]) (by simpa using hs) hx (by simp) h1 h2 h3 h4

abbrev nameA : ByteArray := ⟨#[97]⟩
theorem fault_A : hostsFault [nameA] = none := by decide +kernel

set_option maxRecDepth 100000 in
set_option maxHeartbeats 1000000 in
theorem watched_any (ea : Nat → Addr) (w : World) (hE : Errs3 ea w) : Calls Tryd.prog 17 #[] w (True1 w) := by
  have HN := Lib.hid (new_one ea nameA 2 1 w hE fault_A (by decide) (by omega) (by omega) (by omega) (by omega))
  clear hE
  go_enter Tryd.func17, Tryd.ntmps17
  go_wp2_with fail
  refine HN.out.mono ?_
  rintro e w1 ⟨hp, sv, ps, rfl, hH, hb⟩
  have HH := Lib.hid hH
  clear hH
  go_wp2_with fail
  refine (look_one nameA false ⟨nameA, true, 1⟩ false _ HH.out hb.size rfl rfl (by decide)).mono ?_
  rintro e w2 ⟨rfl, hH2, hb2⟩
  have HH2 := Lib.hid hH2
  have HB2 := Lib.hid (hb.trans hb2)
  clear hH2 HH hb2
  go_wp2_with fail
  refine (look_one nameA false ⟨nameA, false, 0⟩ true _ HH2.out HB2.out.size rfl rfl (by decide)).mono ?_
  rintro e w3 ⟨rfl, hH3, hb3⟩
  have HH3 := Lib.hid hH3
  have HB3 := Lib.hid (HB2.out.trans hb3)
  clear hH3 HH2 hb3 HB2 hb
  go_wp2_with fail
  refine (is_one _ HH3.out).mono ?_
  rintro e w4 ⟨rfl, hb4⟩
  have HH4 := Lib.hid (HH3.out.below hb4)
  have HB4 := Lib.hid (HB3.out.trans (hb4.mono HB3.out.size))
  clear hb4 HH3 HB3
  go_wp2_with fail
  refine (up_any _ HH4.out (by decide)).mono ?_
  rintro e w5 ⟨A, cap, rfl, _, hb5⟩
  have HB5 := Lib.hid (HB4.out.trans (hb5.mono HB4.out.size))
  clear hb5 HH4 HB4
  go_wp2
  go_ret
  exact ⟨rfl, ((Below.refl _ _).alloc (Nat.le_refl _) _).trans (HB5.out.mono (by simp))⟩
end Go.Proofs.YtajdokogahlgaaaDoor
