/-
  The walk of slices.IndexFunc at flows with Add's closure.
-/
import Derived.Test.YtlgnhifjakkodaaDoorAddOne
import Derived.Test.YtlgnhifjakkodaaDoorRefAdd2
namespace Go.Proofs.YtlgnhifjakkodaaDoor
open Go.RowKit

def badI (xs : List Fl) : Int := match badAt xs with | some i => (i : Int) | none => -1
def IdxBad (xs : List Fl) (w : World) (e : Ending) (w' : World) : Prop := e = .returned (.int .i64 (badI xs)) ∧ Below w.heap.size w w'
set_option maxRecDepth 100000 in
set_option maxHeartbeats 2000000 in
theorem indexFlows_any (A : Option Addr) (cap B : Nat) (xs : List Fl) (w : World) (hx : Reads w B 3 A xs.length (flsC xs)) (hB : B ≤ w.heap.size) (hA : 0 < xs.length → ∃ g, A = some ⟨g, 0, none⟩) (hl : xs.length ≤ 1000) (hs : ∀ x ∈ xs, x.host.size ≤ maxLen) :
    Calls Tryd.prog 39 #[.slice A xs.length cap, .func (.func 40) #[] #[]] w (IdxBad xs w) := by
  have HX := Lib.hid (fun W (hW : Below w.heap.size w W) => hx.below (hW.mono hB))
  have HA := Lib.hid hA
  have HC := Lib.hid (fun x (hx : x ∈ xs) W => addOne_any x W (hs x hx))
  have HH : Hid (∀ i (hi : i < xs.length) W, isName xs[i].host = false → (∀ j (hj : j < xs.length), j < i → isName xs[j].host = true) → Below w.heap.size w W → IdxBad xs w (.returned (.int .i64 (i : Int))) W) := Lib.hid fun i hi W h1 h2 h3 => ⟨by unfold badI; rw [badAt_hit hi h1 h2], h3⟩
  have HM : Hid (∀ W, (∀ j (hj : j < xs.length), isName xs[j].host = true) → Below w.heap.size w W → IdxBad xs w (.returned (.int .i64 (-1))) W) := Lib.hid fun W h2 h3 => ⟨by unfold badI; rw [badAt_none h2], h3⟩
  clear hx hA hs
  go_enter Tryd.func39, Tryd.ntmps39
  go_wp2
  go_loopw [5, 8] (fun _ iv wi => ∃ i : Nat, i ≤ xs.length ∧ iv = .int .i64 (i : Int) ∧ Hid (∀ j (hj : j < xs.length), j < i → isName xs[j].host = true) ∧ Hid (Below w.heap.size w wi)) (fun _ iv _ => xs.length + 1 - (intOf iv).toNat)
  case atStart => exact ⟨0, Nat.zero_le _, rfl, Lib.hid fun j _ h => absurd h (by omega), Lib.hid (Below.refl _ _)⟩
  case round =>
    obtain ⟨i, hi, rfl, hall, hbw⟩ := hrel
    by_cases hil : i < xs.length
    · have hil2 : (i : Int) < xs.length := by omega
      obtain ⟨g, rfl⟩ := HA.out (by omega)
      obtain ⟨a0, a1, a2⟩ := cells3_reads (HX.out _ hbw.out) hil
      have HC1 := Lib.hid (HC.out xs[i] (List.getElem_mem hil) wr)
      unfold flV at HC1
      cases hb : isName xs[i].host with
      | false =>
        rw [hb] at HC1
        have HF := Lib.hid (fun W => HH.out i hil W hb hall.out)
        clear hb
        generalize xs[i].key = x0 at *
        generalize xs[i].host = x1 at *
        generalize xs[i].til = x2 at *
        go_wp2_with fail
        refine HC1.out.mono ?_
        rintro e w1 ⟨rfl, hb1⟩
        have hb2 := hbw.out.trans (hb1.mono hbw.out.size)
        clear hb1
        go_wp2
        go_ret
        exact HF.out _ hb2
      | true =>
        rw [hb] at HC1
        have HA2 : Hid (∀ j (hj : j < xs.length), j < i + 1 → isName xs[j].host = true) := Lib.hid fun j hj h => by
          rcases Nat.lt_succ_iff_lt_or_eq.1 h with h1 | rfl
          · exact hall.out j hj h1
          · exact hb
        clear hb hall
        generalize xs[i].key = x0 at *
        generalize xs[i].host = x1 at *
        generalize xs[i].til = x2 at *
        go_wp2_with fail
        refine HC1.out.mono ?_
        rintro e w1 ⟨rfl, hb1⟩
        have HB2 := Lib.hid (hbw.out.trans (hb1.mono hbw.out.size))
        clear hb1
        go_wp2
        go_roundw
        case rel => exact ⟨i + 1, by omega, by go_num, HA2, HB2⟩
        case measure => simp [intOf]; omega
    · obtain rfl : i = xs.length := by omega
      have hge : ¬ (xs.length : Int) < xs.length := by omega
      have HP := Lib.hid (HM.out wr (fun j hj => hall.out j hj hj) hbw.out)
      clear hall hbw
      go_wp2
      go_ret
      exact HP.out
end Go.Proofs.YtlgnhifjakkodaaDoor
