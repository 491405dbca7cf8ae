/-
  The walk of SameFlows at equal flows.
-/
import Derived.Test.YteilefpjfbholaaGreatDoorFlowPlain
import Derived.Laws.StructEq
namespace Go.Proofs.YteilefpjfbholaaGreatDoor
open Go.RowKit

def YesFl (w : World) (e : Ending) (w' : World) : Prop := e = .returned (.bool true) ∧ ∃ m, w' = w.drewN m
set_option maxRecDepth 100000 in
set_option maxHeartbeats 2000000 in
theorem sameFlows_yes (A C : Option Addr) (ca cb B B' : Nat) (L : List Fl) (w : World) (ha : Reads w B 3 A L.length (flsC L)) (hb : Reads w B' 3 C L.length (flsC L)) (hA : 0 < L.length → ∃ g, A = some ⟨g, 0, none⟩) (hC : 0 < L.length → ∃ g, C = some ⟨g, 0, none⟩) (hl : L.length ≤ 1000) :
    Calls Tryz.prog 16 #[.slice A L.length ca, .slice C L.length cb] w (YesFl w) := by
  have HR1 := Lib.hid ha
  have HR2 := Lib.hid hb
  have HA := Lib.hid hA
  have HC := Lib.hid hC
  clear ha hb hA hC
  go_enter Tryz.func16, Tryz.ntmps16
  go_wp2
  go_loopw [5] (fun iv wr => ∃ k m : Nat, k ≤ L.length ∧ iv = .int .i64 (k : Int) ∧ wr = w.drewN m) (fun iv _ => L.length - (intOf iv).toNat)
  case atStart => exact ⟨0, 0, Nat.zero_le _, rfl, rfl⟩
  case round =>
    obtain ⟨k, m, hk, rfl, rfl⟩ := hrel
    by_cases hlt : k < L.length
    · obtain ⟨g, rfl⟩ := HA.out (by omega)
      obtain ⟨g2, rfl⟩ := HC.out (by omega)
      obtain ⟨a0, a1, a2⟩ := cells3_reads HR1.out hlt
      obtain ⟨b0, b1, b2⟩ := cells3_reads HR2.out hlt
      have hlt2 : (k : Int) < L.length := by omega
      generalize L[k].key = x0 at *
      generalize L[k].host = x1 at *
      generalize L[k].til = x2 at *
      go_wp2
      go_quiet (fail)
      go_wp2
      go_roundw
      case rel => exact ⟨k + 1, _, by omega, by go_num, rfl⟩
      case measure => simp [intOf]; omega
    · have hge : ¬ (k : Int) < L.length := by omega
      go_wp2
      go_ret
      exact ⟨rfl, _, rfl⟩
end Go.Proofs.YteilefpjfbholaaGreatDoor
