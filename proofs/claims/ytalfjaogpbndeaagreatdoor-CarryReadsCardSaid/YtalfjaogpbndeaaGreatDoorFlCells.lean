/-
  The cells of a flow in memory.
-/
import Derived.Test.YtalfjaogpbndeaaGreatDoorFlowPlain
import Derived.Test.YtalfjaogpbndeaaGreatDoorTiny
import Derived.Test.YtalfjaogpbndeaaGreatDoorName
import Derived.Laws.ResultCell
namespace Go.Proofs.YtalfjaogpbndeaaGreatDoor
open Go.RowKit

def flZ : Fl := ⟨0, ⟨#[]⟩, 0⟩
theorem info_flow : (Tryz.prog.info? 45).map (fun i => (i.zero, i.size, i.bytes)) = some (some (flV flZ), 3, 32) := by kernel_rfl
structure Cells3 (w : World) (g i : Nat) (x : Fl) : Prop where
  c0 : w.cell? ⟨g, i, none⟩ = some (.int .u64 (x.key : Int))
  c1 : w.cell? ⟨g, i + 1, none⟩ = some (.string x.host)
  c2 : w.cell? ⟨g, i + 2, none⟩ = some (.int .i64 x.til)
theorem fl_name (s : ByteArray) (hs : s.size ≤ maxLen) (b : Bool) (hb : isName s = b) (w : World) : Calls Tryz.prog 37 #[.string s] w fun e w' => e = .returned (.bool b) ∧ Below w.heap.size w w' := by
  subst hb
  exact name_any s w hs
theorem results_tmp_cell {P : Program} {fn : Func} {q p : Tmp} {ty : TypeId} (h : fn.results = #[.tmp q, .cell p ty]) (tmps : Array Value) (w : World) (g : Nat) (t : TypeId) (cs : Array Value) (fr : Nat × Nat) (d : TypeDesc)
    (hp : tmps.getD p undef = .pointer (some ⟨g, 0, none⟩)) (hg : w.heap[g]? = some (.cells cs t fr))
    (hu : P.underlying ty = some d) (hd : (match d with | .struct _ | .array _ _ => true | _ => false) = true) (hi : (P.info? ty).map (·.size) = some cs.size) :
    (results fn tmps).run P w = .ok (.tuple #[tmps.getD q undef, .agg cs]) w := by
  have hp' : tmps[p]?.getD undef = .pointer (some ⟨g, 0, none⟩) := by simpa using hp
  simp [results, h, hp', asAddr, run_loadVar_row w g t ty cs fr d hg hu hd hi]
theorem add_zero_ (g j : Nat) : (⟨g, 0, none⟩ : Addr).add j = ⟨g, j, none⟩ := by
  by_cases h : j = 0
  · subst h; rfl
  · simp [Addr.add, h]
theorem cells3_reads {w : World} {g B k : Nat} {L : List Fl} (h : Reads w B 3 (some ⟨g, 0, none⟩) L.length (flsC L)) (hk : k < L.length) : Cells3 w g (k * 3) L[k] := by
  obtain ⟨ad, hA, _, hc⟩ := h.2 (by omega)
  cases hA
  obtain ⟨h0, h1, h2⟩ := flsC_get hk
  have e0 := hc _ _ h0
  have e1 := hc _ _ h1
  have e2 := hc _ _ h2
  rw [add_zero_] at e0 e1 e2
  exact ⟨e0, e1, e2⟩
/-- The cells of a flow in a list that lies anywhere. -/
theorem cellsA {w : World} {A : Option Addr} {B k : Nat} {L : List Fl} (h : Reads w B 3 A L.length (flsC L)) (hk : k < L.length) : ∃ ad, A = some ad ∧ w.cell? (ad.add (k * 3)) = some (.int .u64 (L[k].key : Int)) ∧ w.cell? ⟨(ad.add (k * 3)).block, (ad.add (k * 3)).off + 1, none⟩ = some (.string L[k].host) ∧ w.cell? ⟨(ad.add (k * 3)).block, (ad.add (k * 3)).off + 2, none⟩ = some (.int .i64 L[k].til) := by
  obtain ⟨ad, rfl, _, hc⟩ := h.2 (by omega)
  obtain ⟨h0, h1, h2⟩ := flsC_get hk
  have e : ∀ i, 0 < i → ad.add (k * 3 + i) = ⟨(ad.add (k * 3)).block, (ad.add (k * 3)).off + i, none⟩ := fun i hi => by
    rw [← add_of_add]
    conv => lhs; unfold Addr.add
    rw [if_neg (by omega)]
    rfl
  refine ⟨ad, rfl, hc _ _ h0, ?_, ?_⟩
  · rw [← e 1 (by omega)]; exact hc _ _ h1
  · rw [← e 2 (by omega)]; exact hc _ _ h2
end Go.Proofs.YtalfjaogpbndeaaGreatDoor
