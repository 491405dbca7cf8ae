/-
  Lists of 64-bit numbers in memory.
-/
import Derived.Test.YtnmkdmehljkedaaGreatDoorBase
namespace Go.Proofs.YtnmkdmehljkedaaGreatDoor
open Go.RowKit

def keysV (l : List Nat) : List Value := l.map fun n : Nat => Value.int .u64 (n : Int)
theorem keys_list : ∀ (l : List Int), (∀ n ∈ l, (Lit.int .u64 n).wf = true) → ∃ l' : List Nat, l = l'.map (fun n : Nat => (n : Int)) ∧ ∀ k ∈ l', U64 k
  | [], _ => ⟨[], rfl, fun _ h => by cases h⟩
  | n :: l, h => by
      obtain ⟨k, hk, hu⟩ := u64_of_wf (h n (List.mem_cons_self))
      obtain ⟨l', hl, hu'⟩ := keys_list l fun m hm => h m (List.mem_cons_of_mem _ hm)
      refine ⟨k :: l', by rw [hl, hk]; rfl, fun m hm => ?_⟩
      rcases List.mem_cons.1 hm with rfl | hm
      · exact hu
      · exact hu' m hm
theorem keys_arg {W : World} {B : Nat} {A : Option Addr} {l : List Int} (R : Reads W B 1 A l.length (l.map (Value.int .u64))) (wf : ∀ n ∈ l, (Lit.int .u64 n).wf = true) :
    ∃ l' : List Nat, l.length = l'.length ∧ Reads W B 1 A l'.length (keysV l') ∧ ∀ k ∈ l', U64 k := by
  obtain ⟨l', rfl, hu⟩ := keys_list l wf
  refine ⟨l', by simp, ?_, hu⟩
  rw [List.map_map, List.length_map] at R
  exact R
def KeyAt2 (ad : Addr) (k x : Nat) (w : World) : Prop := ∀ W, Below w.heap.size w W → W.cell? (ad.add k) = some (.int .u64 (x : Int))
theorem keyAt2_of {w : World} {A : Option Addr} {l : List Nat} {k : Nat} (h : Reads w w.heap.size 1 A l.length (keysV l)) (hk : k < l.length) : ∃ ad, A = some ad ∧ KeyAt2 ad k l[k] w := by
  obtain ⟨ad, u, hA, hb, hx, hc⟩ := h.at_ hk
  refine ⟨ad, hA, fun W hW => ?_⟩
  rw [hW.cell (by rw [block_of_add]; exact hb), hc]
  simp [keysV, hk] at hx
  rw [hx]
end Go.Proofs.YtnmkdmehljkedaaGreatDoor
