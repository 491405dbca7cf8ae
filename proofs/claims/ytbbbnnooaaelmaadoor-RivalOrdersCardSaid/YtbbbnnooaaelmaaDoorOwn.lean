/-
  The walks of OwnKeys and OwnTexts: a list in memory of its own.
-/
import Derived.Test.YtbbbnnooaaelmaaDoorLists
namespace Go.Proofs.YtbbbnnooaaelmaaDoor
open Go.RowKit

def keysV (l : List Nat) : List Value := l.map fun n : Nat => Value.int .u64 (n : Int)
theorem info_u64 : (Tryd.prog.info? 35).map (fun i => (i.zero, i.size, i.bytes)) = some (some (.int .u64 0), 1, 8) := by kernel_rfl
def OwnPost (E : TypeId) (n : Nat) (xs : List Value) (w : World) (e : Ending) (w' : World) : Prop :=
  ∃ A cap, e = .returned (.slice A n cap) ∧ w'.ownsRow w.heap.size E 1 (.slice A n cap) n xs ∧ Below w.heap.size w w'
theorem ownPost_of {E : TypeId} {n : Nat} {xs : List Value} {w w' : World} {v : Value} (h : w'.ownsRow w.heap.size E 1 v n xs) (hb : Below w.heap.size w w') : OwnPost E n xs w (.returned v) w' := by
  obtain ⟨A, cap, rfl, _⟩ := own_slice h
  exact ⟨A, cap, rfl, h, hb⟩
theorem own_none (w : World) (b : Nat) (E : TypeId) : w.ownsRow b E 1 (.slice none 0 0) 0 [] := ⟨rfl, .inl ⟨rfl, rfl⟩⟩

theorem keys_list : ∀ (l : List Int), (∀ n ∈ l, (Lit.int .u64 n).wf = true) → ∃ l' : List Nat, l = l'.map (fun n : Nat => (n : Int)) ∧ ∀ k ∈ l', U64 k
  | [], _ => ⟨[], rfl, fun _ h => by cases h⟩
  | n :: l, h => by
      obtain ⟨k, hk, hu⟩ := u64_of_wf (h n (List.mem_cons_self))
      obtain ⟨l', hl, hu'⟩ := keys_list l fun m hm => h m (List.mem_cons_of_mem _ hm)
      refine ⟨k :: l', by rw [hl, hk]; rfl, fun m hm => ?_⟩
      rcases List.mem_cons.1 hm with rfl | hm
      · exact hu
      · exact hu' m hm
theorem keys_arg {W : World} {B : Nat} {A : Option Addr} {l : List Int} (R : Reads W B 1 A l.length (l.map (Value.int .u64))) (wf : ∀ n ∈ l, (Lit.int .u64 n).wf = true) :
    ∃ l' : List Nat, l.length = l'.length ∧ Reads W B 1 A l'.length (keysV l') ∧ ∀ k ∈ l', U64 k := by
  obtain ⟨l', rfl, hu⟩ := keys_list l wf
  refine ⟨l', by simp, ?_, hu⟩
  rw [List.map_map, List.length_map] at R
  exact R

theorem ownKeys_any (A : Option Addr) (n c B : Nat) (xs : List Value) (w : World) (hr : Reads w B 1 A n xs) (h1 : ∀ u ∈ xs, u.oneCell' = true) (hn : n ≤ 1000) :
    Calls Tryd.prog 42 #[.slice A n c] w (OwnPost 35 n xs w) := by
  obtain ⟨i0, hi, hz0, hz1, hz2⟩ := info_parts info_u64
  go_enter Tryd.func42, Tryd.ntmps42
  go_wp2_with (at_builtin
               refine wpList_append_any _ rfl (.tmp 4) (.tmp 5) _ rfl w.heap.size 35 i0 _ 1 8 Tryd.underlying53 hi hz0 hz1 hz2 rfl (by omega) (.slice none 0 0) 0 [] rfl (own_none _ _ _) B A n c xs rfl hr h1 (by simp only [maxLen]; omega) (by omega) (Nat.le_refl _) ?_
               intro v1 w1 hown1 hg1 _)
  go_ret
  exact ownPost_of (by simpa using hown1) ((Below.refl _ _).grown hg1 (Nat.le_refl _) (by simp [Value.ownBlock]))
theorem ownTexts_any (A : Option Addr) (n c B : Nat) (xs : List Value) (w : World) (hr : Reads w B 1 A n xs) (h1 : ∀ u ∈ xs, u.oneCell' = true) (hn : n ≤ 1000) :
    Calls Tryd.prog 15 #[.slice A n c] w (OwnPost 9 n xs w) := by
  obtain ⟨i0, hi, hz0, hz1, hz2⟩ := info_parts info_string
  go_enter Tryd.func15, Tryd.ntmps15
  go_wp2_with (at_builtin
               refine wpList_append_any _ rfl (.tmp 4) (.tmp 5) _ rfl w.heap.size 9 i0 _ 1 16 Tryd.underlying22 hi hz0 hz1 hz2 rfl (by omega) (.slice none 0 0) 0 [] rfl (own_none _ _ _) B A n c xs rfl hr h1 (by simp only [maxLen]; omega) (by omega) (Nat.le_refl _) ?_
               intro v1 w1 hown1 hg1 _)
  go_ret
  exact ownPost_of (by simpa using hown1) ((Below.refl _ _).grown hg1 (Nat.le_refl _) (by simp [Value.ownBlock]))
end Go.Proofs.YtbbbnnooaaelmaaDoor
