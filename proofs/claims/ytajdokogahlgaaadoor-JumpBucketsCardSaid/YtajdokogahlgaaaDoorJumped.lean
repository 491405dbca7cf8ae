/-
  jumped, and words for lists of numbers in memory.
-/
import Derived.Test.YtajdokogahlgaaaDoorJump
import Derived.Test.YtajdokogahlgaaaDoorSame
namespace Go.Proofs.YtajdokogahlgaaaDoor
open Go.RowKit

theorem B_one (key : Nat) : Jp.B key 1 = 0 := by have := Jp.B_lt (key := key) (n := 1) (by omega); omega

theorem jumped_any (w : World) : Calls Tryd.prog 9 #[] w (True1 w) := by
  have H : ∀ W : World, Hid (Calls Tryd.prog 12 #[.int .u64 7, .int .i64 1] W fun e w' => e = .returned (.tuple #[.int .i64 0, .nilIface]) ∧ Below W.heap.size W w') := fun W =>
    Lib.hid ((bucket_ok 7 1 W (by unfold U64; omega) (by omega) (by omega)).mono fun e w' h => ⟨by rw [h.1, B_one]; rfl, h.2⟩)
  go_enter Tryd.func9, Tryd.ntmps9
  go_wp2_with (go_at_call 12; refine (H _).out.mono ?_; rintro e w1 ⟨rfl, hb⟩)
  go_ret
  exact ⟨rfl, hb⟩

theorem Listed.after {w w' w2 : World} {l : List Nat} {v : Value} (h : Listed w l v w') (hb : Below w'.heap.size w' w2) : w2.ownsRow w.heap.size 3 1 v l.length (ints l) := own_below h.1 hb
theorem cell_of_own {w2 : World} {b g cap : Nat} {l : List Nat} (h : w2.ownsRow b 3 1 (.slice (some ⟨g, 0, none⟩) l.length cap) l.length (ints l)) {j x : Nat} (hx : l[j]? = some x) :
    w2.cell? ⟨g, j, none⟩ = some (.int .i64 (x : Int)) := by
  have := h.cells (g := g) rfl j (.int .i64 (x : Int)) (by simp [ints, hx])
  by_cases h0 : j = 0
  · subst h0; simpa [Addr.add] using this
  · simpa [Addr.add, h0] using this
theorem reads_pre {w2 : World} {b g : Nat} {p q : List Nat} (h : Reads w2 b 1 (some ⟨g, 0, none⟩) p.length (ints p)) (hle : q.length ≤ p.length) (hpre : ∀ i u : Nat, q[i]? = some u → p[i]? = some u) :
    Reads w2 b 1 (some ⟨g, 0, none⟩) q.length (ints q) := by
  refine ⟨by simp [ints], fun hn => ?_⟩
  obtain ⟨ad, e, hb, hc⟩ := h.2 (by omega)
  refine ⟨ad, e, hb, fun j u hu => hc j u ?_⟩
  unfold ints at hu ⊢
  rw [List.getElem?_map] at hu ⊢
  cases hq : q[j]? with
  | none => rw [hq] at hu; cases hu
  | some x => rw [hq] at hu; rw [hpre j x hq]; exact hu
theorem ints_ints (l : List Nat) : (l.map fun x : Nat => (x : Int)).map intV = ints l := by simp [ints, intV]
theorem sameNats_yes (A B : Option Addr) (ca cb Bd : Nat) (xs : List Nat) (w W : World) (ha : Reads w Bd 1 A xs.length (ints xs)) (hb : Reads w Bd 1 B xs.length (ints xs)) (hl : xs.length ≤ maxLen) (hW : ∃ m, W = w.drewN m) :
    Calls Tryd.prog 16 #[.slice A xs.length ca, .slice B xs.length cb] W fun e w' => e = .returned (.bool true) ∧ ∃ m, w' = W.drewN m := by
  obtain ⟨m, rfl⟩ := hW
  have h := sameInts A B ca cb Bd (xs.map fun x : Nat => (x : Int)) (xs.map fun x : Nat => (x : Int)) (w.drewN m) (by rw [ints_ints, List.length_map]; exact ha.drewN m) (by rw [ints_ints, List.length_map]; exact hb.drewN m) (by simpa using hl) (by simpa using hl)
  rw [List.length_map] at h
  exact h.mono fun e w' h => ⟨by rw [h.1]; simp, h.2⟩
theorem own_cap {w2 : World} {b g n cap : Nat} {e : TypeId} {xs : List Value} (h : w2.ownsRow b e 1 (.slice (some ⟨g, 0, none⟩) n cap) n xs) : n ≤ cap := by
  rcases h.2 with ⟨h, _⟩ | ⟨g', cap', cur, he, _, _, hnc, _⟩
  · cases h
  · injection he with _ _ hcap; subst hcap; exact hnc
theorem reads_blk {w : World} {g : Nat} {t : TypeId} {cs : Array Value} (h : Blk w g t cs) : Reads w (g + 1) 1 (some ⟨g, 0, none⟩) cs.size cs.toList := by
  refine ⟨by simp, fun _ => ⟨_, rfl, by simp, fun j u hu => ?_⟩⟩
  have e : ((⟨g, 0, none⟩ : Addr).add j) = ⟨g, j, none⟩ := by
    by_cases h0 : j = 0
    · subst h0; rfl
    · simp [Addr.add, h0]
  rw [e, h.cell j]
  simpa using hu
end Go.Proofs.YtajdokogahlgaaaDoor
