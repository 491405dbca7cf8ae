/-
  The law HealthActs: its acts as an argument.
-/
import Derived.Test.YtajdokogahlgaaaDoorArgStructs
import Derived.Test.YtajdokogahlgaaaDoorHealthActsWalk
namespace Go.Proofs.YtajdokogahlgaaaDoor
open Go.ChangeShapes Go.WideShapes Go.Deep Go.RowKit

theorem actsV_get : ∀ (l : List ActV) (j : Nat) (u : Value), (actsV l)[j]? = some u → ∃ k a, l[k]? = some a ∧ ((j = k * 3 ∧ u = .string a.kind) ∨ (j = k * 3 + 1 ∧ u = .string a.host) ∨ (j = k * 3 + 2 ∧ u = .bool a.well))
  | [], _, _, h => by simp [actsV] at h
  | x :: l, 0, u, h => by cases h; exact ⟨0, x, rfl, .inl ⟨rfl, rfl⟩⟩
  | x :: l, 1, u, h => by cases h; exact ⟨0, x, rfl, .inr (.inl ⟨rfl, rfl⟩)⟩
  | x :: l, 2, u, h => by cases h; exact ⟨0, x, rfl, .inr (.inr ⟨rfl, rfl⟩)⟩
  | x :: l, j + 3, u, h => by
      obtain ⟨k, a, hk, h'⟩ := actsV_get l j u h
      rcases h' with ⟨h1, h2⟩ | ⟨h1, h2⟩ | ⟨h1, h2⟩
      · exact ⟨k + 1, a, hk, .inl ⟨by omega, h2⟩⟩
      · exact ⟨k + 1, a, hk, .inr (.inl ⟨by omega, h2⟩)⟩
      · exact ⟨k + 1, a, hk, .inr (.inr ⟨by omega, h2⟩)⟩
theorem actsV_length (l : List ActV) : (actsV l).length = l.length * 3 := by
  induction l with
  | nil => rfl
  | cons x l ih =>
    have : (actsV (x :: l)).length = (actsV l).length + 3 := by simp [actsV]
    rw [this, ih, List.length_cons]; omega
set_option maxRecDepth 100000 in
theorem arg_acts {H : Type} {enc : TypeId × Value → H} {W : World} {base : Nat} {v : Value} {d : DataW H} {p : List MemPlace}
    (hok : Value.okWide Tryd.prog W .any base 40 v) (hj : DataW.Trod enc Tryd.prog W 0 (fun _ => true) true 40 v d p) (hlt : ∀ x ∈ p, x.block < W.heap.size) :
    ∃ (A : Option Addr) (cap : Nat) (l : List ActV), v = .slice A l.length cap ∧ Reads W W.heap.size 3 A l.length (actsV l) ∧ l.length ≤ maxLen ∧ ∀ a ∈ l, a.host.size ≤ maxLen := by
  obtain ⟨a0, len, cap, rfl⟩ := okWide_slice Tryd.underlying40 hok
  obtain ⟨fuel, hf⟩ := hj
  rcases open_slice_fields Tryd.underlying40 Tryd.underlying53 (by kernel_rfl) (by kernel_rfl) hf with ⟨hcs, hx⟩ | ⟨a, len', cap', m, D, Pl, hcs, _, hl, hm, hmm, hx, hi⟩
  · have hcs' : Value.slice a0 len cap = .slice none 0 0 := by simpa [Value.cells] using hcs
    rw [hcs']
    exact ⟨none, 0, [], rfl, Reads.none_, Nat.zero_le _, fun _ h => by cases h⟩
  · have hcs' : Value.slice a0 len cap = .slice (some a) len' cap' := by simpa [Value.cells] using hcs
    rw [hcs']
    simp only [if_true] at hmm
    obtain ⟨l, hll, hp⟩ := list_of (P := fun i (x : ActV) => W.cell? (a.add (i * 3)) = some (.string x.kind) ∧ W.cell? (a.add (i * 3 + 1)) = some (.string x.host) ∧ W.cell? (a.add (i * 3 + 2)) = some (.bool x.well) ∧ x.host.size ≤ maxLen) len' (fun i hil => by
      obtain ⟨ys, n, _, _, _, hfs⟩ := hi i (by omega)
      obtain ⟨v0, y0, c0, _, t0⟩ := hfs 0 _ rfl
      obtain ⟨v1, y1, c1, _, t1⟩ := hfs 1 _ rfl
      obtain ⟨v2, y2, c2, _, t2⟩ := hfs 2 _ rfl
      obtain ⟨s0, e0, _, _⟩ := DataW.trod_string Tryd.underlying9 t0
      obtain ⟨s1, e1, _, z1⟩ := DataW.trod_string Tryd.underlying9 t1
      obtain ⟨b2, e2, _⟩ := DataW.trod_bool Tryd.underlying4 t2
      cases e0; cases e1; cases e2
      exact ⟨⟨s0, s1, b2⟩, c0, c1, c2, z1⟩)
    refine ⟨some a, cap', l, by rw [hll], ⟨actsV_length l, fun hn => ⟨a, rfl, ?_, fun j u hu => ?_⟩⟩, by omega, fun x hx => ?_⟩
    · have hp' : p = MemPlace.row a (m * 3) ++ (List.range m).flatMap Pl := (Prod.mk.inj hx).2
      exact hlt (.cell a.block (a.off + 0)) (by rw [hp']; refine List.mem_append_left _ ?_; unfold MemPlace.row; exact List.mem_map.2 ⟨0, List.mem_range.2 (by omega), rfl⟩)
    · obtain ⟨k, x, hk, h⟩ := actsV_get l j u hu
      obtain ⟨c0, c1, c2, _⟩ := hp k x hk
      rcases h with ⟨rfl, rfl⟩ | ⟨rfl, rfl⟩ | ⟨rfl, rfl⟩
      · exact c0
      · exact c1
      · exact c2
    · obtain ⟨i, hi', rfl⟩ := List.mem_iff_getElem.1 hx
      exact (hp i l[i] (List.getElem?_eq_getElem hi')).2.2.2

theorem healthActs_any (ea : Nat → Addr) (A : Option Addr) (c : Nat) (l : List ByteArray) (fall rise : Int) (A2 : Option Addr) (c2 : Nat) (acts : List ActV) (w : World) (hE : ErrsW ea w) (hG : HandleAt w)
    (hr : Reads w w.heap.size 1 A l.length (l.map Value.string)) (hlc : l.length ≤ c) (hcm : c ≤ maxLen) (hs : ∀ s ∈ l, s.size ≤ maxLen) (hr2 : Reads w w.heap.size 3 A2 acts.length (actsV acts)) (hm2 : acts.length ≤ maxLen) (hs2 : ∀ a ∈ acts, a.host.size ≤ maxLen) :
    Calls Tryd.prog 4 #[.slice A l.length c, .int .i64 fall, .int .i64 rise, .slice A2 acts.length c2] w (True1 w) := by
  have hI : ActsIn w A c l A2 c2 acts := ⟨hr, hlc, hcm, hs, hr2, hm2, hs2⟩
  by_cases hlong : longH l = true
  · exact acts_skip ea A c l fall rise A2 c2 acts w hE hI (.inl hlong)
  by_cases hn : 100 < acts.length
  · exact acts_skip ea A c l fall rise A2 c2 acts w hE hI (.inr hn)
  have hL : longH l = false := by simpa using hlong
  cases hf : healthFault l fall rise with
  | some f => exact acts_bad ea A c l fall rise A2 c2 acts w f hE hG hI hL (by omega) hf
  | none =>
    have he : edgesOk fall rise := by
      unfold healthFault at hf
      split at hf
      · cases hf
      · split at hf
        · assumption
        · cases hf
    unfold edgesOk at he
    obtain ⟨f', rfl⟩ := Int.eq_ofNat_of_zero_le (show 0 ≤ fall by omega)
    obtain ⟨r', rfl⟩ := Int.eq_ofNat_of_zero_le (show 0 ≤ rise by omega)
    exact acts_good ea A c l f' r' A2 c2 acts w hE hG hI hL (by omega) hf
end Go.Proofs.YtajdokogahlgaaaDoor
