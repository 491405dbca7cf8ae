/-
  The walk of the reference's Look.
-/
import Derived.Test.YtajdokogahlgaaaDoorRefNew
namespace Go.Proofs.YtajdokogahlgaaaDoor
open Go.RowKit

/-- How many of the other kind are at the end. -/
def tr (up : Bool) (l : List Bool) : Nat := (l.reverse.takeWhile fun b => b != up).length
theorem tr_le (up : Bool) (l : List Bool) : tr up l ≤ l.length := by
  unfold tr
  have := (List.takeWhile_sublist (fun b => b != up) (l := l.reverse)).length_le
  simpa using this
theorem tr_snoc (up well : Bool) (l : List Bool) : tr up (l ++ [well]) = if well = up then 0 else tr up l + 1 := by
  unfold tr
  rw [List.reverse_append, List.reverse_singleton, List.singleton_append, List.takeWhile_cons]
  by_cases h : well = up
  · simp [h]
  · have : (well != up) = true := by simpa using h
    simp [this, h]
theorem takeWhile_len (p : Bool → Bool) : ∀ (l : List Bool) (k : Nat), k ≤ (l.takeWhile p).length → ∀ x, l[k]? = some x → (p x = true → k + 1 ≤ (l.takeWhile p).length) ∧ (p x = false → (l.takeWhile p).length = k)
  | [], k, _, x, h => by simp at h
  | a :: l, 0, _, x, h => by
      simp at h; subst h
      rw [List.takeWhile_cons]
      constructor <;> intro hp <;> simp [hp]
  | a :: l, k + 1, hk, x, h => by
      rw [List.takeWhile_cons] at hk ⊢
      cases hp : p a with
      | false => rw [hp] at hk; simp at hk
      | true =>
        rw [hp] at hk
        simp only [if_true, List.length_cons] at hk ⊢
        have := takeWhile_len p l k (by omega) x (by simpa using h)
        exact ⟨fun h => by have := this.1 h; omega, fun h => by have := this.2 h; omega⟩
theorem tr_step {up : Bool} {l : List Bool} {k : Nat} (hk : k ≤ tr up l) (hl : k < l.length) : ∃ b, l[l.length - 1 - k]? = some b ∧ (b ≠ up → k + 1 ≤ tr up l) ∧ (b = up → tr up l = k) := by
  have hg : l[l.length - 1 - k]? = some (l[l.length - 1 - k]'(by omega)) := List.getElem?_eq_getElem (by omega)
  refine ⟨_, hg, ?_⟩
  have := takeWhile_len (fun b => b != up) l.reverse k hk (l[l.length - 1 - k]'(by omega)) (by rw [List.getElem?_reverse hl]; exact hg)
  exact ⟨fun h => this.1 (by simpa using h), fun h => this.2 (by simpa using h)⟩
theorem tr_end {up : Bool} {l : List Bool} {k : Nat} (hk : k ≤ tr up l) (hl : l.length ≤ k) : tr up l = k := by have := tr_le up l; omega

/-- What a look does to one host of the reference; did it turn? -/
def lookR (fall rise : Nat) (r : Rt) (well : Bool) : Rt × Bool :=
  if (if r.up then fall else rise) ≤ tr r.up (r.looks ++ [well]) then (⟨r.host, !r.up, []⟩, true) else (⟨r.host, r.up, r.looks ++ [well]⟩, false)

theorem info_bool : (Tryd.prog.info? 4).map (fun i => (i.zero, i.size, i.bytes)) = some (some (.bool false), 1, 1) := by kernel_rfl
def LookRPost (B mp fall rise : Nat) (rs : List Rt) (k : Nat) (r : Rt × Bool) (w : World) (e : Ending) (w' : World) : Prop :=
  e = .returned (.tuple #[.bool r.2, .int .i64 0]) ∧ (∃ sv vs, RefH w' B mp fall rise (rs.set k r.1) sv vs) ∧ KeepT B [100, 103, 4] w w'

theorem refLook_none {B mp fall rise : Nat} {rs : List Rt} {sv : Value} {vs : List Value} (x : ByteArray) (well : Bool) (w : World) (h : RefH w B mp fall rise rs sv vs) (hl : rs.length ≤ 1000) (hm : x ∉ rhosts rs) :
    Calls Tryd.prog 30 #[ptr mp, .string x, .bool well] w fun e w' => e = .returned (.tuple #[.bool false, .int .i64 5]) ∧ w = w' := by
  have HF := Lib.hid (refFind x w h hl)
  have hi : idx (rhosts rs) x = -1 := idx_miss fun t ht e => hm (by rw [e]; exact ht)
  unfold IdxPost at HF
  rw [hi] at HF
  clear h hm hi
  unfold ptr at HF ⊢
  go_enter Tryd.func30, Tryd.ntmps30
  go_wp2_with fail
  refine HF.out.mono ?_
  rintro e w1 ⟨rfl, rfl⟩
  go_wp2
  go_ret2
  exact ⟨rfl, rfl⟩

/-- The box of the host that is looked at, and the row of its looks. -/
structure XAt (w : World) (B bx : Nat) (host : ByteArray) (up : Bool) (v : Value) (l : List Bool) : Prop where
  blk : Blk w bx 103 #[.string host, .bool up, v]
  own : w.ownsRow B 4 1 v l.length (boolsV l)
theorem XAt.drewN {w : World} {B bx : Nat} {host : ByteArray} {up : Bool} {v : Value} {l : List Bool} (h : XAt w B bx host up v l) (m : Nat) : XAt (w.drewN m) B bx host up v l := ⟨h.blk, h.own⟩

/-- The end of a look: the host is laid back. -/
theorem RefH.lay {w w1 : World} {B mp fall rise k g cap : Nat} {rs : List Rt} {vs : List Value} {r' : Rt} {v' : Value} (h : RefH w B mp fall rise rs (.slice (some ⟨g, 0, none⟩) rs.length cap) vs) (hk : k < rs.length)
    (hkeep : KeepT B [4] w w1) (ho : w1.ownsRow B 4 1 v' r'.looks.length (boolsV r'.looks))
    (hoth : ∀ (i : Nat) (vi : Value), i ≠ k → vs[i]? = some vi → (∀ (r : Rt), rs[i]? = some r → w1.ownsRow B 4 1 vi r.looks.length (boolsV r.looks)) ∧ ∀ g', (vi.ownBlock = some g' → v'.ownBlock ≠ some g') ∧ (v'.ownBlock = some g' → vi.ownBlock ≠ some g')) :
    RefH (((w1.setCell ⟨g, k * 3, none⟩ (.string r'.host)).setCell ⟨g, k * 3 + 1, none⟩ (.bool r'.up)).setCell ⟨g, k * 3 + 2, none⟩ v') B mp fall rise (rs.set k r') (.slice (some ⟨g, 0, none⟩) rs.length cap) (vs.set k v') ∧
      KeepT B [103, 4] w (((w1.setCell ⟨g, k * 3, none⟩ (.string r'.host)).setCell ⟨g, k * 3 + 1, none⟩ (.bool r'.up)).setCell ⟨g, k * 3 + 2, none⟩ v') := by
  have hvk : k < vs.length := by rw [h.len]; exact hk
  have h1 := hkeep.own h.own (by decide)
  obtain ⟨s1, g1⟩ := h1.stored (k * 3) (.string r'.host)
  obtain ⟨s2, g2⟩ := s1.stored (k * 3 + 1) (.bool r'.up)
  obtain ⟨s3, g3⟩ := s2.stored (k * 3 + 2) v'
  rw [flat_set _ _ _ _ _ h.len hk] at s3
  have hall : KeepT B [103] w1 (((w1.setCell ⟨g, k * 3, none⟩ (.string r'.host)).setCell ⟨g, k * 3 + 1, none⟩ (.bool r'.up)).setCell ⟨g, k * 3 + 2, none⟩ v') :=
    ((KeepT.of_app h1 g1 (Nat.le_trans (Nat.le_of_lt (Nat.lt_of_le_of_lt (h1.lt g rfl).1 (h1.lt g rfl).2)) (Nat.le_refl _))).trans (KeepT.of_app s1 g2 (Nat.le_of_lt (Nat.lt_of_le_of_lt (s1.lt g rfl).1 (s1.lt g rfl).2)))).trans (KeepT.of_app s2 g3 (Nat.le_of_lt (Nat.lt_of_le_of_lt (s2.lt g rfl).1 (s2.lt g rfl).2)))
  refine ⟨⟨hall.blk (hkeep.blk h.blk (by decide)) (by decide), by rw [List.length_set]; exact s3, by simp [h.len], fun i v r a b => ?_, fun i j vi vj g' a b hne hg' => ?_, h.base⟩, (hkeep.more (by simp)).trans (hall.more (by simp))⟩
  · by_cases hik : i = k
    · subst hik
      rw [List.getElem?_set_self hvk] at a
      rw [List.getElem?_set_self hk] at b
      cases a; cases b
      exact hall.own ho (by decide)
    · rw [List.getElem?_set_ne (Ne.symm hik)] at a b
      exact hall.own ((hoth i v hik a).1 r b) (by decide)
  · by_cases hik : i = k
    · subst hik
      rw [List.getElem?_set_self hvk] at a
      cases a
      rw [List.getElem?_set_ne hne] at b
      exact ((hoth j vj (Ne.symm hne) b).2 g').2 hg'
    · rw [List.getElem?_set_ne (Ne.symm hik)] at a
      by_cases hjk : j = k
      · subst hjk
        rw [List.getElem?_set_self hvk] at b
        cases b
        exact ((hoth i vi hik a).2 g').1 hg'
      · rw [List.getElem?_set_ne (Ne.symm hjk)] at b
        exact h.apart i j vi vj g' a b hne hg'
end Go.Proofs.YtajdokogahlgaaaDoor
