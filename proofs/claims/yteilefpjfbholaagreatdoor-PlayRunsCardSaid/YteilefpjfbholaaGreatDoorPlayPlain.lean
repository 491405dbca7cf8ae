/-
  Plays in plain words: what a number does to a duo of balances.
-/
import Derived.Test.YteilefpjfbholaaGreatDoorBalNow
import Derived.Test.YteilefpjfbholaaGreatDoorBalCarry
namespace Go.Proofs.YteilefpjfbholaaGreatDoor
open Go.RowKit

def c22 : BCfg := ⟨[sA, sB, sC, sD], 31, 20, 2, 2⟩
theorem ok_22 : BOk c22 := ⟨fault_4, by decide, size_ok fault_4 (by decide) (size_prime (by decide) (by decide) (by decide +kernel)), by decide, by decide, by decide, by decide, by decide, by decide⟩
/-- The host that a number names. -/
def hostNo (q : Nat) : ByteArray := c22.hosts.getD (q / 2 % 4) sA
def drainS (s : BS) (x : ByteArray) (v : Bool) : BS := { s with dr := fun y => if y = x then v else s.dr y, nd := s.nd + 1 }
/-- All is carried over from one to another one. -/
def overS (x y : BS) (now : Nat) : Nat × (BS × BS) :=
  if x.epoch + 1 < y.epoch then (8, ({ x with epoch := x.epoch + 1 }, y))
  else (0, ({ x with epoch := x.epoch + 1 }, { y with fs := (now, addF now y.fs.2 (x.fs.2.filter fun z => upOf y.st z.host)), epoch := x.epoch + 1 }))
/-- What a number does that concerns one balance, or carries over from it: the code, both. -/
def actXY (v : Nat) (x y : BS) (now : Nat) : Nat × (BS × BS) :=
  if v % 8 = 3 then ((lookB c22 x (hostNo (v / 8)) (decide (v / 8 / 8 % 2 = 1))).1.2, ((lookB c22 x (hostNo (v / 8)) (decide (v / 8 / 8 % 2 = 1))).2, y))
  else if v % 8 = 4 then (0, (drainS x (hostNo (v / 8)) (decide (v / 8 / 8 % 2 = 1)), y))
  else if v % 8 = 6 then overS x y now
  else ((pickS c22 x (v / 8 / 2) now).1.2.2, ((pickS c22 x (v / 8 / 2) now).2, y))
abbrev DS := (BS × BS) × Nat
def bothS (d : DS) : Nat × DS :=
  (if (pickS c22 d.1.1 0 d.2).1.2.2 = 0 then (pickS c22 d.1.2 0 d.2).1.2.2 else (pickS c22 d.1.1 0 d.2).1.2.2, (((pickS c22 d.1.1 0 d.2).2, (pickS c22 d.1.2 0 d.2).2), d.2))
/-- What a number does to a duo. -/
def oneS (v : Nat) (d : DS) : Nat × DS :=
  if v % 8 = 5 then (0, (d.1, d.2 + (1 + v / 8 % 8)))
  else if v % 8 = 7 then bothS d
  else if v / 8 % 2 = 1 then ((actXY v d.1.2 d.1.1 d.2).1, (((actXY v d.1.2 d.1.1 d.2).2.2, (actXY v d.1.2 d.1.1 d.2).2.1), d.2))
  else ((actXY v d.1.1 d.1.2 d.2).1, ((actXY v d.1.1 d.1.2 d.2).2, d.2))
def stepS (a : List Int × DS) (v : Int) : List Int × DS := if v < 0 then (a.1 ++ [-1], a.2) else (a.1 ++ [((oneS v.toNat a.2).1 : Int)], (oneS v.toNat a.2).2)
/-- A whole script. -/
def runS (l : List Int) (d : DS) : List Int × DS := l.foldl stepS ([], d)
theorem runS_take {l : List Int} {d : DS} {i : Nat} (h : i < l.length) : runS (l.take (i + 1)) d = stepS (runS (l.take i) d) l[i] := by
  unfold runS
  rw [List.take_succ_eq_append_getElem h, List.foldl_append]
  rfl
theorem stepS_len (a : List Int × DS) (v : Int) : (stepS a v).1.length = a.1.length + 1 := by
  unfold stepS
  split <;> simp
theorem runS_len (l : List Int) (d : DS) : ∀ i, i ≤ l.length → (runS (l.take i) d).1.length = i
  | 0, _ => by simp [runS]
  | i + 1, h => by rw [runS_take (by omega), stepS_len, runS_len l d i (by omega)]
/-- What stands in a balance behind so many numbers. -/
structure BInv (k now : Nat) (s : BS) : Prop where
  rise : Rise s.fs.2
  last : s.fs.1 ≤ now
  ep : s.epoch ≤ k
  nd : s.nd ≤ k
  fl : ∀ y ∈ s.fs.2, y.host ∈ c22.hosts ∧ 0 ≤ y.til ∧ y.til ≤ (now : Int) + 20
section
variable {k now : Nat} {s x y : BS}
theorem BInv.new : BInv 0 0 (newS c22) := ⟨List.Pairwise.nil, Nat.le_refl _, Nat.le_refl _, Nat.le_refl _, fun y hy => by simp [newS] at hy⟩
theorem BInv.more (h : BInv k now s) {k' now' : Nat} (hk : k ≤ k') (hn : now ≤ now') : BInv k' now' s :=
  ⟨h.rise, Nat.le_trans h.last hn, Nat.le_trans h.ep hk, Nat.le_trans h.nd hk, fun y hy => ⟨(h.fl y hy).1, (h.fl y hy).2.1, by have := (h.fl y hy).2.2; omega⟩⟩
theorem putF_memG {L : List Fl} {z y : Fl} (h : y ∈ putF L z) : y = z ∨ y ∈ L := by
  unfold putF at h
  rcases mem_insF.1 h with h | h
  · exact .inl h
  · have h1 : y ∈ roomF L z.key := delF_mem h
    unfold roomF at h1
    split at h1
    · exact .inr h1
    · exact .inr (delF_mem h1)
theorem hostOpen_mem {c : BCfg} {s : BS} (hs : hosts s.st = c.hosts) {z : ByteArray} (hz : z ∈ openOf s) : z ∈ c.hosts := by
  unfold openOf at hz
  rw [← hs]
  exact (ups_sub s.st).subset (List.mem_filter.1 hz).1
theorem BInv.pick (h : BInv k now s) (hs : hosts s.st = c22.hosts) (hn : now ≤ 1000000) (key : Nat) : BInv k now (pickS c22 s key now).2 ∧ (pickS c22 s key now).1.2.2 ≤ 9 := by
  unfold pickS
  rw [if_pos (tick_zero h.last (by omega)), Int.toNat_natCast]
  cases hk : keptOf s key now with
  | some z =>
    refine ⟨⟨rise_put h.rise _, Nat.le_refl _, h.ep, h.nd, fun y hy => ?_⟩, Nat.zero_le _⟩
    rcases putF_memG hy with rfl | hy
    · refine ⟨?_, by show (0 : Int) ≤ (now : Int) + 20; omega, Int.le_refl _⟩
      unfold keptOf at hk
      cases hg : getF s.fs.2 key now with
      | none => rw [hg] at hk; cases hk
      | some u =>
        rw [hg] at hk
        dsimp only at hk
        split at hk
        · obtain rfl := Option.some.inj hk
          have := upOf_mem (by assumption : upOf s.st u = true)
          rw [hs] at this
          exact this
        · cases hk
    · exact h.fl y hy
  | none =>
    dsimp only
    split
    · exact ⟨⟨h.rise, Nat.le_refl _, h.ep, h.nd, h.fl⟩, by show 5 ≤ 9; omega⟩
    · rename_i ho
      refine ⟨⟨rise_put h.rise _, Nat.le_refl _, h.ep, h.nd, fun y hy => ?_⟩, Nat.zero_le _⟩
      rcases putF_memG hy with rfl | hy
      · refine ⟨?_, by show (0 : Int) ≤ (now : Int) + 20; omega, Int.le_refl _⟩
        have hsub : (openOf s).Sublist c22.hosts := by
          rw [← hs]
          unfold openOf
          exact (List.filter_sublist).trans (ups_sub s.st)
        have htf := sub_table ok_22.tf hsub (List.length_pos_iff.2 ho)
        exact hostOpen_mem hs (hostAt_mem ho htf (Nat.mod_lt _ (by decide)))
      · exact h.fl y hy
theorem BInv.look (h : BInv k now s) (z : ByteArray) (v : Bool) : BInv k now (lookB c22 s z v).2 := by
  unfold lookB
  dsimp only
  split
  · exact ⟨h.rise.filter _, h.last, h.ep, h.nd, fun y hy => h.fl y (List.mem_filter.1 hy).1⟩
  · exact ⟨h.rise, h.last, h.ep, h.nd, h.fl⟩
theorem BInv.drain (h : BInv k now s) (z : ByteArray) (v : Bool) : BInv (k + 1) now (drainS s z v) :=
  ⟨h.rise, h.last, by have := h.ep; show s.epoch ≤ k + 1; omega, by have := h.nd; show s.nd + 1 ≤ k + 1; omega, h.fl⟩
theorem addF_mem {now : Int} {z : Fl} : ∀ (xs L : List Fl), z ∈ addF now L xs → z ∈ L ∨ z ∈ xs
  | [], L, h => .inl h
  | a :: r, L, h => by
    have h1 : z ∈ addF now (add1 now L a) r := h
    rcases addF_mem r _ h1 with h2 | h2
    · unfold add1 at h2
      split at h2
      · rcases mem_insF.1 h2 with rfl | h3
        · exact .inr List.mem_cons_self
        · exact .inl h3
      · exact .inl h2
    · exact .inr (List.mem_cons_of_mem _ h2)
theorem BInv.over (h : BInv k now x) (h' : BInv k now y) : BInv (k + 1) now (overS x y now).2.1 ∧ BInv (k + 1) now (overS x y now).2.2 := by
  have e1 := h.ep
  have h1 : BInv (k + 1) now { x with epoch := x.epoch + 1 } := ⟨h.rise, h.last, by show x.epoch + 1 ≤ k + 1; omega, by have := h.nd; show x.nd ≤ k + 1; omega, h.fl⟩
  unfold overS
  split
  · exact ⟨h1, h'.more (by omega) (Nat.le_refl _)⟩
  · refine ⟨h1, addF_rise h'.rise, Nat.le_refl _, by show x.epoch + 1 ≤ k + 1; omega, by have := h'.nd; show y.nd ≤ k + 1; omega, fun z hz => ?_⟩
    rcases addF_mem _ _ hz with hz | hz
    · exact h'.fl z hz
    · exact h.fl z (List.mem_filter.1 hz).1
end
theorem overS_le (x y : BS) (now : Nat) : (overS x y now).1 ≤ 9 := by
  unfold overS
  split
  · show 8 ≤ 9; omega
  · exact Nat.zero_le _
theorem pickS_le (c : BCfg) (s : BS) (k : Nat) (now : Int) : (pickS c s k now).1.2.2 ≤ 9 := by
  unfold pickS
  split
  · split
    · exact Nat.zero_le _
    · split
      · show 5 ≤ 9; omega
      · exact Nat.zero_le _
  · exact tickE_le _ _
theorem oneS_le (v : Nat) (d : DS) : (oneS v d).1 ≤ 9 := by
  have ha : ∀ x y : BS, (actXY v x y d.2).1 ≤ 9 := fun x y => by
    unfold actXY
    split
    · exact remCode_le _ _
    · split
      · exact Nat.zero_le _
      · split
        · exact overS_le _ _ _
        · exact pickS_le _ _ _ _
  unfold oneS
  split
  · exact Nat.zero_le _
  · split
    · unfold bothS
      show (if _ then _ else _ : Nat) ≤ 9
      split
      · exact pickS_le _ _ _ _
      · exact pickS_le _ _ _ _
    · split
      · exact ha _ _
      · exact ha _ _
end Go.Proofs.YteilefpjfbholaaGreatDoor
