/-
  A balance in memory; the map of hosts that are drained.
-/
import Derived.Test.YtnmkdmehljkedaaGreatDoorHealthOps
import Derived.Test.YtnmkdmehljkedaaGreatDoorFlowOps
import Derived.Test.YtnmkdmehljkedaaGreatDoorTables
namespace Go.Proofs.YtnmkdmehljkedaaGreatDoor
open Go.RowKit Go.Maps Go.WideMaps

theorem zero_boolB (w : World) : (zeroValue 4).run Tryz.prog w = .ok (.bool false) w := by
  have h : Tryz.t4.zero = some (.bool false) := by kernel_rfl
  simp [zeroValue, h]
theorem plain_bool_inv {v : Value} {b : Bool} {ps : List MemPlace} (h : plainElem (H := Unit) Tryz.prog 4 v = some (.lit (.bool b), ps)) : v = .bool b := by
  have hu := Tryz.underlying4
  generalize Tryz.prog = P at h hu
  unfold plainElem at h
  rw [hu] at h
  cases v with
  | bool x => simp at h; rw [h.1]
  | _ => simp at h
/-- Block b is a map that tells f of texts; so many writes at most. -/
def DrIs (b n : Nat) (f : ByteArray → Bool) (w : World) : Prop := ∃ D : DataW Unit, w.ownsMap Tryz.prog 9 (plainElem Tryz.prog 4) b n D ∧ ∀ s : ByteArray, s.size ≤ maxLen → D.atKey (.string s.data.toList) (.lit (.bool false)) = .lit (.bool (f s))
section
variable {b n : Nat} {f : ByteArray → Bool} {w w' : World}
theorem DrIs.made (w : World) : DrIs w.heap.size 0 (fun _ => false) (w.alloc (.map #[] 0)) := ⟨_, World.ownsMap_made w _ _ _, fun k _ => by simp [DataW.atKey]⟩
theorem DrIs.lt (h : DrIs b n f w) : b < w.heap.size := by obtain ⟨D, ho, _⟩ := h; exact ho.lt
theorem DrIs.turn {bs : List Nat} (h : DrIs b n f w) (ht : Turn bs w w') (hb : b ∉ bs) : DrIs b n f w' := by
  obtain ⟨D, ho, hD⟩ := h
  exact ⟨D, ht.map ho hb, hD⟩
theorem DrIs.below (h : DrIs b n f w) (hb : Below w.heap.size w w') : DrIs b n f w' := h.turn (Turn.of_below (bs := []) hb) (by simp)
theorem DrIs.heap (h : DrIs b n f w) : ∃ es c, w.heap[b]? = some (.map es c) := by
  obtain ⟨D, ⟨es, clock, h1, _⟩, _⟩ := h
  exact ⟨es, clock, h1⟩
theorem DrIs.look {s : ByteArray} (h : DrIs b n f w) (hs : s.size ≤ maxLen) : (Instr.lookup 42 (.map (some b)) (.string s) false).run Tryz.prog w = .ok (.bool (f s)) w := by
  obtain ⟨D, ho, hD⟩ := h
  obtain ⟨v, ps, hrun, hv⟩ := ho.lookup (string_keyed Tryz.underlying9) Tryz.underlying42 (zero_boolB w) (plainElem_bool Tryz.underlying4 false) (keyOf_string_mk Tryz.underlying9 hs)
  rw [hD s hs] at hv
  obtain rfl := plain_bool_inv hv
  exact hrun
theorem ba_toList {a b : ByteArray} (h : a.data.toList = b.data.toList) : a = b := by
  cases a; cases b; simp at h; rw [h]
theorem DrIs.put {s : ByteArray} (v : Bool) (h : DrIs b n f w) (hs : s.size ≤ maxLen) (hn : n < maxLen) :
    ∃ w', (Instr.mapUpdate 42 (.map (some b)) (.string s) (.bool v)).run Tryz.prog w = .ok () w' ∧ DrIs b (n + 1) (fun x => if x = s then v else f x) w' ∧ w.grownBy w' (some b) := by
  obtain ⟨D, ho, hD⟩ := h
  obtain ⟨w', hrun, ho', hg⟩ := ho.update (string_keyed Tryz.underlying9) Tryz.underlying42 hn (keyOf_string_mk Tryz.underlying9 hs) (plainElem_bool Tryz.underlying4 v)
  refine ⟨w', hrun, ⟨_, ho', fun j hj => ?_⟩, hg⟩
  by_cases hjk : j = s
  · subst hjk
    rw [atKey_put_same (k := .string j.data.toList) ho.isMap trivial]; simp
  · have hne : ¬ j.data.toList = s.data.toList := fun e => hjk (ba_toList e)
    rw [atKey_put_other (k := .string s.data.toList) (k' := .string j.data.toList) (by intro e; injection e with e; exact hne e), hD j hj]
    simp [hjk]
end
/-- What a balance is made of; what it holds. -/
structure BCfg where
  hosts : List ByteArray
  size : Nat
  time : Nat
  fall : Nat
  rise : Nat
structure BS where
  st : List St
  fs : FS
  dr : ByteArray → Bool
  nd : Nat
  epoch : Nat
/-- Where a balance lies. -/
structure BPl where
  bp : Nat
  hp : Nat
  fp : Nat
  mb : Nat
  db : Nat
  hv : Value
  sv : Value
  ps : List Nat
abbrev balC (p : BPl) (c : BCfg) (e : Nat) : Array Value := #[ptr p.hp, p.hv, .int .i64 (c.size : Int), ptr p.fp, .map (some p.db), .int .i64 (e : Int)]
/-- What a balance must be made of. -/
structure BOk (c : BCfg) : Prop where
  hf : hostsFault c.hosts = none
  h0 : 0 < c.hosts.length
  tf : tableFault c.hosts (c.size : Int) = none
  t1 : 1 ≤ c.time
  t2 : c.time ≤ 1000
  f1 : 1 ≤ c.fall
  f2 : c.fall ≤ 10
  r1 : 1 ≤ c.rise
  r2 : c.rise ≤ 10
structure BalAt (w : World) (lo : Nat) (p : BPl) (c : BCfg) (s : BS) : Prop where
  blk : Blk w p.bp 44 (balC p c s.epoch)
  row : w.ownsRow lo 9 1 p.hv c.hosts.length (strV c.hosts)
  h : HealthR w lo p.hp c.fall c.rise s.st p.sv p.ps
  f : FlowsR w p.fp p.mb c.time s.fs.1 s.fs.2
  d : DrIs p.db s.nd s.dr w
  ne : p.mb ≠ p.db
  same : hosts s.st = c.hosts
  lk : ∀ x ∈ s.st, x.looks < 10
  ab : lo ≤ p.bp ∧ lo ≤ p.fp ∧ lo ≤ p.mb ∧ lo ≤ p.db
theorem own_not_map {w : World} {base n size : Nat} {e : TypeId} {v : Value} {xs : List Value} {b : Nat} {es} {c} (h : w.ownsRow base e size v n xs) (hb : w.heap[b]? = some (.map es c)) : v.ownBlock ≠ some b := by
  intro hv
  rcases h.2 with ⟨rfl, _⟩ | ⟨g, cap, cur, rfl, _, hh, _⟩
  · simp [Value.ownBlock] at hv
  · have : g = b := by simpa [Value.ownBlock] using hv
    subst this
    rw [hb] at hh
    cases hh
theorem blk_not_map {w : World} {b g : Nat} {es} {c} {t : TypeId} {cs : Array Value} (hb : w.heap[b]? = some (.map es c)) (hg : Blk w g t cs) : g ≠ b := by
  rintro rfl
  unfold Blk at hg
  rw [hb] at hg
  cases hg
theorem FlMap.heap {w : World} {b : Nat} {L : List Fl} (h : FlMap w b L) : ∃ es c, w.heap[b]? = some (.map es c) := by
  obtain ⟨es, clock, hb, _⟩ := h.own
  exact ⟨es, clock, hb⟩
section
variable {w w' : World} {lo : Nat} {p : BPl} {c : BCfg} {s : BS}
theorem BalAt.pbs (h : BalAt w lo p c s) {q : Nat} (hq : q ∈ p.ps) : ∃ x, Blk w q 63 (stCells x) := by
  obtain ⟨i, hi, rfl⟩ := List.mem_iff_getElem.1 hq
  have hi2 : i < s.st.length := by rw [← h.h.len]; exact hi
  exact ⟨_, h.h.at_ i _ s.st[i] (List.getElem?_eq_getElem hi) (List.getElem?_eq_getElem hi2)⟩
/-- The flows turn. -/
theorem BalAt.turnF (h : BalAt w lo p c s) {fs' : FS} (hf : FlowsR w' p.fp p.mb c.time fs'.1 fs'.2) (ht : Turn [p.fp, p.mb] w w') : BalAt w' lo p c { s with fs := fs' } := by
  obtain ⟨es, cl, hm⟩ := h.f.map.heap
  obtain ⟨es2, cl2, hd⟩ := h.d.heap
  have n1 := h.blk.ne_ h.f.blk (by decide)
  have n2 := blk_not_map hm h.blk
  have n3 := h.h.blk.ne_ h.f.blk (by decide)
  have n4 := blk_not_map hm h.h.blk
  have n5 : p.db ≠ p.fp := fun e => blk_not_map hd h.f.blk e.symm
  refine ⟨ht.blk h.blk (by simp; exact ⟨n1, n2⟩), ht.own h.row fun g hg => ?_, h.h.turn ht (by simp; exact ⟨n3, n4⟩) (fun q hq => ?_) (fun g hg => ?_), hf, h.d.turn ht (by simp; exact ⟨n5, h.ne.symm⟩), h.ne, h.same, h.lk, h.ab⟩
  · simp only [List.mem_cons, List.not_mem_nil, or_false]
    rintro (rfl | rfl)
    · exact own_blk_ne h.row h.f.blk (by decide) hg
    · exact own_not_map h.row hm hg
  · obtain ⟨x, hx⟩ := h.pbs hq
    have m1 := hx.ne_ h.f.blk (by decide)
    have m2 := blk_not_map hm hx
    simp; exact ⟨m1, m2⟩
  · simp only [List.mem_cons, List.not_mem_nil, or_false]
    rintro (rfl | rfl)
    · exact own_blk_ne h.h.own h.f.blk (by decide) hg
    · exact own_not_map h.h.own hm hg
/-- What a balance may write. -/
def BPl.bs (p : BPl) : List Nat := p.bp :: p.fp :: p.mb :: p.db :: p.ps
theorem BalAt.below (h : BalAt w lo p c s) (hb : Below w.heap.size w w') : BalAt w' lo p c s :=
  ⟨h.blk.below hb h.blk.lt, own_below h.row hb, h.h.below hb, h.f.below hb, h.d.below hb, h.ne, h.same, h.lk, h.ab⟩
theorem BalAt.bsLo (h : BalAt w lo p c s) : ∀ b ∈ p.bs, lo ≤ b := by
  intro b hb
  unfold BPl.bs at hb
  simp only [List.mem_cons] at hb
  rcases hb with rfl | rfl | rfl | rfl | hb
  · exact h.ab.1
  · exact h.ab.2.1
  · exact h.ab.2.2.1
  · exact h.ab.2.2.2
  · exact h.h.base.2 _ hb
theorem BPl.fm (p : BPl) : ∀ b ∈ [p.fp, p.mb], b ∈ p.bs := by
  intro b hb
  unfold BPl.bs
  simp only [List.mem_cons, List.not_mem_nil, or_false] at hb ⊢
  rcases hb with rfl | rfl <;> simp
/-- A map that drains turns. -/
theorem BalAt.turnD (h : BalAt w lo p c s) {dr' : ByteArray → Bool} {nd' : Nat} (hd' : DrIs p.db nd' dr' w') (ht : Turn [p.db] w w') : BalAt w' lo p c { s with dr := dr', nd := nd' } := by
  obtain ⟨es2, cl2, hd⟩ := h.d.heap
  have n1 := blk_not_map hd h.blk
  have n3 := blk_not_map hd h.h.blk
  have n5 := blk_not_map hd h.f.blk
  refine ⟨ht.blk h.blk (by simpa using n1), ht.own h.row fun g hg => ?_, h.h.turn ht (by simpa using n3) (fun q hq => ?_) (fun g hg => ?_), h.f.turn ht (by simpa using n5) (by simpa using h.ne), hd', h.ne, h.same, h.lk, h.ab⟩
  · rintro hm
    rw [List.mem_singleton] at hm
    subst hm
    exact own_not_map h.row hd hg
  · obtain ⟨x, hx⟩ := h.pbs hq
    simpa using blk_not_map hd hx
  · rintro hm
    rw [List.mem_singleton] at hm
    subst hm
    exact own_not_map h.h.own hd hg
end
end Go.Proofs.YtnmkdmehljkedaaGreatDoor
