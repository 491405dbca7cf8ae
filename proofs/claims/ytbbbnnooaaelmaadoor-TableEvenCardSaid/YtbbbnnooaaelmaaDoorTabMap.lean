/-
  table.Make's memory: a map from hosts to rows, the rows, the slots.
-/
import Derived.Test.YtbbbnnooaaelmaaDoorTabRow
import Derived.Test.YtbbbnnooaaelmaaDoorLists
import Derived.Test.YtbbbnnooaaelmaaDoorRingPlain
import Derived.Test.YtbbbnnooaaelmaaDoorNums
import Derived.Maps.Own
import Derived.Maps.OwnOps
import Derived.Maps.Views
namespace Go.Proofs.YtbbbnnooaaelmaaDoor
open Go.RowKit Go.Maps Go.WideMaps

theorem zero_row (w : World) : (zeroValue 94).run Tryd.prog w = .ok (.pointer none) w := by
  have h : Tryd.t94.zero = some (.pointer none) := by kernel_rfl
  simp [zeroValue, h]
def rPtr : Value → Option (DataW Unit × List MemPlace)
  | .pointer none => some (.nil, [])
  | .pointer (some ⟨g, 0, none⟩) => some (.lit (.int .i64 (g : Int)), [])
  | _ => none
theorem rPtr_inv {v : Value} {g : Nat} {ps : List MemPlace} (h : rPtr v = some (.lit (.int .i64 (g : Int)), ps)) : v = .pointer (some ⟨g, 0, none⟩) := by
  unfold rPtr at h
  split at h
  · injection h with h; injection h with h _; cases h
  · rename_i g'
    injection h with h
    injection h with h _
    injection h with h
    injection h with _ h
    obtain rfl : g' = g := by omega
    rfl
  · cases h
/-- Pointers at texts. -/
def PtrIs (b n : Nat) (f : ByteArray → Option Nat) (w : World) : Prop := ∃ D : DataW Unit, w.ownsMap Tryd.prog 9 rPtr b n D ∧ ∀ (s : ByteArray) (g : Nat), s.size ≤ maxLen → f s = some g → D.atKey (.string s.data.toList) .nil = .lit (.int .i64 (g : Int))
theorem PtrIs.made (w : World) : PtrIs w.heap.size 0 (fun _ => none) (w.alloc (.map #[] 0)) := ⟨_, World.ownsMap_made w _ _ _, fun s g _ h => by cases h⟩
theorem PtrIs.kept {b n : Nat} {f : ByteArray → Option Nat} {w w' : World} {row : Option Nat} (h : PtrIs b n f w) (hg : w.grownBy w' row) (hne : some b ≠ row) : PtrIs b n f w' := by
  obtain ⟨D, ho, hD⟩ := h
  exact ⟨D, ho.kept hg hne, hD⟩
theorem PtrIs.below {b n : Nat} {f : ByteArray → Option Nat} {w w' : World} (h : PtrIs b n f w) (hb : Below w.heap.size w w') : PtrIs b n f w' := by
  obtain ⟨D, ho, hD⟩ := h
  have hlt := ho.lt
  obtain ⟨es, ck, hh, r⟩ := ho
  exact ⟨D, ⟨es, ck, (hb.block b hlt).trans hh, r⟩, hD⟩
theorem PtrIs.drew {b n : Nat} {f : ByteArray → Option Nat} {w : World} (h : PtrIs b n f w) : PtrIs b n f w.drew := h
theorem PtrIs.look {b n g : Nat} {f : ByteArray → Option Nat} {w : World} {s : ByteArray} (h : PtrIs b n f w) (hs : s.size ≤ maxLen) (hf : f s = some g) : (Instr.lookup 90 (.map (some b)) (.string s) false).run Tryd.prog w = .ok (.pointer (some ⟨g, 0, none⟩)) w := by
  obtain ⟨D, ho, hD⟩ := h
  obtain ⟨v, ps, hrun, hv⟩ := ho.lookup (string_keyed Tryd.underlying9) Tryd.underlying90 (zero_row w) (zd := .nil) (zp := []) rfl (keyOf_string_mk Tryd.underlying9 hs)
  rw [hD s g hs hf] at hv
  obtain rfl := rPtr_inv hv
  exact hrun
theorem PtrIs.put {b n g : Nat} {f : ByteArray → Option Nat} {w : World} {s : ByteArray} (h : PtrIs b n f w) (hs : s.size ≤ maxLen) (hn : n < maxLen) :
    ∃ w', (Instr.mapUpdate 90 (.map (some b)) (.string s) (.pointer (some ⟨g, 0, none⟩))).run Tryd.prog w = .ok () w' ∧ PtrIs b (n + 1) (fun x => if x = s then some g else f x) w' ∧ w.grownBy w' (some b) := by
  obtain ⟨D, ho, hD⟩ := h
  obtain ⟨w', hrun, ho', hg⟩ := ho.update (string_keyed Tryd.underlying9) Tryd.underlying90 hn (keyOf_string_mk Tryd.underlying9 hs) (show rPtr (.pointer (some ⟨g, 0, none⟩)) = some (.lit (.int .i64 (g : Int)), []) from rfl)
  refine ⟨w', hrun, ⟨_, ho', fun j g' hj hf => ?_⟩, hg⟩
  by_cases hjk : j = s
  · subst hjk
    simp only [if_pos] at hf
    obtain rfl := Option.some.inj hf
    rw [atKey_put_same (k := .string j.data.toList) ho.isMap trivial]
  · have hne : ¬ j.data.toList = s.data.toList := fun e => hjk (ba_ext e)
    simp only [if_neg hjk] at hf
    rw [atKey_put_other (k := .string s.data.toList) (k' := .string j.data.toList) (by intro e; injection e with e; exact hne e), hD j g' hj hf]
section
variable {w : World} {ops : Array Oper} {rest : List Oper} {o : Oper} {a : Act} {Q : Exit → Act → World → Prop} {b n : Nat}
theorem wp_ptr_look {f : ByteArray → Option Nat} (hg : o.guard = none) (m x : Operand) (hop : o.op = Op.lookup 90 m x false) (hm : a.eval m = .map (some b)) (h : PtrIs b n f w) (s : ByteArray) (hx : a.eval x = .string s) (hs : s.size ≤ maxLen) (g : Nat) (hf : f s = some g)
    (hK : wpList Tryd.prog ops Q rest (a.put o.dst (.pointer (some ⟨g, 0, none⟩))) w) : wpList Tryd.prog ops Q (o :: rest) a w := by
  refine wpList_plain hg fun K' hK' => ?_
  have hrun := h.look hs hf
  unfold Oper.wp
  simp [execOp, hop, hm, hx, hrun, Result.andThen]
  exact hK' _ _ hK
theorem wp_ptr_put {f : ByteArray → Option Nat} (hg : o.guard = none) (m x v : Operand) (hop : o.op = Op.mapUpdate 90 m x v) (hm : a.eval m = .map (some b)) (h : PtrIs b n f w) (s : ByteArray) (hx : a.eval x = .string s) (g : Nat) (hv : a.eval v = .pointer (some ⟨g, 0, none⟩)) (hs : s.size ≤ maxLen) (hn : n < maxLen)
    (hK : ∀ w', PtrIs b (n + 1) (fun x => if x = s then some g else f x) w' → w.grownBy w' (some b) → wpList Tryd.prog ops Q rest (a.put o.dst undef) w') : wpList Tryd.prog ops Q (o :: rest) a w := by
  refine wpList_plain hg fun K' hK' => ?_
  obtain ⟨w', hrun, r1, r2⟩ := h.put (g := g) hs hn
  unfold Oper.wp
  simp [execOp, hop, hm, hx, hv, hrun, Result.andThen]
  exact hK' _ _ (hK w' r1 r2)
end

/-! The rows: block gs j has row j, behind cs j steps. -/
def nmAt (names : List ByteArray) (j : Nat) : ByteArray := names.getD j ByteArray.empty
def rowV (s : ByteArray) (n c : Nat) : Array Value := #[.int .i64 (rowAt s n c : Int), .int .i64 (skipOf s n : Int)]
structure RowsIs (w : World) (B : Nat) (names : List ByteArray) (n k : Nat) (gs cs : Nat → Nat) : Prop where
  inj : ∀ i j, i < k → j < k → gs i = gs j → i = j
  base : ∀ j, j < k → B ≤ gs j
  blk : ∀ j, j < k → Blk w (gs j) 92 (rowV (nmAt names j) n (cs j))
theorem RowsIs.none_ (w : World) (B : Nat) (names : List ByteArray) (n : Nat) (gs cs : Nat → Nat) : RowsIs w B names n 0 gs cs := ⟨fun _ _ h => absurd h (by omega), fun _ h => absurd h (by omega), fun _ h => absurd h (by omega)⟩
theorem RowsIs.kept {w w' : World} {B n k : Nat} {names : List ByteArray} {gs cs : Nat → Nat} {row : Option Nat} (h : RowsIs w B names n k gs cs) (hg : w.grownBy w' row) (hne : ∀ g, row = some g → g < B) : RowsIs w' B names n k gs cs :=
  ⟨h.inj, h.base, fun j hj => (h.blk j hj).grown hg (fun e => by have := hne _ e.symm; have := h.base j hj; omega)⟩
theorem RowsIs.below {w w' : World} {B n k : Nat} {names : List ByteArray} {gs cs : Nat → Nat} (h : RowsIs w B names n k gs cs) (hb : Below w.heap.size w w') : RowsIs w' B names n k gs cs :=
  ⟨h.inj, h.base, fun j hj => (h.blk j hj).below hb (h.blk j hj).lt⟩
theorem RowsIs.far {w : World} {B n k : Nat} {names : List ByteArray} {gs cs : Nat → Nat} (h : RowsIs w B names n k gs cs) {p : Addr} (hp : ∀ j, j < k → gs j ≠ p.block) (u : Value) : RowsIs (w.setCell p u) B names n k gs cs :=
  ⟨h.inj, h.base, fun j hj => (h.blk j hj).far (hp j hj) u⟩
theorem RowsIs.step {w : World} {B n k : Nat} {names : List ByteArray} {gs cs : Nat → Nat} (h : RowsIs w B names n k gs cs) {j : Nat} (hj : j < k) :
    RowsIs ((w.setCell ⟨gs j, 0, none⟩ (.int .i64 (rowAt (nmAt names j) n (cs j + 1) : Int))).drew) B names n k gs (fun x => if x = j then cs j + 1 else cs x) := by
  refine ⟨h.inj, h.base, fun i hi => ?_⟩
  by_cases hij : i = j
  · subst hij
    have := ((h.blk i hi).set_ 0 (.int .i64 (rowAt (nmAt names i) n (cs i + 1) : Int))).drew
    simpa [rowV] using this
  · simp only [if_neg hij]
    exact ((h.blk i hi).far (fun e => hij (h.inj i j hi hj e)) _).drew
theorem RowsIs.more {w : World} {B n k g : Nat} {names : List ByteArray} {gs cs : Nat → Nat} (h : RowsIs w B names n k gs cs) (hB : B ≤ g) (hne : ∀ j, j < k → gs j ≠ g) (hb : Blk w g 92 (rowV (nmAt names k) n 0)) :
    RowsIs w B names n (k + 1) (fun x => if x = k then g else gs x) (fun x => if x = k then 0 else cs x) := by
  refine ⟨fun i j hi hj he => ?_, fun j hj => ?_, fun j hj => ?_⟩
  · by_cases h1 : i = k <;> by_cases h2 : j = k
    · omega
    · simp only [if_pos h1, if_neg h2] at he
      exact absurd he.symm (hne j (by omega))
    · simp only [if_neg h1, if_pos h2] at he
      exact absurd he (hne i (by omega))
    · simp only [if_neg h1, if_neg h2] at he
      exact h.inj i j (by omega) (by omega) he
  · by_cases h1 : j = k
    · simp only [if_pos h1]; exact hB
    · simp only [if_neg h1]; exact h.base j (by omega)
  · by_cases h1 : j = k
    · subst h1
      simp only [if_pos]; exact hb
    · simp only [if_neg h1]; exact h.blk j (by omega)

/-! The slots. -/
def slotI (hosts names : List ByteArray) (v : Int) : Int := if v < 0 then -1 else idx hosts (nmAt names v.toNat)
def outV (hosts names : List ByteArray) (T : List Int) : List Value := T.map fun v => Value.int .i64 (slotI hosts names v)
theorem outV_start (hosts names : List ByteArray) (n : Nat) : outV hosts names (tab names n 0) = List.replicate n (.int .i64 (-1)) := by
  simp [outV, tab, slotI]
theorem outV_get {hosts names : List ByteArray} {T : List Int} {p : Nat} (hp : p < T.length) : (outV hosts names T).toArray[p]? = some (.int .i64 (slotI hosts names (T.getD p 0))) := by
  simp [outV, hp]
theorem outV_set {hosts names : List ByteArray} {T : List Int} {p j : Nat} : (outV hosts names T).toArray.setIfInBounds p (.int .i64 (idx hosts (nmAt names j))) = (outV hosts names (T.set p (j : Int))).toArray := by
  simp only [List.setIfInBounds_toArray]
  congr 1
  unfold outV
  rw [List.map_set]
  congr 2
theorem slot_free {hosts names : List ByteArray} {m : Nat} {v : Int} (hv : v = -1 ∨ 0 ≤ v ∧ v < m) (hm : m = names.length) (hs : ∀ x ∈ names, x ∈ hosts) : decide (slotI hosts names v ≥ 0) = decide (¬ v < 0) := by
  unfold slotI
  rcases hv with rfl | ⟨h1, h2⟩
  · simp
  · rw [if_neg (by omega)]
    have hl : v.toNat < names.length := by omega
    have hmem : nmAt names v.toNat ∈ hosts := hs _ (by unfold nmAt; rw [List.getD_eq_getElem?_getD, List.getElem?_eq_getElem hl]; exact List.getElem_mem hl)
    obtain ⟨k, _, hk, _⟩ := idx_mem hmem
    rw [hk]
    simp; omega

/-- What table.Make keeps in memory, turn by turn. -/
structure MkSt (w w1 : World) (l names : List ByteArray) (n b ob : Nat) (f : ByteArray → Option Nat) (gs cs : Nat → Nat) (T : List Int) : Prop where
  ptr : PtrIs b names.length f w
  rows : RowsIs w (b + 1) names n names.length gs cs
  out : Blk w ob 3 (outV l names T).toArray
  low : Below b w1 w
  sep : ∀ j, j < names.length → gs j < ob
  hob : b < ob
theorem MkSt.next {w w1 : World} {l names : List ByteArray} {n b ob : Nat} {f : ByteArray → Option Nat} {gs cs : Nat → Nat} {T : List Int} (h : MkSt w w1 l names n b ob f gs cs T) {j : Nat} (hj : j < names.length) :
    MkSt ((w.setCell ⟨gs j, 0, none⟩ (.int .i64 (rowAt (nmAt names j) n (cs j + 1) : Int))).drew) w1 l names n b ob f gs (fun x => if x = j then cs j + 1 else cs x) T := by
  have hbj := h.rows.base j hj
  have hsj := h.sep j hj
  refine ⟨?_, h.rows.step hj, (h.out.far (by show ob ≠ gs j; omega) _).drew, ?_, h.sep, h.hob⟩
  · exact (h.ptr.kept (only_setCell (World.grownBy.refl w _) (.inl rfl) _) (by intro e; injection e with e; have : b = gs j := e; omega)).drew
  · exact below_drew (h.low.setCell (p := ⟨gs j, 0, none⟩) (by show b ≤ gs j; omega) _)
theorem MkSt.put {w w1 : World} {l names : List ByteArray} {n b ob : Nat} {f : ByteArray → Option Nat} {gs cs : Nat → Nat} {T : List Int} (h : MkSt w w1 l names n b ob f gs cs T) (p j : Nat) :
    MkSt (w.setCell ⟨ob, p, none⟩ (.int .i64 (idx l (nmAt names j)))) w1 l names n b ob f gs cs (T.set p (j : Int)) := by
  have ho := h.hob
  refine ⟨?_, h.rows.far (fun i hi => by have := h.sep i hi; show gs i ≠ ob; omega) _, ?_, ?_, h.sep, h.hob⟩
  · exact h.ptr.kept (only_setCell (World.grownBy.refl w _) (.inl rfl) _) (by intro e; injection e with e; have : b = ob := e; omega)
  · rw [← outV_set]; exact h.out.set_ p _
  · exact h.low.setCell (p := ⟨ob, p, none⟩) (by show b ≤ ob; omega) _

/-! What both tables' walks keep. -/
/-- No row has passed a slot that is free. -/
def Passed (names : List ByteArray) (n : Nat) (T : List Int) (cs : Nat → Nat) : Prop := ∀ j, j < names.length → cs j ≤ n ∧ ∀ i, i < cs j → ¬ T.getD (rowAt (nmAt names j) n i) 0 < 0
theorem Passed.start (names : List ByteArray) (n : Nat) (T : List Int) : Passed names n T (fun _ => 0) := fun _ _ => ⟨Nat.zero_le _, fun _ h => absurd h (Nat.not_lt_zero _)⟩
theorem getD_set_keep {T : List Int} {p q j : Nat} (h : ¬ T.getD p 0 < 0) : ¬ (T.set q (j : Int)).getD p 0 < 0 := by
  rw [List.getD_eq_getElem?_getD, List.getElem?_set]
  by_cases hq : q = p
  · subst hq
    by_cases hl : q < T.length
    · rw [if_pos rfl, if_pos hl]; simp
    · rw [if_pos rfl, if_neg hl]; simp
  · rw [if_neg hq, ← List.getD_eq_getElem?_getD]; exact h
theorem getD_set_new {T : List Int} {q j : Nat} (hq : q < T.length) : ¬ (T.set q (j : Int)).getD q 0 < 0 := by
  rw [List.getD_eq_getElem?_getD, List.getElem?_set, if_pos rfl, if_pos hq]; simp
theorem Passed.turn {names : List ByteArray} {n t c : Nat} {cs : Nat → Nat} (hn : 2 ≤ n) (h : Passed names n (tab names n t) cs) (hc : c < n) (hff : firstFree (nmAt names (t % names.length)) n (tab names n t) = c) (hall : ∀ i, i < c → ¬ (tab names n t).getD (rowAt (nmAt names (t % names.length)) n i) 0 < 0) :
    Passed names n (tab names n (t + 1)) (fun x => if x = t % names.length then c + 1 else cs x) := by
  intro j hj
  have e : tab names n (t + 1) = (tab names n t).set (rowAt (nmAt names (t % names.length)) n c) ((t % names.length : Nat) : Int) := by
    unfold nmAt at hff ⊢
    rw [tab, hff]
  rw [e]
  by_cases hjt : j = t % names.length
  · subst hjt
    simp only [if_pos]
    refine ⟨by omega, fun i hi => ?_⟩
    rcases Nat.lt_succ_iff_lt_or_eq.1 hi with h1 | rfl
    · exact getD_set_keep (hall i h1)
    · exact getD_set_new (by rw [tab_length]; exact rowAt_lt _ _ hn)
  · simp only [if_neg hjt]
    exact ⟨(h j hj).1, fun i hi => getD_set_keep ((h j hj).2 i hi)⟩
theorem tab_next {names : List ByteArray} {n t c : Nat} (hff : firstFree (nmAt names (t % names.length)) n (tab names n t) = c) : tab names n (t + 1) = (tab names n t).set (rowAt (nmAt names (t % names.length)) n c) ((t % names.length : Nat) : Int) := by
  unfold nmAt at hff ⊢
  rw [tab, hff]
end Go.Proofs.YtbbbnnooaaelmaaDoor
