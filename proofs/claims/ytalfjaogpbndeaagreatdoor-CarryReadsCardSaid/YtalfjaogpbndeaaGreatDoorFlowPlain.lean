/-
  Flows in plain words: a list that rises by key; a datum for a map's block.
-/
import Derived.Test.YtalfjaogpbndeaaGreatDoorBase
import Derived.Maps.OwnSet
import Derived.Maps.OwnOps
import Derived.Maps.Views
import Derived.Maps.Ext
import Derived.Maps.RangeWalk
namespace Go.Proofs.YtalfjaogpbndeaaGreatDoor
open Go.RowKit Go.Maps Go.WideMaps

/-- A flow. -/
structure Fl where
  key : Nat
  host : ByteArray
  til : Int
theorem Fl.ext3 {x y : Fl} (h1 : x.key = y.key) (h2 : x.host = y.host) (h3 : x.til = y.til) : x = y := by cases x; cases y; simp_all
def flV (x : Fl) : Value := .agg #[.int .u64 (x.key : Int), .string x.host, .int .i64 x.til]
def flC (x : Fl) : List Value := [.int .u64 (x.key : Int), .string x.host, .int .i64 x.til]
def flsC : List Fl → List Value
  | [] => []
  | x :: r => flC x ++ flsC r
theorem flsC_length (l : List Fl) : (flsC l).length = l.length * 3 := by
  induction l with
  | nil => rfl
  | cons x r ih => simp [flsC, flC, ih]; omega
theorem flsC_append (a b : List Fl) : flsC (a ++ b) = flsC a ++ flsC b := by
  induction a with
  | nil => rfl
  | cons x r ih => simp [flsC, ih]
theorem flsC_get {l : List Fl} {k : Nat} (h : k < l.length) : (flsC l)[k * 3]? = some (.int .u64 (l[k].key : Int)) ∧ (flsC l)[k * 3 + 1]? = some (.string l[k].host) ∧ (flsC l)[k * 3 + 2]? = some (.int .i64 l[k].til) := by
  induction l generalizing k with
  | nil => simp at h
  | cons x r ih =>
    cases k with
    | zero => exact ⟨rfl, rfl, rfl⟩
    | succ k =>
      have hk : k < r.length := by simpa using h
      obtain ⟨h1, h2, h3⟩ := ih hk
      have e : ∀ j, (flsC (x :: r))[(k + 1) * 3 + j]? = (flsC r)[k * 3 + j]? := fun j => by
        show (flC x ++ flsC r)[(k + 1) * 3 + j]? = _
        rw [List.getElem?_append_right (by simp [flC]; omega)]
        congr 1
        simp [flC]; omega
      exact ⟨(e 0).trans h1, (e 1).trans h2, (e 2).trans h3⟩
theorem flsC_take (l : List Fl) (k : Nat) : (flsC l).take (k * 3) = flsC (l.take k) := by
  induction l generalizing k with
  | nil => simp [flsC]
  | cons x r ih =>
    cases k with
    | zero => simp [flsC]
    | succ k =>
      show (flC x ++ flsC r).take ((k + 1) * 3) = flC x ++ flsC (r.take k)
      rw [List.take_append, List.take_of_length_le (by simp [flC]; omega), show (k + 1) * 3 - (flC x).length = k * 3 by simp [flC]; omega, ih]
theorem flsC_drop (l : List Fl) (k : Nat) : (flsC l).drop (k * 3) = flsC (l.drop k) := by
  induction l generalizing k with
  | nil => simp [flsC]
  | cons x r ih =>
    cases k with
    | zero => simp [flsC]
    | succ k =>
      show (flC x ++ flsC r).drop ((k + 1) * 3) = flsC (r.drop k)
      rw [List.drop_append, List.drop_eq_nil_of_le (by simp [flC]; omega), show (k + 1) * 3 - (flC x).length = k * 3 by simp [flC]; omega, ih]
      rfl
theorem flsC_one (l : List Fl) : ∀ u ∈ flsC l, u.oneCell' = true := by
  induction l with
  | nil => simp [flsC]
  | cons x r ih =>
    intro u hu
    rcases List.mem_append.1 (show u ∈ flC x ++ flsC r from hu) with h | h
    · simp [flC] at h
      rcases h with rfl | rfl | rfl <;> rfl
    · exact ih u h

/-- By key. -/
def Rise (l : List Fl) : Prop := l.Pairwise fun x y => x.key < y.key
def insF (x : Fl) : List Fl → List Fl
  | [] => [x]
  | y :: r => if x.key < y.key then x :: y :: r else y :: insF x r
def delF (k : Nat) (l : List Fl) : List Fl := l.filter fun y => !decide (y.key = k)
def findF (l : List Fl) (k : Nat) : Option Fl := l.find? fun y => decide (y.key = k)
theorem mem_insF {x y : Fl} {l : List Fl} : y ∈ insF x l ↔ y = x ∨ y ∈ l := by
  induction l with
  | nil => simp [insF]
  | cons z r ih =>
    unfold insF
    split
    · simp
    · simp [ih]; constructor
      · rintro (h | h | h) <;> simp [h]
      · rintro (h | h | h) <;> simp [h]
theorem Rise.ins {x : Fl} {l : List Fl} (h : Rise l) (hx : ∀ y ∈ l, y.key ≠ x.key) : Rise (insF x l) := by
  induction l with
  | nil => exact List.pairwise_singleton _ _
  | cons z r ih =>
    obtain ⟨h1, h2⟩ := List.pairwise_cons.1 h
    unfold insF
    split
    · rename_i hlt
      refine List.pairwise_cons.2 ⟨fun y hy => ?_, h⟩
      rcases List.mem_cons.1 hy with rfl | hy
      · exact hlt
      · have := h1 y hy; omega
    · rename_i hlt
      refine List.pairwise_cons.2 ⟨fun y hy => ?_, ih h2 fun y hy => hx y (List.mem_cons_of_mem _ hy)⟩
      have hz := hx z (List.mem_cons_self ..)
      rcases mem_insF.1 hy with rfl | hy
      · omega
      · exact h1 y hy
theorem Rise.filter {l : List Fl} (h : Rise l) (p : Fl → Bool) : Rise (l.filter p) := List.Pairwise.filter p h
theorem Rise.del {l : List Fl} (h : Rise l) (k : Nat) : Rise (delF k l) := h.filter _
theorem delF_key {k : Nat} {l : List Fl} {y : Fl} (h : y ∈ delF k l) : y.key ≠ k := by
  have := (List.mem_filter.1 h).2
  simpa using this
theorem delF_mem {k : Nat} {l : List Fl} {y : Fl} (h : y ∈ delF k l) : y ∈ l := (List.mem_filter.1 h).1
theorem Rise.put {x : Fl} {l : List Fl} (h : Rise l) : Rise (insF x (delF x.key l)) := (h.del x.key).ins fun _ hy => delF_key hy
theorem insF_length (x : Fl) (l : List Fl) : (insF x l).length = l.length + 1 := by
  induction l with
  | nil => rfl
  | cons z r ih => unfold insF; split <;> simp [ih]
theorem Rise.inj {l : List Fl} (h : Rise l) {x y : Fl} (hx : x ∈ l) (hy : y ∈ l) (hk : x.key = y.key) : x = y := by
  induction l with
  | nil => cases hx
  | cons z r ih =>
    obtain ⟨h1, h2⟩ := List.pairwise_cons.1 h
    rcases List.mem_cons.1 hx with e1 | hx1 <;> rcases List.mem_cons.1 hy with e2 | hy1
    · rw [e1, e2]
    · have := h1 y hy1; rw [e1] at hk; omega
    · have := h1 x hx1; rw [e2] at hk; omega
    · exact ih h2 hx1 hy1
theorem findF_some {l : List Fl} {k : Nat} {x : Fl} (h : findF l k = some x) : x ∈ l ∧ x.key = k := ⟨List.mem_of_find?_eq_some h, by simpa using List.find?_some h⟩
theorem findF_none {l : List Fl} {k : Nat} (h : findF l k = none) : ∀ x ∈ l, x.key ≠ k := fun x hx => by simpa using List.find?_eq_none.1 h x hx
theorem findF_mem {l : List Fl} (h : Rise l) {x : Fl} (hx : x ∈ l) : findF l x.key = some x := by
  cases hf : findF l x.key with
  | none => exact absurd rfl (findF_none hf x hx)
  | some y => rw [h.inj (findF_some hf).1 hx (findF_some hf).2]
theorem delF_none {l : List Fl} {k : Nat} (h : ∀ x ∈ l, x.key ≠ k) : delF k l = l := List.filter_eq_self.2 fun x hx => by simpa using h x hx
theorem delF_length {l : List Fl} (hr : Rise l) {x : Fl} (hx : x ∈ l) : (delF x.key l).length + 1 = l.length := by
  induction l with
  | nil => cases hx
  | cons z r ih =>
    obtain ⟨h1, h2⟩ := List.pairwise_cons.1 hr
    rcases List.mem_cons.1 hx with rfl | hx
    · have : delF x.key (x :: r) = r := by
        unfold delF
        rw [List.filter_cons_of_neg (by simp)]
        exact delF_none fun y hy => by have := h1 y hy; omega
      rw [this]; rfl
    · have hne : z.key ≠ x.key := by have := h1 x hx; omega
      have : delF x.key (z :: r) = z :: delF x.key r := by unfold delF; rw [List.filter_cons_of_pos (by simpa using hne)]
      rw [this, List.length_cons, ih h2 hx, List.length_cons]
theorem nodup_of_rise {l : List Fl} (h : Rise l) : l.Nodup := h.imp fun hlt e => by rw [e] at hlt; omega
theorem rise_unique {a b : List Fl} (ha : Rise a) (hb : Rise b) (hp : a.Perm b) : a = b :=
  List.Perm.eq_of_pairwise (le := fun (x y : Fl) => x.key < y.key) (fun _ _ _ _ h1 h2 => by omega) ha hb hp

/-- The datum of a flow; of a map of flows. -/
def flD (x : Fl) : DataW Unit := .agg [.lit (.int .u64 (x.key : Int)), .lit (.string x.host.data.toList), .lit (.int .i64 x.til)]
theorem ba_ext2 {a b : ByteArray} (h : a.data.toList = b.data.toList) : a = b := by
  cases a; cases b; simp at h; rw [h]
theorem flD_inj {x y : Fl} (h : flD x = flD y) : x = y := by
  unfold flD at h
  injection h with h
  simp only [List.cons.injEq, and_true] at h
  obtain ⟨h1, h2, h3⟩ := h
  injection h1 with h1; injection h2 with h2; injection h3 with h3
  injection h1 with _ h1; injection h2 with h2; injection h3 with _ h3
  exact Fl.ext3 (by omega) (ba_ext2 h2) h3
def rFl : Value → Option (DataW Unit × List MemPlace)
  | .agg cs => match cs.toList with
    | [.int .u64 (.ofNat k), .string s, .int .i64 t] => some (flD ⟨k, s, t⟩, [])
    | _ => none
  | _ => none
theorem rFl_mk (x : Fl) : rFl (flV x) = some (flD x, []) := rfl
theorem rFl_some {v : Value} {z : DataW Unit × List MemPlace} (h : rFl v = some z) : ∃ x, v = flV x ∧ z = (flD x, []) := by
  unfold rFl at h
  split at h
  · rename_i cs
    split at h
    · rename_i k s t hcs
      refine ⟨⟨k, s, t⟩, ?_, (Option.some.inj h).symm⟩
      unfold flV
      congr 1
      apply Array.toList_inj.1
      rw [hcs]; rfl
    · cases h
  · cases h
def lk (k : Nat) : Lit := .int .u64 (k : Int)
def flM (l : List Fl) : DataW Unit := .map (l.map fun x => (lk x.key, flD x))
theorem lk_same (a b : Nat) : (lk a).sameKey (lk b) = decide (a = b) := by
  show decide (IntKind.u64 = IntKind.u64 ∧ (a : Int) = (b : Int)) = _
  exact decide_eq_decide.2 ⟨fun h => by have := h.2; omega, fun h => ⟨rfl, by omega⟩⟩
theorem flM_insert (x : Fl) (l : List Fl) : DataW.insert (lk x.key, flD x) (l.map fun x => (lk x.key, flD x)) = (insF x l).map fun x => (lk x.key, flD x) := by
  induction l with
  | nil => rfl
  | cons y r ih =>
    have e : (lk x.key).before (lk y.key) = decide (x.key < y.key) := by
      show decide ((x.key : Int) < (y.key : Int)) = _
      simp
    unfold insF
    rw [List.map_cons]
    show (if (lk x.key).before (lk y.key) = true then _ else _) = _
    rw [e]
    by_cases h : x.key < y.key
    · simp [h]
    · simp only [h, decide_false, if_false, Bool.false_eq_true, List.map_cons]
      rw [← ih]
theorem flM_strike (k : Nat) (l : List Fl) : (l.map fun x => (lk x.key, flD x)).filter (fun p => !p.1.sameKey (lk k)) = (delF k l).map fun x => (lk x.key, flD x) := by
  rw [List.filter_map]
  unfold delF
  congr 1
  refine List.filter_congr fun x _ => ?_
  show (!(lk x.key).sameKey (lk k)) = _
  rw [lk_same]
theorem flM_put (x : Fl) (l : List Fl) : (flM l).put (lk x.key) (flD x) = flM (insF x (delF x.key l)) := by
  show DataW.map _ = _
  rw [flM_strike, flM_insert]; rfl
theorem flM_del (k : Nat) (l : List Fl) : (flM l).del (lk k) = flM (delF k l) := by
  show DataW.map _ = _
  rw [flM_strike]; rfl
theorem flM_has (l : List Fl) (k : Nat) : has (flM l) (lk k) = (findF l k).isSome := by
  unfold flM findF
  rw [has_eq, List.any_map]
  induction l with
  | nil => rfl
  | cons x r ih =>
    rw [List.any_cons, List.find?_cons, ih]
    show ((lk x.key).sameKey (lk k) || _) = _
    rw [lk_same]
    by_cases h : x.key = k <;> simp [h]
theorem flM_at (l : List Fl) (k : Nat) (z : DataW Unit) : (flM l).atKey (lk k) z = match findF l k with | some x => flD x | none => z := by
  unfold flM findF
  dsimp only [DataW.atKey]
  induction l with
  | nil => rfl
  | cons x r ih =>
    rw [List.map_cons, List.find?_cons, List.find?_cons]
    dsimp only
    rw [lk_same]
    by_cases h : x.key = k
    · simp [h]
    · simp only [h, decide_false]
      exact ih
theorem flM_size (l : List Fl) : Maps.size (flM l) = l.length := by
  unfold flM
  rw [size_eq, List.length_map]
theorem flM_filter (p : Fl → Bool) (pd : Lit → DataW Unit → Bool) (hp : ∀ x, pd (lk x.key) (flD x) = p x) (l : List Fl) : (l.map fun x => (lk x.key, flD x)).filter (fun e => !pd e.1 e.2) = (l.filter fun x => !p x).map fun x => (lk x.key, flD x) := by
  rw [List.filter_map]
  congr 1
  refine List.filter_congr fun x _ => ?_
  show (!pd (lk x.key) (flD x)) = _
  rw [hp]
end Go.Proofs.YtalfjaogpbndeaaGreatDoor
