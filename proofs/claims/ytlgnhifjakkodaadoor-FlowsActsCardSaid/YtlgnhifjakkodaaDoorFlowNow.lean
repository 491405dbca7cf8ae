/-
  The law FlowsActs: what stands in a round; each act, the program's and the reference's.
-/
import Derived.Test.YtlgnhifjakkodaaDoorFlowOps
import Derived.Test.YtlgnhifjakkodaaDoorAddOk
import Derived.Test.YtlgnhifjakkodaaDoorSameFlows
import Derived.Test.YtlgnhifjakkodaaDoorFaulted2
import Derived.Test.YtlgnhifjakkodaaDoorArgFlowActs
namespace Go.Proofs.YtlgnhifjakkodaaDoor
open Go.RowKit

theorem notRow_map {w : World} {b : Nat} {L : List Fl} (h : FlMap w b L) : NotRow w b := fun cs fz h2 => by
  obtain ⟨es, clock, hb, _⟩ := h.own
  rw [hb] at h2
  cases h2
theorem map_ne_blk {w : World} {b g : Nat} {L : List Fl} {t : TypeId} {cs : Array Value} (h : FlMap w b L) (hg : Blk w g t cs) : g ≠ b := by
  rintro rfl
  obtain ⟨es, clock, hb, _⟩ := h.own
  unfold Blk at hg
  rw [hb] at hg
  cases hg
def RAt (w : World) (B mp time : Nat) (s : FS) : Prop := ∃ sv, RFs w B mp time s.1 s.2 sv
abbrev factC (a : FAct) : Array Value := #[.string a.kind, .string a.host, .int .u64 (a.key : Int), .int .i64 a.now, .slice a.A a.L.length a.cap]
/-- What stands in a round: s the program's flows, r the reference's. -/
structure FNow (w W : World) (fp mb mp bx time : Nat) (s r : FS) (a : FAct) : Prop where
  f : FlowsR W fp mb time s.1 s.2
  m : RAt W w.heap.size mp time r
  b : Below w.heap.size w W
  x : Blk W bx 47 (factC a)
  af : w.heap.size ≤ fp
  am : w.heap.size ≤ mb
theorem FNow.amp {w W : World} {fp mb mp bx time : Nat} {s r : FS} {a : FAct} (h : FNow w W fp mb mp bx time s r a) : w.heap.size ≤ mp := by obtain ⟨sv, h⟩ := h.m; exact h.base
section
variable {w W W' : World} {fp mb mp bx time : Nat} {s r s' r' : FS} {a : FAct} {ea : Nat → Addr}
theorem FNow.below (h : FNow w W fp mb mp bx time s r a) (hb : Below W.heap.size W W') : FNow w W' fp mb mp bx time s r a := by
  obtain ⟨sv, hm⟩ := h.m
  exact ⟨h.f.below hb, ⟨sv, hm.below hb⟩, below_two h.b hb, h.x.below hb h.x.lt, h.af, h.am⟩
theorem FNow.drewN (h : FNow w W fp mb mp bx time s r a) (m : Nat) : FNow w (W.drewN m) fp mb mp bx time s r a := h.below (below_drewN (Below.refl _ _) m)
theorem FNow.drew (h : FNow w W fp mb mp bx time s r a) : FNow w W.drew fp mb mp bx time s r a := h.drewN 1
theorem FNow.keepF (h : FNow w W fp mb mp bx time s r a) (hf : FlowsR W' fp mb time s'.1 s'.2) (ht : Turn [fp, mb] W W') : FNow w W' fp mb mp bx time s' r a := by
  obtain ⟨sv, hm⟩ := h.m
  have n1 := hm.blk.ne_ h.f.blk (by decide)
  have n2 := map_ne_blk h.f.map hm.blk
  have n3 := h.x.ne_ h.f.blk (by decide)
  have n4 := map_ne_blk h.f.map h.x
  refine ⟨hf, ⟨sv, hm.turn ht (by simp; exact ⟨n1, n2⟩) fun g hg => ?_⟩, h.b.trans (ht.below h.b.size (by simp; exact ⟨h.af, h.am⟩)), ht.blk h.x (by simp; exact ⟨n3, n4⟩), h.af, h.am⟩
  simp only [List.mem_cons, List.not_mem_nil, or_false] at hg
  rcases hg with rfl | rfl
  · exact notRow_blk h.f.blk (by decide)
  · exact notRow_map h.f.map
theorem FNow.keepM (h : FNow w W fp mb mp bx time s r a) (hm' : RAt W' w.heap.size mp time r') (ht : Turn [mp] W W') : FNow w W' fp mb mp bx time s r' a := by
  obtain ⟨sv, hm⟩ := h.m
  have n1 := hm.blk.ne_ h.f.blk (by decide)
  have n2 := map_ne_blk h.f.map hm.blk
  have n3 := h.x.ne_ hm.blk (by decide)
  exact ⟨h.f.turn ht (by simpa using n1.symm) (by simpa using n2.symm), hm', h.b.trans (ht.below h.b.size (by simpa using h.amp)), ht.blk h.x (by simpa using n3), h.af, h.am⟩
theorem FNow.c0 (h : FNow w W fp mb mp bx time s r a) : W.cell? ⟨bx, 0, none⟩ = some (.string a.kind) := h.x.cell 0
theorem FNow.c1 (h : FNow w W fp mb mp bx time s r a) : W.cell? ⟨bx, 1, none⟩ = some (.string a.host) := h.x.cell 1
theorem FNow.c2 (h : FNow w W fp mb mp bx time s r a) : W.cell? ⟨bx, 2, none⟩ = some (.int .u64 (a.key : Int)) := h.x.cell 2
theorem FNow.c3 (h : FNow w W fp mb mp bx time s r a) : W.cell? ⟨bx, 3, none⟩ = some (.int .i64 a.now) := h.x.cell 3
theorem FNow.c4 (h : FNow w W fp mb mp bx time s r a) : W.cell? ⟨bx, 4, none⟩ = some (.slice a.A a.L.length a.cap) := h.x.cell 4
theorem FNow.c123 (h : FNow w W fp mb mp bx time s r a) : W.cell? ⟨bx, 1, none⟩ = some (.string a.host) ∧ W.cell? ⟨bx, 2, none⟩ = some (.int .u64 (a.key : Int)) ∧ W.cell? ⟨bx, 3, none⟩ = some (.int .i64 a.now) := ⟨h.c1, h.c2, h.c3⟩
def ThenF (v : Value) (P : World → Prop) (e : Ending) (w' : World) : Prop := e = .returned v ∧ P w'
abbrev fpP (fp : Nat) : Value := .pointer (some ⟨fp, 0, none⟩)
/-! The program's. -/
theorem fnow_put (k : Nat) (hE : ErrsF ea w) (h : FNow w W fp mb mp bx time s r a) (hU : U64 k) (hx : a.host.size ≤ maxLen) :
    Calls Tryd.prog 7 #[.pointer (some ⟨fp, 0, none⟩), .int .u64 (k : Int), .string a.host, .int .i64 a.now] W (ThenF (errZ ea (putS time s k a.host a.now).1) fun w' => FNow w w' fp mb mp bx time (putS time s k a.host a.now).2 r a) :=
  (put_all k a.host a.now (hE.below h.b) h.f hU hx).mono fun _ _ ⟨x, y, z⟩ => ⟨x, h.keepF y z⟩
theorem fnow_get (hE : ErrsF ea w) (h : FNow w W fp mb mp bx time s r a) (hU : U64 a.key) :
    Calls Tryd.prog 9 #[.pointer (some ⟨fp, 0, none⟩), .int .u64 (a.key : Int), .int .i64 a.now] W (ThenF (gotZ ea (getS s a.key a.now).1 (getS s a.key a.now).2.1) fun w' => FNow w w' fp mb mp bx time (getS s a.key a.now).2.2 r a) :=
  (get_all a.key a.now (hE.below h.b) h.f hU).mono fun _ _ ⟨x, y, z⟩ => ⟨x, h.keepF y z⟩
theorem fnow_exp (hE : ErrsF ea w) (h : FNow w W fp mb mp bx time s r a) :
    Calls Tryd.prog 11 #[.pointer (some ⟨fp, 0, none⟩), .int .i64 a.now] W (ThenF (.tuple #[.int .i64 ((expS s a.now).1 : Int), errZ ea (expS s a.now).2.1]) fun w' => FNow w w' fp mb mp bx time (expS s a.now).2.2 r a) :=
  (exp_all a.now (hE.below h.b) h.f).mono fun _ _ ⟨x, y, z⟩ => ⟨x, h.keepF y z⟩
theorem fnow_drop (h : FNow w W fp mb mp bx time s r a) :
    Calls Tryd.prog 8 #[.pointer (some ⟨fp, 0, none⟩), .string a.host] W (ThenF (.int .i64 ((dropS s a.host).1 : Int)) fun w' => FNow w w' fp mb mp bx time (dropS s a.host).2 r a) :=
  (drop_all a.host h.f).mono fun _ _ ⟨x, y, z⟩ => ⟨x, h.keepF y z⟩
/-! The reference's. -/
theorem fnow_rput (k : Nat) (h : FNow w W fp mb mp bx time s r a) (hr : Rise r.2) (ht : time ≤ 1000) (hx : a.host.size ≤ maxLen) :
    Calls Tryd.prog 14 #[.pointer (some ⟨mp, 0, none⟩), .int .u64 (k : Int), .string a.host, .int .i64 a.now] W (ThenF (.int .i64 ((putS time r k a.host a.now).1 : Int)) fun w' => FNow w w' fp mb mp bx time s (putS time r k a.host a.now).2 a) := by
  obtain ⟨sv, hm⟩ := h.m
  unfold putS
  by_cases hn : isName a.host = true
  · rw [if_pos hn]
    by_cases ht0 : tickE r.1 a.now = 0
    · rw [if_pos ht0]
      obtain ⟨n, hn2, h1, h2⟩ := tickE_ok ht0
      rw [hn2]
      exact (ref_put_ok k a.host n W hm hr h.b.size hx hn h1 h2 (by omega)).mono fun e w' ⟨x, sv', y, z⟩ => ⟨x, h.keepM ⟨sv', y⟩ z⟩
    · rw [if_neg ht0]
      exact (ref_put_tick k a.host a.now W hm ht0).mono fun e w' ⟨x, y⟩ => ⟨x, by rw [← y]; exact h⟩
  · rw [if_neg hn]
    by_cases ht0 : tickE r.1 a.now = 0
    · rw [if_pos ht0]
      exact (ref_put_name k a.host a.now W hm ht0 hx (by simpa using hn)).mono fun e w' ⟨x, y⟩ => ⟨x, by rw [← y]; exact h⟩
    · rw [if_neg ht0]
      exact (ref_put_tick k a.host a.now W hm ht0).mono fun e w' ⟨x, y⟩ => ⟨x, by rw [← y]; exact h⟩
theorem fnow_rget (h : FNow w W fp mb mp bx time s r a) (hr : Rise r.2) :
    Calls Tryd.prog 15 #[.pointer (some ⟨mp, 0, none⟩), .int .u64 (a.key : Int), .int .i64 a.now] W (ThenF (gotN (getS r a.key a.now).1 (getS r a.key a.now).2.1) fun w' => FNow w w' fp mb mp bx time s (getS r a.key a.now).2.2 a) := by
  obtain ⟨sv, hm⟩ := h.m
  unfold getS
  by_cases ht0 : tickE r.1 a.now = 0
  · rw [if_pos ht0]
    obtain ⟨n, hn2, h1, h2⟩ := tickE_ok ht0
    rw [hn2]
    refine (ref_get_ok a.key n W hm hr h1 h2).mono fun e w' ⟨x, sv', y, z⟩ => ⟨?_, h.keepM ⟨sv', y⟩ z⟩
    rw [x]
    dsimp only
    cases getF r.2 a.key (n : Int) <;> rfl
  · rw [if_neg ht0]
    exact (ref_get_bad a.key a.now W hm ht0).mono fun e w' ⟨x, y⟩ => ⟨x, by rw [← y]; exact h⟩
theorem fnow_rexp (h : FNow w W fp mb mp bx time s r a) :
    Calls Tryd.prog 16 #[.pointer (some ⟨mp, 0, none⟩), .int .i64 a.now] W (ThenF (.tuple #[.int .i64 ((expS r a.now).1 : Int), .int .i64 ((expS r a.now).2.1 : Int)]) fun w' => FNow w w' fp mb mp bx time s (expS r a.now).2.2 a) := by
  obtain ⟨sv, hm⟩ := h.m
  unfold expS
  by_cases ht0 : tickE r.1 a.now = 0
  · rw [if_pos ht0]
    obtain ⟨n, hn2, h1, h2⟩ := tickE_ok ht0
    rw [hn2]
    exact (ref_expire_ok n W hm h.b.size h1 h2).mono fun e w' ⟨x, sv', y, z⟩ => ⟨x, h.keepM ⟨sv', y⟩ z⟩
  · rw [if_neg ht0]
    exact (ref_expire_bad a.now W hm ht0).mono fun e w' ⟨x, y⟩ => ⟨x, by rw [← y]; exact h⟩
theorem fnow_rdrop (h : FNow w W fp mb mp bx time s r a) :
    Calls Tryd.prog 17 #[.pointer (some ⟨mp, 0, none⟩), .string a.host] W (ThenF (.int .i64 ((dropS r a.host).1 : Int)) fun w' => FNow w w' fp mb mp bx time s (dropS r a.host).2 a) := by
  obtain ⟨sv, hm⟩ := h.m
  exact (ref_dropH_ok a.host W hm h.b.size).mono fun e w' ⟨x, sv', y, z⟩ => ⟨x, h.keepM ⟨sv', y⟩ z⟩
/-! Add. -/
/-- What Add makes: how many, a fault, the flows. -/
def addS (s : FS) (xs : List Fl) (now : Int) : Nat × Option Flt × FS :=
  if tickE s.1 now = 0 then (match badAt xs with | some i => (0, some ⟨4, some i⟩, s) | none => ((addF now s.2 xs).length - s.2.length, none, now.toNat, addF now s.2 xs)) else (0, some ⟨tickE s.1 now, none⟩, s)
/-- An error at a value. -/
def ErrIs (ea : Nat → Addr) (w : World) (o : Option Flt) (v : Value) : Prop := match o with | none => v = .nilIface | some f => 1 ≤ f.code ∧ f.code ≤ 9 ∧ ∃ t a, v = .iface t (.pointer (some a)) ∧ IsErr ea w f t a
theorem ErrIs.below {w w' : World} {ea : Nat → Addr} {o : Option Flt} {v : Value} (h : ErrIs ea w o v) (hb : Below w.heap.size w w') : ErrIs ea w' o v := by
  cases o with
  | none => exact h
  | some f => obtain ⟨h1, h2, t, a, h3, h4⟩ := h; exact ⟨h1, h2, t, a, h3, h4.below hb⟩
theorem ErrIs.turn {w w' : World} {ea : Nat → Addr} {o : Option Flt} {v : Value} {g : Nat} {t : TypeId} {cs : Array Value} (h : ErrIs ea w o v) (hb : Turn [g] w w') (hg : Blk w g t cs) (ht : t ≠ 86) : ErrIs ea w' o v := by
  cases o with
  | none => exact h
  | some f =>
    obtain ⟨h1, h2, t, a, h3, h4⟩ := h
    refine ⟨h1, h2, t, a, h3, ?_⟩
    unfold IsErr at h4 ⊢
    split
    · rename_i hf; rw [hf] at h4; exact h4
    · rename_i i hf
      rw [hf] at h4
      obtain ⟨ht', b, ha, hB⟩ := h4
      exact ⟨ht', b, ha, hb.blk hB (by simpa using (hB.ne_ hg (Ne.symm ht)))⟩
def AddP (ea : Nat → Addr) (n : Nat) (o : Option Flt) (P : World → Prop) (e : Ending) (w' : World) : Prop := ∃ v, e = .returned (.tuple #[.int .i64 (n : Int), v]) ∧ ErrIs ea w' o v ∧ P w'
theorem fnow_add {A : Option Addr} {cap : Nat} {xs : List Fl} (hE : ErrsF ea w) (h : FNow w W fp mb mp bx time s r a) (hx : Reads W W.heap.size 3 A xs.length (flsC xs)) (hA : 0 < xs.length → ∃ g, A = some ⟨g, 0, none⟩ ∧ g ∉ [fp, mb]) (hl : xs.length ≤ 1000) (hs : ∀ x ∈ xs, x.host.size ≤ maxLen) (hu : ∀ x ∈ xs, U64 x.key) :
    Calls Tryd.prog 18 #[.pointer (some ⟨fp, 0, none⟩), .slice A xs.length cap, .int .i64 a.now] W (AddP ea (addS s xs a.now).1 (addS s xs a.now).2.1 fun w' => FNow w w' fp mb mp bx time (addS s xs a.now).2.2 r a) := by
  unfold addS
  by_cases ht : tickE s.1 a.now = 0
  · rw [if_pos ht]
    cases hb : badAt xs with
    | some i =>
      dsimp only
      exact (addF_name ea a.now W (hE.below h.b) h.f ht hx (Nat.le_refl _) (fun h0 => by obtain ⟨g, hg, _⟩ := hA h0; exact ⟨g, hg⟩) hl hs hb).mono fun e w' ⟨t, ad, x, y, z⟩ => ⟨_, x, ⟨by dsimp only; omega, by dsimp only; omega, t, ad, rfl, y⟩, h.below z⟩
    | none =>
      dsimp only
      obtain ⟨n, hn2, h1, h2⟩ := tickE_ok ht
      rw [hn2]
      exact (addF_ok n W h.f h1 h2 hx hA hl hs hu hb).mono fun e w' ⟨x, y, z⟩ => ⟨_, x, rfl, h.keepF y z⟩
  · rw [if_neg ht]
    refine (add_tick ea (.slice A xs.length cap) a.now W (hE.below h.b) h.f ht).mono fun e w' ⟨x, y⟩ => ⟨_, x, ?_, h.below y⟩
    have hc := tickE_code ht
    refine ⟨by dsimp only; omega, by dsimp only; omega, _, _, rfl, rfl, rfl⟩
theorem fnow_radd {A : Option Addr} {cap : Nat} {xs : List Fl} (h : FNow w W fp mb mp bx time s r a) (hx : Reads W w.heap.size 3 A xs.length (flsC xs)) (hl : xs.length ≤ 1000) (hs : ∀ x ∈ xs, x.host.size ≤ maxLen) (htl : ∀ x ∈ xs, -9223372036854775808 ≤ x.til ∧ x.til ≤ 9223372036854775807) :
    Calls Tryd.prog 20 #[.pointer (some ⟨mp, 0, none⟩), .slice A xs.length cap, .int .i64 a.now] W (ThenF (.tuple #[.int .i64 ((addS r xs a.now).1 : Int), .agg #[.int .i64 (fCode (addS r xs a.now).2.1 : Int), .int .i64 (fAt (addS r xs a.now).2.1)]]) fun w' => FNow w w' fp mb mp bx time s (addS r xs a.now).2.2 a ∧ ∀ o v, ErrIs ea W o v → ErrIs ea w' o v) := by
  obtain ⟨sv, hm⟩ := h.m
  unfold addS
  by_cases ht : tickE r.1 a.now = 0
  · rw [if_pos ht]
    cases hb : badAt xs with
    | some i =>
      dsimp only
      exact (ref_add_name a.now W hm (hx.more h.b.size) (Nat.le_refl _) hl hs ht hb).mono fun e w' ⟨x, y⟩ => ⟨x, h.below y, fun o v hi => hi.below y⟩
    | none =>
      dsimp only
      obtain ⟨n, hn2, h1, h2⟩ := tickE_ok ht
      rw [hn2]
      have hb' : ∀ x ∈ xs, isName x.host = true := by
        unfold badAt at hb
        rw [List.findIdx?_eq_none_iff] at hb
        intro x hx
        simpa using hb x hx
      exact (ref_add_ok n W hm h.b.size hx h.amp hl hs htl h1 h2 hb').mono fun e w' ⟨x, sv', y, z⟩ => ⟨x, h.keepM ⟨sv', y⟩ z, fun o v hi => hi.turn z hm.blk (by decide)⟩
  · rw [if_neg ht]
    exact (ref_add_tick (.slice A xs.length cap) a.now W hm ht).mono fun e w' ⟨x, y⟩ => ⟨x, h.below y, fun o v hi => hi.below y⟩
/-! What is asked of them. -/
theorem fnow_coded (c : Nat) (hE : ErrsW ea w) (hG : HandleAt w) (h : FNow w W fp mb mp bx time s r a) (hc : c ≤ 9) :
    Calls Tryd.prog 12 #[errZ ea c, .int .i64 (c : Int)] W (ThenF (.bool true) fun w' => FNow w w' fp mb mp bx time s r a) := by
  by_cases h0 : c = 0
  · subst h0
    exact (codedlaw2_nil W).mono fun e w' ⟨h1, h2⟩ => ⟨h1, by rw [← h2]; exact h⟩
  · rw [errZ_some ea h0]
    exact (codedlaw2_any (f := ⟨c, none⟩) c (hE.below h.b) (hG.below h.b) (by dsimp only; omega) hc ⟨rfl, rfl⟩ rfl).mono fun e w' ⟨h1, h2⟩ => ⟨by rw [h1]; simp, h.below h2⟩
theorem fnow_faulted {o : Option Flt} {v : Value} (hE : ErrsW ea w) (hG : HandleAt w) (h : FNow w W fp mb mp bx time s r a) (hI : ErrIs ea W o v) :
    Calls Tryd.prog 21 #[v, .agg #[.int .i64 (fCode o : Int), .int .i64 (fAt o)]] W (ThenF (.bool true) fun w' => FNow w w' fp mb mp bx time s r a) := by
  cases o with
  | none =>
    cases hI
    exact (faultedlaw2_nil W).mono fun e w' ⟨x, y⟩ => ⟨x, h.below y⟩
  | some f =>
    obtain ⟨h1, h2, t, ad, rfl, hI⟩ := hI
    exact (faultedlaw2_some (hE.below h.b) (hG.below h.b) h1 h2 hI).mono fun e w' ⟨x, y⟩ => ⟨x, h.below y⟩
def ListP (L : List Fl) (W : World) (P : World → Prop) (e : Ending) (w' : World) : Prop := ∃ A cap, e = .returned (.slice A L.length cap) ∧ Reads w' w'.heap.size 3 A L.length (flsC L) ∧ (0 < L.length → ∃ g, A = some ⟨g, 0, none⟩) ∧ Below W.heap.size W w' ∧ P w'
theorem fnow_list (h : FNow w W fp mb mp bx time s r a) :
    Calls Tryd.prog 10 #[.pointer (some ⟨fp, 0, none⟩)] W (ListP s.2 W fun w' => FNow w w' fp mb mp bx time s r a) := by
  refine (list_any W h.f).mono fun e w' ⟨v, x, y, z⟩ => ?_
  obtain ⟨A, cap, rfl, hr, _, _⟩ := own_slice y
  refine ⟨A, cap, x, hr, fun h0 => ?_, z, h.below z⟩
  obtain ⟨g, cap', hv, _⟩ := y.form h0
  injection hv with hA
  exact ⟨g, hA⟩
def OwnP (L : List Fl) (fp mb : Nat) (P : World → Prop) (e : Ending) (w' : World) : Prop := ∃ A cap, e = .returned (.slice A L.length cap) ∧ Reads w' w'.heap.size 3 A L.length (flsC L) ∧ (0 < L.length → ∃ g, A = some ⟨g, 0, none⟩ ∧ g ∉ [fp, mb]) ∧ P w'
theorem fnow_own (h : FNow w W fp mb mp bx time s r a) (hx : FlowsIn W a.A a.L) (hl : a.L.length ≤ 1000) :
    Calls Tryd.prog 19 #[.slice a.A a.L.length a.cap] W (OwnP a.L fp mb fun w' => FNow w w' fp mb mp bx time s r a) := by
  refine (ownFlows_any a.A a.cap W.heap.size a.L W hx.r (Nat.le_refl _) hl).mono fun e w' ⟨v, x, y, z⟩ => ?_
  obtain ⟨A, cap, rfl, hr, _, _⟩ := own_slice y
  refine ⟨A, cap, x, hr, fun h0 => ?_, h.below ⟨z.os, z.tape, z.output, z.size, fun i hi => z.block i hi (by simp)⟩⟩
  obtain ⟨g, cap', hv, hg, _⟩ := y.form h0
  injection hv with hA
  have n1 := h.f.blk.lt
  have n2 := h.f.map.lt
  exact ⟨g, hA, by simp; omega⟩
theorem FNow.row (h : FNow w W fp mb mp bx time s r a) : ∃ A cap, W.cell? ⟨mp, 2, none⟩ = some (.slice A r.2.length cap) ∧ ∀ W', Below W.heap.size W W' → W'.cell? ⟨mp, 2, none⟩ = some (.slice A r.2.length cap) ∧ Reads W' W'.heap.size 3 A r.2.length (flsC r.2) ∧ (0 < r.2.length → ∃ g, A = some ⟨g, 0, none⟩) := by
  obtain ⟨sv, hm⟩ := h.m
  obtain ⟨A, cap, rfl, hr, _⟩ := hm.form
  refine ⟨A, cap, hm.blk.cell 2, fun W' hb => ?_⟩
  have hm' := hm.below hb
  refine ⟨hm'.blk.cell 2, (hr.below hb).more hb.size, fun h0 => ?_⟩
  obtain ⟨g, cap', hv, _⟩ := hm.row.form h0
  injection hv with hA
  exact ⟨g, hA⟩
/-! Both, by what neither names. -/
theorem two_put (k : Nat) (hE : ErrsF ea w) (h : FNow w W fp mb mp bx time s s a) (hU : U64 k) (ht : time ≤ 1000) (hx : a.host.size ≤ maxLen) : ∃ (cd : Nat) (s9 : FS), cd ≤ 9 ∧
    Hid (Calls Tryd.prog 7 #[.pointer (some ⟨fp, 0, none⟩), .int .u64 (k : Int), .string a.host, .int .i64 a.now] W (ThenF (errZ ea cd) fun w' => FNow w w' fp mb mp bx time s9 s a)) ∧
    Hid (∀ W' q, FNow w W' fp mb mp bx time q s a → Calls Tryd.prog 14 #[.pointer (some ⟨mp, 0, none⟩), .int .u64 (k : Int), .string a.host, .int .i64 a.now] W' (ThenF (.int .i64 (cd : Int)) fun w' => FNow w w' fp mb mp bx time q s9 a)) :=
  ⟨_, _, putS_le time s k a.host a.now, Lib.hid (fnow_put k hE h hU hx), Lib.hid fun _ _ h' => fnow_rput k h' h.f.map.rise ht hx⟩
theorem two_get (hE : ErrsF ea w) (h : FNow w W fp mb mp bx time s s a) (hU : U64 a.key) : ∃ (so : ByteArray) (bo : Bool) (cd : Nat) (s9 : FS), cd ≤ 9 ∧
    Hid (Calls Tryd.prog 9 #[.pointer (some ⟨fp, 0, none⟩), .int .u64 (a.key : Int), .int .i64 a.now] W (ThenF (.tuple #[.string so, .bool bo, errZ ea cd]) fun w' => FNow w w' fp mb mp bx time s9 s a)) ∧
    Hid (∀ W' q, FNow w W' fp mb mp bx time q s a → Calls Tryd.prog 15 #[.pointer (some ⟨mp, 0, none⟩), .int .u64 (a.key : Int), .int .i64 a.now] W' (ThenF (.tuple #[.string so, .bool bo, .int .i64 (cd : Int)]) fun w' => FNow w w' fp mb mp bx time q s9 a)) :=
  ⟨_, _, _, _, getS_le s a.key a.now, Lib.hid (fnow_get hE h hU), Lib.hid fun _ _ h' => fnow_rget h' h.f.map.rise⟩
theorem two_exp (hE : ErrsF ea w) (h : FNow w W fp mb mp bx time s s a) : ∃ (no cd : Nat) (s9 : FS), cd ≤ 9 ∧
    Hid (Calls Tryd.prog 11 #[.pointer (some ⟨fp, 0, none⟩), .int .i64 a.now] W (ThenF (.tuple #[.int .i64 (no : Int), errZ ea cd]) fun w' => FNow w w' fp mb mp bx time s9 s a)) ∧
    Hid (∀ W' q, FNow w W' fp mb mp bx time q s a → Calls Tryd.prog 16 #[.pointer (some ⟨mp, 0, none⟩), .int .i64 a.now] W' (ThenF (.tuple #[.int .i64 (no : Int), .int .i64 (cd : Int)]) fun w' => FNow w w' fp mb mp bx time q s9 a)) :=
  ⟨_, _, _, expS_le s a.now, Lib.hid (fnow_exp hE h), Lib.hid fun _ _ h' => fnow_rexp h'⟩
theorem two_drop (h : FNow w W fp mb mp bx time s s a) : ∃ (no : Nat) (s9 : FS),
    Hid (Calls Tryd.prog 8 #[.pointer (some ⟨fp, 0, none⟩), .string a.host] W (ThenF (.int .i64 (no : Int)) fun w' => FNow w w' fp mb mp bx time s9 s a)) ∧
    Hid (∀ W' q, FNow w W' fp mb mp bx time q s a → Calls Tryd.prog 17 #[.pointer (some ⟨mp, 0, none⟩), .string a.host] W' (ThenF (.int .i64 (no : Int)) fun w' => FNow w w' fp mb mp bx time q s9 a)) :=
  ⟨_, _, Lib.hid (fnow_drop h), Lib.hid fun _ _ h' => fnow_rdrop h'⟩
theorem two_add (hE : ErrsF ea w) (ho : FActOk w a) (hl : a.L.length ≤ 1000) : ∃ (no : Nat) (o : Option Flt) (s9 : FS),
    Hid (∀ W' A' cap', FNow w W' fp mb mp bx time s s a → Reads W' W'.heap.size 3 A' a.L.length (flsC a.L) → (0 < a.L.length → ∃ g, A' = some ⟨g, 0, none⟩ ∧ g ∉ [fp, mb]) → Calls Tryd.prog 18 #[.pointer (some ⟨fp, 0, none⟩), .slice A' a.L.length cap', .int .i64 a.now] W' (AddP ea no o fun w' => FNow w w' fp mb mp bx time s9 s a)) ∧
    Hid (∀ W' q, FNow w W' fp mb mp bx time q s a → Calls Tryd.prog 20 #[.pointer (some ⟨mp, 0, none⟩), .slice a.A a.L.length a.cap, .int .i64 a.now] W' (ThenF (.tuple #[.int .i64 (no : Int), .agg #[.int .i64 (fCode o : Int), .int .i64 (fAt o)]]) fun w' => FNow w w' fp mb mp bx time q s9 a ∧ ∀ o v, ErrIs ea W' o v → ErrIs ea w' o v)) :=
  ⟨_, _, _, Lib.hid fun _ _ _ h' hx hA' => fnow_add hE h' hx hA' hl ho.l.s ho.l.u, Lib.hid fun _ _ h' => fnow_radd h' (ho.l.r.below h'.b) hl ho.l.s ho.l.t⟩
end
end Go.Proofs.YtlgnhifjakkodaaDoor
