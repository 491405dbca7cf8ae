/-
  The law JumpPaths: its walk.
-/
import Derived.Test.YtnnkpblagmfonaaDoorJump
import Derived.Test.YtnnkpblagmfonaaDoorSame
namespace Go.Proofs.YtnnkpblagmfonaaDoor
open Go.RowKit

theorem B_one (key : Nat) : Jp.B key 1 = 0 := by have := Jp.B_lt (key := key) (n := 1) (by omega); omega

def True1 (w : World) (e : Ending) (w' : World) : Prop := e = .returned (.bool true) ∧ Below w.heap.size w w'

theorem jumped_any (w : World) : Calls Tryd.prog 14 #[] w (True1 w) := by
  have H : ∀ W : World, Hid (Calls Tryd.prog 15 #[.int .u64 7, .int .i64 1] W fun e w' => e = .returned (.tuple #[.int .i64 0, .nilIface]) ∧ Below W.heap.size W w') := fun W =>
    Lib.hid ((bucket_ok 7 1 W (by unfold U64; omega) (by omega) (by omega)).mono fun e w' h => ⟨by rw [h.1, B_one]; rfl, h.2⟩)
  go_enter Tryd.func14, Tryd.ntmps14
  go_wp2_with (go_at_call 15; refine (H _).out.mono ?_; rintro e w1 ⟨rfl, hb⟩)
  go_ret
  exact ⟨rfl, hb⟩

/-- What the law asks of the two paths. -/
structure Paths (n less : Nat) (p q : List Nat) : Prop where
  pos : 0 < p.length
  head : p[0]? = some 0
  up : ∀ i : Nat, i + 1 < p.length → ∃ x y : Nat, p[i]? = some x ∧ p[i + 1]? = some y ∧ x < y ∧ y < n
  le : q.length ≤ p.length
  pre : ∀ i u : Nat, q[i]? = some u → p[i]? = some u
  cut : q.length < p.length → ∃ x : Nat, p[q.length]? = some x ∧ less ≤ x
  small : p.length ≤ 1048576

theorem takeWhile_get {P : Nat → Bool} : ∀ (l : List Nat) (i u : Nat), (l.takeWhile P)[i]? = some u → l[i]? = some u
  | [], i, u, h => by simp at h
  | a :: l, i, u, h => by
      rw [List.takeWhile_cons] at h
      cases hp : P a with
      | true =>
        rw [hp] at h
        cases i with
        | zero => simpa using h
        | succ i => simp only [if_true, List.getElem?_cons_succ] at h ⊢; exact takeWhile_get l i u h
      | false => rw [hp] at h; simp at h
theorem takeWhile_cut (P : Nat → Bool) : ∀ (l : List Nat), (l.takeWhile P).length < l.length → ∃ x, l[(l.takeWhile P).length]? = some x ∧ P x = false
  | [], h => by simp at h
  | a :: l, h => by
      rw [List.takeWhile_cons] at h ⊢
      cases hp : P a with
      | true =>
        rw [hp] at h
        simp only [if_true, List.length_cons] at h ⊢
        have h' : (l.takeWhile P).length < l.length := Nat.lt_of_succ_lt_succ h
        obtain ⟨x, h1, h2⟩ := takeWhile_cut P l h'
        exact ⟨x, by simpa using h1, h2⟩
      | false => exact ⟨a, by simp, hp⟩
theorem paths_of (key n less : Nat) (h1 : 1 ≤ less) (h2 : less ≤ n) (h3 : n ≤ 1048576) : Paths n less (Jp.P key n) (Jp.P key less) := by
  have e := Jp.P_less (key := key) h2
  refine ⟨List.length_pos_iff.2 (Jp.P_ne (by omega)), Jp.P_head (by omega), fun i hi => ?_, ?_, fun i u h => ?_, fun h => ?_, Nat.le_trans (Jp.P_length _ _) h3⟩
  · exact ⟨_, _, List.getElem?_eq_getElem (by omega), List.getElem?_eq_getElem hi, Jp.P_up hi, Jp.P_lt (List.getElem_mem hi)⟩
  · rw [e]; exact (List.takeWhile_sublist _).length_le
  · rw [e] at h; exact takeWhile_get _ _ _ h
  · rw [e] at h ⊢
    obtain ⟨x, hx, hp⟩ := takeWhile_cut _ _ h
    exact ⟨x, hx, by simpa using hp⟩

theorem Listed.after {w w' w2 : World} {l : List Nat} {v : Value} (h : Listed w l v w') (hb : Below w'.heap.size w' w2) : w2.ownsRow w.heap.size 3 1 v l.length (ints l) := own_below h.1 hb
theorem cell_of_own {w2 : World} {b g cap : Nat} {l : List Nat} (h : w2.ownsRow b 3 1 (.slice (some ⟨g, 0, none⟩) l.length cap) l.length (ints l)) {j x : Nat} (hx : l[j]? = some x) :
    w2.cell? ⟨g, j, none⟩ = some (.int .i64 (x : Int)) := by
  have := h.cells (g := g) rfl j (.int .i64 (x : Int)) (by simp [ints, hx])
  by_cases h0 : j = 0
  · subst h0; simpa [Addr.add] using this
  · simpa [Addr.add, h0] using this
theorem reads_pre {w2 : World} {b g : Nat} {p q : List Nat} (h : Reads w2 b 1 (some ⟨g, 0, none⟩) p.length (ints p)) (hle : q.length ≤ p.length) (hpre : ∀ i u : Nat, q[i]? = some u → p[i]? = some u) :
    Reads w2 b 1 (some ⟨g, 0, none⟩) q.length (ints q) := by
  refine ⟨by simp [ints], fun hn => ?_⟩
  obtain ⟨ad, e, hb, hc⟩ := h.2 (by omega)
  refine ⟨ad, e, hb, fun j u hu => hc j u ?_⟩
  unfold ints at hu ⊢
  rw [List.getElem?_map] at hu ⊢
  cases hq : q[j]? with
  | none => rw [hq] at hu; cases hu
  | some x => rw [hq] at hu; rw [hpre j x hq]; exact hu
theorem ints_ints (l : List Nat) : (l.map fun x : Nat => (x : Int)).map intV = ints l := by simp [ints, intV]
theorem sameNats_yes (A B : Option Addr) (ca cb Bd : Nat) (xs : List Nat) (w W : World) (ha : Reads w Bd 1 A xs.length (ints xs)) (hb : Reads w Bd 1 B xs.length (ints xs)) (hl : xs.length ≤ maxLen) (hW : ∃ m, W = w.drewN m) :
    Calls Tryd.prog 17 #[.slice A xs.length ca, .slice B xs.length cb] W fun e w' => e = .returned (.bool true) ∧ ∃ m, w' = W.drewN m := by
  obtain ⟨m, rfl⟩ := hW
  have h := sameInts A B ca cb Bd (xs.map fun x : Nat => (x : Int)) (xs.map fun x : Nat => (x : Int)) (w.drewN m) (by rw [ints_ints, List.length_map]; exact ha.drewN m) (by rw [ints_ints, List.length_map]; exact hb.drewN m) (by simpa using hl) (by simpa using hl)
  rw [List.length_map] at h
  exact h.mono fun e w' h => ⟨by rw [h.1]; simp, h.2⟩
theorem own_cap {w2 : World} {b g n cap : Nat} {e : TypeId} {xs : List Value} (h : w2.ownsRow b e 1 (.slice (some ⟨g, 0, none⟩) n cap) n xs) : n ≤ cap := by
  rcases h.2 with ⟨h, _⟩ | ⟨g', cap', cur, he, _, _, hnc, _⟩
  · cases h
  · injection he with _ _ hcap; subst hcap; exact hnc
set_option maxHeartbeats 2000000 in
theorem law_of (key n less : Nat) (p q : List Nat) (w : World) (h1 : 1 ≤ less) (h2 : less ≤ n) (H : Hid (Paths n less p q))
    (Hp : Hid (∀ W, Calls Tryd.prog 16 #[.int .u64 (key : Int), .int .i64 (n : Int)] W (PathPost W p)))
    (Hq : Hid (∀ W, Calls Tryd.prog 16 #[.int .u64 (key : Int), .int .i64 (less : Int)] W (PathPost W q))) :
    Calls Tryd.prog 4 #[.int .u64 (key : Int), .int .i64 (n : Int), .int .i64 (less : Int)] w (True1 w) := by
  have t1 : decide ((less : Int) < 1) = false := by simp; omega
  have t2 : decide (n < less) = false := by simp; omega
  have hpos := H.out.pos
  have hle := H.out.le
  have hsm := H.out.small
  have t3 : ((p.length : Int) == 0) = false := by simp; intro h; simp [h] at hpos
  have t4 : decide (p.length < q.length) = false := by simp; omega
  go_enter Tryd.func4, Tryd.ntmps4
  go_wp2_with fail
  refine (jumped_any _).mono ?_
  rintro e w1 ⟨rfl, hb1⟩
  go_wp2_with fail
  refine (Hp.out _).mono ?_
  rintro e w2 ⟨g, cap, rfl, hown1⟩
  go_wp2_with fail
  refine (Hq.out _).mono ?_
  rintro e w3 ⟨g', cap', rfl, hown2⟩
  have hp := hown1.after hown2.2
  have c0 : w3.cell? ⟨g, 0, none⟩ = some (.int .i64 0) := cell_of_own hp H.out.head
  go_wp2_with fail
  clear hpos hle t3 t4 c0
  go_loopw [11] (fun iv wr => ∃ k m : Nat, 1 ≤ k ∧ k ≤ p.length ∧ iv = .int .i64 (k : Int) ∧ wr = w3.drewN m) (fun iv _ => p.length - (intOf iv).toNat)
  case atStart => exact ⟨1, 0, Nat.le_refl _, H.out.pos, rfl, rfl⟩
  case round =>
    obtain ⟨k, m, hk1, hk2, rfl, rfl⟩ := hrel
    by_cases hlt : k < p.length
    · obtain ⟨x, y, hx, hy, hxy, hyn⟩ := H.out.up (k - 1) (by omega)
      rw [show k - 1 + 1 = k from by omega] at hy
      have cx : w3.cell? ⟨g, k - 1, none⟩ = some (.int .i64 (x : Int)) := cell_of_own hp hx
      have cy : w3.cell? ⟨g, k, none⟩ = some (.int .i64 (y : Int)) := cell_of_own hp hy
      have T1 : decide ((y : Int) ≤ (x : Int)) = false := by simp; omega
      have T1' : decide (y ≤ x) = false := by simp; omega
      have T2 : decide ((y : Int) ≥ (n : Int)) = false := by simp; omega
      have T2' : decide (n ≤ y) = false := by simp; omega
      have k1 : (k : Int) < p.length := by omega
      have k2 : (0 : Int) ≤ (k : Int) - 1 := by omega
      have k3 : (k : Int) - 1 < p.length := by omega
      clear hx hy
      go_wp2
      go_quiet (fail)
      go_wp2
      go_roundw
      case rel => exact ⟨k + 1, _, by omega, by omega, by go_num, rfl⟩
      case measure => simp [intOf]; omega
    · have hk3 : decide (k < p.length) = false := by simp; omega
      have hke : (k : Int) ≥ p.length := by omega
      have hle := H.out.le
      have hq : Reads w3 w3.heap.size 1 (some ⟨g', 0, none⟩) q.length (ints q) := Reads.of_own hown2.1
      have hpq : Reads w3 w3.heap.size 1 (some ⟨g, 0, none⟩) q.length (ints q) := reads_pre (Reads.of_own hp) H.out.le H.out.pre
      have S := Lib.hid (fun W => sameNats_yes (some ⟨g, 0, none⟩) (some ⟨g', 0, none⟩) cap cap' w3.heap.size q w3 W hpq hq (by unfold maxLen; omega))
      clear hpq hq
      have HB := Lib.hid (below_two hb1 (below_two hown1.2 hown2.2))
      have hqc : (q.length : Int) ≤ cap := by have := own_cap hp; omega
      have hq2 : (q.length : Int) ≤ p.length := by omega
      by_cases hc : q.length < p.length
      · obtain ⟨x, hx, hless⟩ := H.out.cut hc
        have cx : w3.cell? ⟨g, q.length, none⟩ = some (.int .i64 (x : Int)) := cell_of_own hp hx
        have T0 : decide (q.length < p.length) = true := by simp; omega
        have T1 : decide (x < less) = false := by simp; omega
        have T2 : decide ((x : Int) < (less : Int)) = false := by simp; omega
        clear hx
        go_wp2_with (go_at_call 17; refine (S.out _ ⟨_, rfl⟩).mono ?_; rintro e w4 ⟨rfl, m4, rfl⟩)
        go_ret
        exact ⟨rfl, below_drewN HB.out _⟩
      · have T0 : decide (q.length < p.length) = false := by simp; omega
        go_wp2_with (go_at_call 17; refine (S.out _ ⟨_, rfl⟩).mono ?_; rintro e w4 ⟨rfl, m4, rfl⟩)
        go_ret
        exact ⟨rfl, below_drewN HB.out _⟩

theorem law_skip (key : Nat) (n less : Int) (w : World) (h : less < 1 ∨ n < less) :
    Calls Tryd.prog 4 #[.int .u64 (key : Int), .int .i64 n, .int .i64 less] w (True1 w) := by
  by_cases h1 : less < 1
  · have t1 : decide (less < 1) = true := by simpa using h1
    clear h
    go_enter Tryd.func4, Tryd.ntmps4
    go_wp2_with (go_at_call 14; refine (jumped_any _).mono ?_; rintro e w1 ⟨rfl, hb1⟩)
    go_ret
    exact ⟨rfl, hb1⟩
  · have t1 : decide (less < 1) = false := by simpa using h1
    have t2 : decide (less > n) = true := by simp; omega
    clear h
    go_enter Tryd.func4, Tryd.ntmps4
    go_wp2_with (go_at_call 14; refine (jumped_any _).mono ?_; rintro e w1 ⟨rfl, hb1⟩)
    go_ret
    exact ⟨rfl, hb1⟩
theorem law_big (key : Nat) (n less : Int) (w : World) (a : Addr) (hv : w.cell? ⟨1, 0, none⟩ = some (.iface 108 (.pointer (some a))))
    (hlt : 1 < w.heap.size) (h1 : ¬ less < 1) (h2 : ¬ less > n) (h3 : 1048576 < n) :
    Calls Tryd.prog 4 #[.int .u64 (key : Int), .int .i64 n, .int .i64 less] w (True1 w) := by
  have t1 : decide (less < 1) = false := by simpa using h1
  have t2 : decide (less > n) = false := by simpa using h2
  have H := Lib.hid (fun W (hW : Below w.heap.size w W) => path_bad key n W _ ((hW.cell (p := ⟨1, 0, none⟩) hlt).trans hv) (.inr h3))
  clear hv
  go_enter Tryd.func4, Tryd.ntmps4
  go_wp2_with fail
  refine (jumped_any _).mono ?_
  rintro e w1 ⟨rfl, hb1⟩
  go_wp2_with fail
  refine (H.out _ hb1).mono ?_
  rintro e w2 ⟨rfl, m, rfl⟩
  go_wp2
  go_ret
  exact ⟨rfl, below_drewN hb1 m⟩
theorem jumpPaths_any (key : Nat) (n less : Int) (w : World) (hk : U64 key) (a : Addr) (hv : w.cell? ⟨1, 0, none⟩ = some (.iface 108 (.pointer (some a))))
    (hlt : 1 < w.heap.size) :
    Calls Tryd.prog 4 #[.int .u64 (key : Int), .int .i64 n, .int .i64 less] w (True1 w) := by
  by_cases h1 : less < 1
  · exact law_skip key n less w (.inl h1)
  by_cases h2 : less > n
  · exact law_skip key n less w (.inr h2)
  by_cases h3 : 1048576 < n
  · exact law_big key n less w a hv hlt h1 h2 h3
  obtain ⟨n', rfl⟩ := Int.eq_ofNat_of_zero_le (show 0 ≤ n by omega)
  obtain ⟨l', rfl⟩ := Int.eq_ofNat_of_zero_le (show 0 ≤ less by omega)
  exact law_of key n' l' _ _ w (by omega) (by omega) (Lib.hid (paths_of key n' l' (by omega) (by omega) (by omega)))
    (Lib.hid fun W => path_ok key n' W hk (by omega) (by omega)) (Lib.hid fun W => path_ok key l' W hk (by omega) (by omega))
end Go.Proofs.YtnnkpblagmfonaaDoor
