/-
  The walk of jump.Shares.
-/
import Derived.Test.YtajdokogahlgaaaDoorOwn
import Derived.Test.YtajdokogahlgaaaDoorJump
namespace Go.Proofs.YtajdokogahlgaaaDoor
open Go.RowKit

/-- How many keys each bucket has. -/
def sharesL (n : Nat) (keys : List Nat) : List Nat := keys.foldl (fun cs k => cs.modify (Jp.B k n) (· + 1)) (List.replicate n 0)
theorem sharesL_snoc (n : Nat) (ks : List Nat) (k : Nat) : sharesL n (ks ++ [k]) = (sharesL n ks).modify (Jp.B k n) (· + 1) := by simp [sharesL, List.foldl_append]
theorem sharesL_length (n : Nat) : ∀ ks : List Nat, (sharesL n ks).length = n := by
  intro ks
  unfold sharesL
  suffices h : ∀ (ks : List Nat) (cs : List Nat), (ks.foldl (fun cs k => cs.modify (Jp.B k n) (· + 1)) cs).length = cs.length by rw [h]; simp
  intro ks
  induction ks with
  | nil => intro cs; rfl
  | cons k ks ih => intro cs; rw [List.foldl_cons, ih]; simp
theorem ints_modify (cs : List Nat) (b : Nat) (hb : b < cs.length) : (ints cs).toArray.setIfInBounds b (.int .i64 ((cs[b] : Int) + 1)) = (ints (cs.modify b (· + 1))).toArray := by
  apply Array.ext
  · simp [ints]
  · intro i h1 h2
    simp only [ints, Array.size_setIfInBounds, List.size_toArray, List.length_map] at h1
    simp only [ints, List.getElem_toArray, List.getElem_map, List.getElem_modify]
    by_cases h : b = i
    · subst h; simp
    · simp [h]
theorem fold_le (n : Nat) : ∀ (ks cs : List Nat) (b : Nat), (∀ (i : Nat) (h : i < cs.length), cs[i] ≤ b) → ∀ (i : Nat) (h : i < (ks.foldl (fun cs k => cs.modify (Jp.B k n) (· + 1)) cs).length), (ks.foldl (fun cs k => cs.modify (Jp.B k n) (· + 1)) cs)[i] ≤ b + ks.length
  | [], cs, b, hc, i, h => Nat.le_trans (hc i h) (Nat.le_add_right _ _)
  | k :: ks, cs, b, hc, i, h => by
      have := fold_le n ks (cs.modify (Jp.B k n) (· + 1)) (b + 1) (fun j hj => by
        rw [List.getElem_modify]
        have h2 := hc j (by simpa using hj)
        split <;> omega) i (by simpa using h)
      simp only [List.foldl_cons, List.length_cons]
      omega
theorem shares_le (n : Nat) (ks : List Nat) (i : Nat) (h : i < (sharesL n ks).length) : (sharesL n ks)[i] ≤ ks.length := by
  have := fold_le n ks (List.replicate n 0) 0 (fun j hj => by simp) i h
  unfold sharesL
  omega
theorem shares_step {n k : Nat} {l : List Nat} (hlt : k < l.length) (hn : 1 ≤ n) : ∃ b v : Nat, b = Jp.B l[k] n ∧ b < n ∧ v ≤ k ∧ (ints (sharesL n (l.take k))).toArray[b]? = some (.int .i64 (v : Int)) ∧
    (ints (sharesL n (l.take k))).toArray.setIfInBounds b (.int .i64 ((v : Int) + 1)) = (ints (sharesL n (l.take (k + 1)))).toArray := by
  have hb := Jp.B_lt (key := l[k]) (n := n) (by omega)
  have hlen := sharesL_length n (l.take k)
  have hbl : Jp.B l[k] n < (sharesL n (l.take k)).length := by omega
  refine ⟨_, (sharesL n (l.take k))[Jp.B l[k] n], rfl, hb, Nat.le_trans (shares_le n (l.take k) _ hbl) (by rw [List.length_take]; omega), by simp [ints, hbl], ?_⟩
  rw [ints_modify _ _ hbl, List.take_succ_eq_append_getElem hlt, sharesL_snoc]
theorem key_at {w : World} {B : Nat} {A : Option Addr} {l : List Nat} {k : Nat} (h : Reads w B 1 A l.length (keysV l)) (hk : k < l.length) :
    ∃ ad, A = some ad ∧ w.cell? (ad.add k) = some (.int .u64 ((l[k] : Nat) : Int)) := by
  obtain ⟨ad, u, hA, _, hx, hc⟩ := h.at_ hk
  refine ⟨ad, hA, ?_⟩
  rw [hc]
  simp [keysV, hk] at hx
  rw [hx]

theorem made_zero (n : Nat) : madeCells (Value.int .i64 0).cells (n * 1) = (ints (sharesL n [])).toArray := by
  apply Array.ext
  · simp [madeCells, ints, sharesL]
  · intro i h1 h2
    simp [madeCells, ints, sharesL, Value.cells, Nat.mod_one]
def SharesPost (cs : List Nat) (w : World) (e : Ending) (w' : World) : Prop :=
  ∃ g cap, e = .returned (.tuple #[.slice (some ⟨g, 0, none⟩) cs.length cap, .nilIface]) ∧ Blk w' g 3 (ints cs).toArray ∧ Below w.heap.size w w'
set_option maxRecDepth 100000 in
set_option maxHeartbeats 1000000 in
theorem shares_ok (A : Option Addr) (c n : Nat) (l : List Nat) (w : World) (hr : Reads w w.heap.size 1 A l.length (keysV l)) (hl : l.length ≤ 500) (hn1 : 1 ≤ n) (hn2 : n ≤ 500) (hU : ∀ k ∈ l, U64 k) :
    Calls Tryd.prog 10 #[.slice A l.length c, .int .i64 (n : Int)] w (SharesPost (sharesL n l) w) := by
  obtain ⟨i0, hi, hz0, hz1, hz2⟩ := info_parts info_int
  have t1 : decide ((l.length : Int) > 500) = false := by simp; omega
  have t2 : decide ((n : Int) < 1) = false := by simp; omega
  have t3 : decide ((n : Int) > 500) = false := by simp; omega
  have hmk : ∀ W : World, (Instr.makeSlice 24 (.int .i64 (n : Int)) (.int .i64 (n : Int))).run Tryd.prog W = .ok (.slice (some ⟨W.heap.size, 0, none⟩) n n) (W.alloc (.cells (ints (sharesL n [])).toArray 3)) := fun W => by
    have h := run_make_rowN (P := Tryd.prog) 24 3 i0 (.int .i64 0) Tryd.underlying24 hi hz0 .i64 .i64 n n (Nat.le_refl _) (by rw [hz2]; omega) (by omega) W
    rw [h, hz1]
    congr 3
    exact made_zero n
  clear hi hz0 hz1 hz2
  generalize hcs : (ints (sharesL n [])).toArray = C0 at hmk
  go_enter Tryd.func10, Tryd.ntmps10
  go_wp2_with fail
  go_loopw [8, 27] (fun _ iv wr => ∃ k : Nat, k ≤ l.length ∧ iv = .int .i64 (k : Int) ∧ Blk wr w.heap.size 3 (ints (sharesL n (l.take k))).toArray ∧ Below w.heap.size w wr) (fun _ iv _ => l.length - (intOf iv).toNat)
  case atStart => exact ⟨0, Nat.zero_le _, rfl, by rw [← hcs]; exact Blk.new _ _ _, (Below.refl _ _).alloc (Nat.le_refl _) _⟩
  case round =>
    obtain ⟨k, hk, rfl, hB, hb⟩ := hrel
    clear hmk hcs
    by_cases hlt : k < l.length
    · obtain ⟨ad, rfl, hc⟩ := key_at (hr.below hb) hlt
      have hlt2 : (k : Int) < l.length := by omega
      obtain ⟨bk, v, hbk, hbn, hvk, hget, hset⟩ := shares_step hlt hn1
      have HBk : Hid (∀ W, Calls Tryd.prog 12 #[.int .u64 ((l[k] : Nat) : Int), .int .i64 (n : Int)] W (BucketPost W bk)) := Lib.hid (fun W => by rw [hbk]; exact bucket_ok l[k] n W (hU _ (List.getElem_mem hlt)) hn1 (by omega))
      generalize (ints (sharesL n (l.take k))).toArray = cs at *
      have hbi : (bk : Int) < n := by omega
      have HM := Lib.hid hset
      have HBB := Lib.hid hB
      have HG := Lib.hid hget
      clear hB hget hset hbk
      go_wp2_with fail
      refine (HBk.out _).mono ?_
      rintro e w2 ⟨rfl, hb2⟩
      have hB2 := HBB.out.below hb2 HBB.out.lt
      have c1 := (hB2.cell bk).trans HG.out
      have c2 := hB2.frozen bk
      have hb3 := below_two hb hb2
      clear hB2
      have hbx := (hb3.setCell (p := ⟨w.heap.size, bk, none⟩) (Nat.le_refl _) (.int .i64 ((v : Int) + 1)))
      have hBx := (HBB.out.below hb2 HBB.out.lt).set_ bk (.int .i64 ((v : Int) + 1))
      rw [HM.out] at hBx
      have HX := Lib.hid hBx
      clear hBx
      go_wp2
      go_roundw
      case rel => exact ⟨k + 1, by omega, by go_num, HX.out, hbx⟩
      case measure => simp [intOf]; omega
    · have hge : (l.length : Int) ≤ k := by omega
      have HT : Hid (l.take k = l) := Lib.hid (List.take_of_length_le (by omega))
      have HB := Lib.hid hB
      clear hB
      go_wp2
      go_ret2
      refine ⟨w.heap.size, n, by rw [sharesL_length]; rfl, ?_, hb⟩
      have := HB.out
      rwa [HT.out] at this
theorem shares_bad0 (A : Option Addr) (c m : Nat) (n : Int) (w : World) (v : Value) (hv : w.cell? ⟨0, 0, none⟩ = some v) (t0 : decide ((m : Int) > 500) = true) :
    Calls Tryd.prog 10 #[.slice A m c, .int .i64 n] w fun e w' => e = .returned (.tuple #[.slice none 0 0, v]) ∧ ∃ q, w' = w.drewN q := by
  go_enter Tryd.func10, Tryd.ntmps10
  go_wp2
  go_quiet (fail)
  go_wp2
  go_ret2
  exact ⟨rfl, _, rfl⟩
theorem shares_bad1 (A : Option Addr) (c m : Nat) (n : Int) (w : World) (v : Value) (hv : w.cell? ⟨0, 0, none⟩ = some v) (t0 : decide ((m : Int) > 500) = false) (t1 : decide (n < 1) = true) :
    Calls Tryd.prog 10 #[.slice A m c, .int .i64 n] w fun e w' => e = .returned (.tuple #[.slice none 0 0, v]) ∧ ∃ q, w' = w.drewN q := by
  go_enter Tryd.func10, Tryd.ntmps10
  go_wp2
  go_quiet (fail)
  go_wp2
  go_ret2
  exact ⟨rfl, _, rfl⟩
theorem shares_bad2 (A : Option Addr) (c m : Nat) (n : Int) (w : World) (v : Value) (hv : w.cell? ⟨0, 0, none⟩ = some v) (t0 : decide ((m : Int) > 500) = false) (t1 : decide (n < 1) = false) (t2 : decide (n > 500) = true) :
    Calls Tryd.prog 10 #[.slice A m c, .int .i64 n] w fun e w' => e = .returned (.tuple #[.slice none 0 0, v]) ∧ ∃ q, w' = w.drewN q := by
  go_enter Tryd.func10, Tryd.ntmps10
  go_wp2
  go_quiet (fail)
  go_wp2
  go_ret2
  exact ⟨rfl, _, rfl⟩
end Go.Proofs.YtajdokogahlgaaaDoor
