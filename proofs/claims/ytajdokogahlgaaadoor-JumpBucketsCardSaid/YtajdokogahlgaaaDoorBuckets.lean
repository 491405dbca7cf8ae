/-
  The law JumpBuckets: its walk.
-/
import Derived.Test.YtajdokogahlgaaaDoorShares
import Derived.Test.YtajdokogahlgaaaDoorPathOf
import Derived.Test.YtajdokogahlgaaaDoorJumped
import Derived.Test.YtajdokogahlgaaaDoorCode
namespace Go.Proofs.YtajdokogahlgaaaDoor
open Go.RowKit

namespace Jb
/-- Shares of n buckets in a row of m. -/
def sharesM (m n : Nat) (keys : List Nat) : List Nat := keys.foldl (fun cs k => cs.modify (Jp.B k n) (· + 1)) (List.replicate m 0)
theorem sharesM_snoc (m n : Nat) (ks : List Nat) (k : Nat) : sharesM m n (ks ++ [k]) = (sharesM m n ks).modify (Jp.B k n) (· + 1) := by simp [sharesM, List.foldl_append]
theorem fold_length (n : Nat) : ∀ (ks cs : List Nat), (ks.foldl (fun cs k => cs.modify (Jp.B k n) (· + 1)) cs).length = cs.length
  | [], cs => rfl
  | k :: ks, cs => by rw [List.foldl_cons, fold_length n ks]; simp
theorem sharesM_length (m n : Nat) (ks : List Nat) : (sharesM m n ks).length = m := by unfold sharesM; rw [fold_length]; simp
theorem fold_take (n j : Nat) : ∀ (ks cs : List Nat), (ks.foldl (fun cs k => cs.modify (Jp.B k n) (· + 1)) cs).take j = ks.foldl (fun cs k => cs.modify (Jp.B k n) (· + 1)) (cs.take j)
  | [], cs => rfl
  | k :: ks, cs => by
      rw [List.foldl_cons, fold_take n j ks, List.foldl_cons]
      congr 1
      apply List.ext_getElem?
      intro i
      simp only [List.getElem?_take, List.getElem?_modify]
      split <;> rfl
theorem sharesM_take (m n : Nat) (h : n ≤ m) (ks : List Nat) : (sharesM m n ks).take n = sharesL n ks := by
  unfold sharesM sharesL
  rw [fold_take, List.take_replicate, Nat.min_eq_left h]
theorem sharesM_le (m n : Nat) (ks : List Nat) (i : Nat) (h : i < (sharesM m n ks).length) : (sharesM m n ks)[i] ≤ ks.length := by
  have := fold_le n ks (List.replicate m 0) 0 (fun j hj => by simp) i h
  unfold sharesM
  omega
theorem step {m n k : Nat} {l : List Nat} (hlt : k < l.length) (hn : 1 ≤ n) (hm : n ≤ m) : ∃ b v : Nat, b = Jp.B l[k] n ∧ b < n ∧ v ≤ k ∧ (ints (sharesM m n (l.take k))).toArray[b]? = some (.int .i64 (v : Int)) ∧
    (ints (sharesM m n (l.take k))).toArray.setIfInBounds b (.int .i64 ((v : Int) + 1)) = (ints (sharesM m n (l.take (k + 1)))).toArray := by
  have hb := Jp.B_lt (key := l[k]) (n := n) (by omega)
  have hlen := sharesM_length m n (l.take k)
  have hbl : Jp.B l[k] n < (sharesM m n (l.take k)).length := by omega
  refine ⟨_, (sharesM m n (l.take k))[Jp.B l[k] n], rfl, hb, Nat.le_trans (sharesM_le m n (l.take k) _ hbl) (by rw [List.length_take]; omega), by simp [ints, hbl], ?_⟩
  rw [ints_modify _ _ hbl, List.take_succ_eq_append_getElem hlt, sharesM_snoc]
theorem made (m n : Nat) : madeCells (Value.int .i64 0).cells (m * 1) = (ints (sharesM m n [])).toArray := by
  apply Array.ext
  · simp [madeCells, ints, sharesM]
  · intro i h1 h2
    simp [madeCells, ints, sharesM, Value.cells, Nat.mod_one]
theorem make500 (C0 : Array Value) (hC : madeCells (Value.int .i64 0).cells (500 * 1) = C0) (W : World) :
    (Instr.makeSlice 24 (.int .i64 500) (.int .i64 500)).run Tryd.prog W = .ok (.slice (some ⟨W.heap.size, 0, none⟩) 500 500) (W.alloc (.cells C0 3)) := by
  obtain ⟨i0, hi, hz0, hz1, hz2⟩ := info_parts info_int
  have h := run_make_rowN (P := Tryd.prog) 24 3 i0 (.int .i64 0) Tryd.underlying24 hi hz0 .i64 .i64 500 500 (Nat.le_refl _) (by rw [hz2]; omega) (by omega) W
  rw [hz1, hC] at h
  exact h
def KeyAt (ad : Addr) (k x : Nat) (w : World) : Prop := ∀ W, Below w.heap.size w W → W.cell? (ad.add k) = some (.int .u64 (x : Int))
theorem keyAt_of {w : World} {A : Option Addr} {l : List Nat} {k : Nat} (h : Reads w w.heap.size 1 A l.length (keysV l)) (hk : k < l.length) : ∃ ad, A = some ad ∧ KeyAt ad k l[k] w := by
  obtain ⟨ad, u, hA, hb, hx, hc⟩ := h.at_ hk
  refine ⟨ad, hA, fun W hW => ?_⟩
  rw [hW.cell (by rw [block_of_add]; exact hb), hc]
  simp [keysV, hk] at hx
  rw [hx]
end Jb

def SharesOk (n : Nat) (l : List Nat) (w : World) (e : Ending) (w' : World) : Prop :=
  ∃ g cap, e = .returned (.tuple #[.slice (some ⟨g, 0, none⟩) n cap, .nilIface]) ∧ Blk w' g 3 (ints (sharesL n l)).toArray ∧ Below w.heap.size w w'
theorem sharesOk_of {n : Nat} {l : List Nat} {w : World} {e : Ending} {w' : World} (h : SharesPost (sharesL n l) w e w') : SharesOk n l w e w' := by
  obtain ⟨g, cap, he, hB, hb⟩ := h
  rw [sharesL_length] at he
  exact ⟨g, cap, he, hB, hb⟩
theorem keys_cells {l : List Nat} : ∀ u ∈ keysV l, u.oneCell' = true := by
  intro u hu
  obtain ⟨x, _, rfl⟩ := List.mem_map.1 hu
  rfl
def SameYes (w : World) (e : Ending) (w' : World) : Prop := e = .returned (.bool true) ∧ ∃ m, w' = w.drewN m

set_option maxRecDepth 100000 in
set_option maxHeartbeats 4000000 in
theorem buckets_good (A : Option Addr) (c n : Nat) (l : List Nat) (w : World) (hr : Reads w w.heap.size 1 A l.length (keysV l)) (hU : ∀ k ∈ l, U64 k) (hl : l.length ≤ 60) (h1 : 1 ≤ n) (h2 : n ≤ 500) :
    Calls Tryd.prog 3 #[.slice A l.length c, .int .i64 (n : Int)] w (True1 w) := by
  have t1 : decide ((l.length : Int) > 60) = false := by simp; omega
  have t2 : decide ((l.length : Int) > 600) = false := by simp; omega
  have t3 : decide ((l.length : Int) > 500) = false := by simp; omega
  have t4 : decide ((n : Int) < 1) = false := by simp; omega
  have t5 : decide ((n : Int) > 500) = false := by simp; omega
  obtain ⟨C0, hC⟩ : ∃ C0, C0 = (ints (Jb.sharesM 500 n [])).toArray := ⟨_, rfl⟩
  have HM := Lib.hid (Jb.make500 C0 ((Jb.made 500 n).trans hC.symm))
  have HC0 := Lib.hid hC
  have HR := Lib.hid hr
  clear hr hC
  go_enter Tryd.func3, Tryd.ntmps3
  go_wp2_with fail
  refine (jumped_any _).mono ?_
  rintro e w1 ⟨rfl, hb1⟩
  go_wp2_with fail
  refine (ownKeys_any A l.length c w.heap.size (keysV l) w1 (HR.out.keep fun p hp => hb1.cell hp) keys_cells (by omega)).mono ?_
  rintro e w2 ⟨A2, cap2, rfl, hown2, hb2⟩
  have HS := Lib.hid ((shares_ok A2 cap2 n l w2 (Reads.of_own hown2) (by omega) h1 h2 hU).mono fun _ _ => sharesOk_of)
  have hb12 := below_two hb1 hb2
  clear hown2
  go_wp2_with fail
  refine HS.out.mono ?_
  rintro e w3 ⟨g3, cap3, rfl, hB3, hb3⟩
  have hb13 := below_two hb12 hb3
  have hmk := HM.out
  have HB3 := Lib.hid hB3
  clear hB3 HS
  go_wp2_with fail
  go_loopw [10] (fun iv wr => ∃ k : Nat, k ≤ l.length ∧ iv = .int .i64 (k : Int) ∧ Blk wr w3.heap.size 3 (ints (Jb.sharesM 500 n (l.take k))).toArray ∧ Below w3.heap.size w3 wr) (fun iv _ => l.length - (intOf iv).toNat)
  case atStart => exact ⟨0, Nat.zero_le _, rfl, by show Blk _ _ _ (ints (Jb.sharesM 500 n [])).toArray; rw [← HC0.out]; exact Blk.new _ _ _, (Below.refl _ _).alloc (Nat.le_refl _) _⟩
  case round =>
    obtain ⟨k, hk, rfl, hB, hb⟩ := hrel
    have hbr := below_two hb13 hb
    clear hmk
    by_cases hlt : k < l.length
    · obtain ⟨ad, rfl, hK⟩ := Jb.keyAt_of ((HR.out.below hbr).more hbr.size) hlt
      have k1 : decide ((k : Int) < l.length) = true := by simp; omega
      have k2 : decide ((k : Int) < 60) = true := by simp; omega
      have hlt2 : (k : Int) < l.length := by omega
      obtain ⟨bk, v, hbk, hbn, hvk, hget, hset⟩ := Jb.step (m := 500) hlt h1 h2
      have hUk := hU _ (List.getElem_mem hlt)
      have HBk : Hid (∀ W, Calls Tryd.prog 12 #[.int .u64 ((l[k] : Nat) : Int), .int .i64 (n : Int)] W (BucketPost W bk)) := Lib.hid (fun W => by rw [hbk]; exact bucket_ok l[k] n W hUk h1 (by omega))
      have HPa := Lib.hid (fun W => path_ok l[k] n W hUk h1 (by omega))
      have HPo := Lib.hid (fun W => pathOf_ok l[k] n W hUk h1 (by omega))
      have hlast : (Jp.P l[k] n)[(Jp.P l[k] n).length - 1]? = some bk := by rw [hbk]; exact Jp.B_last h1
      have hpos : 0 < (Jp.P l[k] n).length := List.length_pos_iff.2 (Jp.P_ne h1)
      have hple := Jp.P_length l[k] n
      generalize Jp.P l[k] n = p at *
      generalize l[k] = key at *
      generalize (ints (Jb.sharesM 500 n (l.take k))).toArray = cs at *
      have hbi : (bk : Int) < 500 := by omega
      have HX := Lib.hid hset
      have HBB := Lib.hid hB
      have HG := Lib.hid hget
      have HK := Lib.hid hK
      have HL := Lib.hid hlast
      have c0 := HK.out wr (Below.refl _ _)
      clear hB hget hset hbk hK hUk hlast
      go_wp2_with fail
      refine (HBk.out _).mono ?_
      rintro e w4 ⟨rfl, hb4⟩
      have c4 := HK.out w4 hb4
      go_wp2_with fail
      refine (HPa.out _).mono ?_
      rintro e w5 ⟨gp, capp, rfl, hp5⟩
      have hb45 := below_two hb4 hp5.2
      have c5 := HK.out w5 hb45
      go_wp2_with fail
      refine (HPo.out _).mono ?_
      rintro e w6 ⟨gq, capq, rfl, hp6⟩
      have hb6 := below_two hb45 hp6.2
      have HSM := Lib.hid (sameNats_yes (some ⟨gp, 0, none⟩) (some ⟨gq, 0, none⟩) capp capq w6.heap.size p w6 w6 (Reads.of_own (hp5.after hp6.2)) (Reads.of_own hp6.1) (by unfold maxLen; omega) ⟨0, rfl⟩)
      have q1 := hp6.cell HL.out
      go_wp2_with fail
      refine (coded_nil _).mono ?_
      rintro e w7 ⟨rfl, rfl⟩
      go_wp2_with fail
      refine (coded_nil _).mono ?_
      rintro e w7 ⟨rfl, rfl⟩
      go_wp2_with fail
      refine HSM.out.mono ?_
      rintro e w7 ⟨rfl, m7, rfl⟩
      have hB6 := HBB.out.below hb6 HBB.out.lt
      have s1 := (hB6.cell bk).trans HG.out
      have s2 := hB6.frozen bk
      clear hB6
      have hbx := ((below_drewN (below_two hb hb6) m7).setCell (p := ⟨w3.heap.size, bk, none⟩) (Nat.le_refl _) (.int .i64 ((v : Int) + 1)))
      have hBx := ((HBB.out.below hb6 HBB.out.lt).drewN m7).set_ bk (.int .i64 ((v : Int) + 1))
      rw [HX.out] at hBx
      have HXX := Lib.hid hBx
      clear hBx
      go_wp2
      go_roundw
      case rel => exact ⟨k + 1, by omega, by go_num, HXX.out, hbx⟩
      case measure => simp [intOf]; omega
    · obtain rfl : k = l.length := by omega
      have k1 : decide ((l.length : Int) < l.length) = false := by simp
      have hBg := HB3.out.below hb HB3.out.lt
      have hlen := sharesL_length n l
      have ha : Reads wr wr.heap.size 1 (some ⟨g3, 0, none⟩) (sharesL n l).length (ints (sharesL n l)) := by
        have := reads_blk hBg
        simpa [ints] using this.more hBg.lt
      have hq : Reads wr wr.heap.size 1 (some ⟨w3.heap.size, 0, none⟩) (sharesL n l).length (ints (sharesL n l)) := by
        have h0 := (reads_blk hB).more hB.lt
        rw [List.take_length] at h0
        have h3 := reads_take (k := n) h0 (by simp [ints, Jb.sharesM_length]; omega)
        have h4 : (ints (Jb.sharesM 500 n l)).toArray.toList.take n = ints (sharesL n l) := by
          rw [← Jb.sharesM_take 500 n h2]; simp [ints, List.map_take]
        rw [h4] at h3
        rw [hlen]
        exact h3
      have hs := sameNats_yes _ _ cap3 500 _ _ wr wr ha hq (by rw [hlen]; unfold maxLen; omega) ⟨0, rfl⟩
      rw [hlen] at hs
      have HSM := Lib.hid hs
      have hn5 : (n : Int) ≤ 500 := by omega
      clear hs ha hq hB hBg hlen
      go_wp2_with fail
      refine HSM.out.mono ?_
      rintro e w7 ⟨rfl, m7, rfl⟩
      go_wp2
      go_ret
      exact ⟨rfl, below_drewN hbr m7⟩
end Go.Proofs.YtajdokogahlgaaaDoor
