/-
  slices.Repeat of one number; math/bits.Mul of 1 and a small number.
-/
import Derived.Test.YtbbbnnooaaelmaaDoorNums
import Derived.Laws.CopyOwn
import Derived.Deep.RegionLaw
namespace Go.Proofs.YtbbbnnooaaelmaaDoor
open Go.RowKit

def MulPost (n : Nat) (w : World) (e : Ending) (w' : World) : Prop := e = .returned (.tuple #[.int .u64 0, .int .u64 (n : Int)]) ∧ w = w'
theorem and_small (n : Nat) (h : n < 4294967296) : bits .and .u64 (n : Int) 4294967295 = (n : Int) := by
  have h1 : bits .and .u64 (n : Int) 4294967295 = ((BitVec.ofInt 64 (n : Int) &&& BitVec.ofInt 64 4294967295).toNat : Int) := by
    show IntKind.u64.wrap ((BitVec.ofInt 64 (n : Int) &&& BitVec.ofInt 64 4294967295).toNat : Int) = _
    exact IntWalk.u64_in _ (by have := (BitVec.ofInt 64 (n : Int) &&& BitVec.ofInt 64 4294967295).isLt; omega)
  rw [h1, BitVec.toNat_and, BitVec.ofInt_natCast, BitVec.toNat_ofNat]
  have e : (BitVec.ofInt 64 4294967295).toNat = 2 ^ 32 - 1 := by decide
  rw [e, Nat.and_two_pow_sub_one_eq_mod]
  have : n % 2 ^ 64 % 2 ^ 32 = n := by omega
  omega
set_option maxRecDepth 100000 in
set_option maxHeartbeats 1000000 in
theorem mul64_one (n : Nat) (w : World) (hn : n ≤ 1000) : Calls Tryd.prog 97 #[.int .u64 1, .int .u64 (n : Int)] w (MulPost n w) := by
  have a1 : bits .and .u64 1 4294967295 = 1 := by decide +kernel
  have a2 : bits .and .u64 (n : Int) 4294967295 = (n : Int) := and_small n (by omega)
  have a3 : bits .and .u64 0 4294967295 = 0 := by decide +kernel
  have a4 : (n : Int) / 4294967296 = 0 := by omega
  unfold MulPost
  go_enter Tryd.func97, Tryd.ntmps97
  go_wp2
  go_ret2
  exact ⟨rfl, rfl⟩
set_option maxRecDepth 100000 in
set_option maxHeartbeats 1000000 in
theorem mul_one (n : Nat) (w : World) (hn : n ≤ 1000) : Calls Tryd.prog 81 #[.int .u64 1, .int .u64 (n : Int)] w (MulPost n w) := by
  have H := Lib.hid (mul64_one n w hn)
  unfold MulPost at H ⊢
  go_enter Tryd.func81, Tryd.ntmps81
  go_wp2_with fail
  refine H.out.mono ?_
  rintro e w1 ⟨rfl, rfl⟩
  go_wp2
  go_ret2
  exact ⟨rfl, rfl⟩

def negV (k n : Nat) : List Value := List.replicate k (.int .i64 (-1)) ++ List.replicate (n - k) (Value.int .i64 0)
theorem negV_length {k n : Nat} (h : k ≤ n) : (negV k n).length = n := by simp [negV]; omega
theorem negV_splice (k n m : Nat) : splice (negV k n) k (List.replicate m (.int .i64 (-1))) = negV (k + m) n := by
  unfold splice negV
  have e1 : (List.replicate k (Value.int .i64 (-1)) ++ List.replicate (n - k) (Value.int .i64 0)).take k = List.replicate k (.int .i64 (-1)) := by
    rw [List.take_append_of_le_length (by simp)]; simp
  have e2 : (List.replicate k (Value.int .i64 (-1)) ++ List.replicate (n - k) (Value.int .i64 0)).drop (k + (List.replicate m (Value.int .i64 (-1))).length) = List.replicate (n - (k + m)) (Value.int .i64 0) := by
    rw [List.drop_append]
    simp
    omega
  rw [e1, e2, ← List.append_assoc, List.replicate_append_replicate]
theorem negV_get {k n j : Nat} (hj : j < k) : (negV k n)[j]? = some (.int .i64 (-1)) := by
  unfold negV
  rw [List.getElem?_append_left (by simpa using hj)]
  simp [hj]
theorem make_zeros (n : Nat) (hn : n ≤ 1000) (W : World) : (Instr.makeSlice 25 (.int .i64 (n : Int)) (.int .i64 (n : Int))).run Tryd.prog W = .ok (.slice (some ⟨W.heap.size, 0, none⟩) n n) (W.alloc (.cells (negV 0 n).toArray 3)) := by
  rw [make_counts n hn W]
  congr 4
  simp [negV, numsV, countsL, List.map_const']
def RepPost (n : Nat) (w : World) (e : Ending) (w' : World) : Prop := ∃ g, e = .returned (.slice (some ⟨g, 0, none⟩) n n) ∧ Blk w' g 3 (List.replicate n (Value.int .i64 (-1))).toArray ∧ w.heap.size ≤ g ∧ Below w.heap.size w w'
theorem info_int1 : (Tryd.prog.info? 3).map (·.size) = some 1 := by kernel_rfl
set_option maxRecDepth 100000 in
set_option maxHeartbeats 2000000 in
theorem repeat_any (g n : Nat) (w : World) (h1 : 1 ≤ n) (hn : n ≤ 1000) (hg : g < w.heap.size) (hc : w.cell? ⟨g, 0, none⟩ = some (.int .i64 (-1))) :
    Calls Tryd.prog 64 #[.slice (some ⟨g, 0, none⟩) 1 1, .int .i64 (n : Int)] w (RepPost n w) := by
  have H := Lib.hid (mul_one n w hn)
  unfold MulPost at H
  have hmk := make_zeros n hn
  have t1 : decide ((n : Int) < 0) = false := by simp
  have hc2 := (World.cell?_alloc_lt w (.cells (negV 0 n).toArray 3) ⟨g, 0, none⟩ hg).trans hc
  have hB := Blk.new w 3 (negV 0 n).toArray
  have hb0 : Below w.heap.size w (w.alloc (.cells (negV 0 n).toArray 3)) := (Below.refl _ _).alloc (Nat.le_refl _) _
  go_enter Tryd.func64, Tryd.ntmps64
  go_wp2_with fail
  refine H.out.mono ?_
  rintro e w1 ⟨rfl, rfl⟩
  go_wp2_with (first
    | (refine wpList_copy_splice rfl (.tmp 31) (.tmp 32) _ _ rfl 3 Tryd.underlying25 info_int1 _ _ n n 1 1 rfl rfl w.heap.size 0 (negV 0 n) 3 hB [.int .i64 (-1)] ?c1 ?c2 ?c3 ?c4 w.heap.size w hb0 (Nat.le_refl _) ?_)
    | fail)
  case c1 => show 1 = min 1 n; omega
  case c2 =>
    intro j v hv
    rcases j with _ | j
    · simp at hv
      subst hv
      exact hc
    · simp at hv
  case c3 => rw [negV_length (Nat.zero_le _)]; simp; omega
  case c4 => simp [Value.oneCell']
  intro w1 hB1 hb1
  have e1 := negV_splice 0 n 1
  rw [show (List.replicate 1 (Value.int .i64 (-1))) = [.int .i64 (-1)] from rfl, Nat.zero_add] at e1
  rw [e1] at hB1
  have HB1 : Hid (Blk w1 w.heap.size 3 (negV 1 n).toArray) := hB1
  clear hB1 hmk hB hc2 e1
  go_wp2_with fail
  go_loopw [8] (fun kv wr => ∃ k : Nat, 1 ≤ k ∧ k ≤ n ∧ kv = .int .i64 (k : Int) ∧ Hid (Blk wr w.heap.size 3 (negV k n).toArray) ∧ Below w.heap.size w wr) (fun kv _ => n - (intOf kv).toNat)
  case atStart => exact ⟨1, by omega, h1, rfl, HB1, hb1⟩
  case round =>
    obtain ⟨k, hk1, hkn, rfl, hB, hb⟩ := hrel
    by_cases hlt : k < n
    · have hlt2 : (k : Int) < n := by omega
      obtain ⟨m, hm, hm1⟩ : ∃ m : Nat, m = min k (n - k) ∧ k + m ≤ n := ⟨_, rfl, by omega⟩
      have hsrc : ∀ (j : Nat) (v : Value), (List.replicate m (Value.int .i64 (-1)))[j]? = some v → wr.cell? ((⟨w.heap.size, 0, none⟩ : Addr).add j) = some v := by
        intro j v hv
        have hj : j < m := by
          have := (List.getElem?_eq_some_iff.1 hv).1
          simpa using this
        have e : ((⟨w.heap.size, 0, none⟩ : Addr).add j) = ⟨w.heap.size, j, none⟩ := by
          by_cases h0 : j = 0
          · subst h0; rfl
          · simp [Addr.add, h0]
        rw [e, hB.out.cell j]
        have h2 := negV_get (k := k) (n := n) (j := j) (by omega)
        have h3 : (negV k n).toArray[j]? = some (Value.int .i64 (-1)) := by simpa using h2
        rw [h3, ← hv]
        simp [hj]
      have HSrc := Lib.hid hsrc
      have HSp := Lib.hid (negV_splice k n m)
      have HM := Lib.hid hm
      have hkk : (k : Int) ≤ n := by omega
      have HB := Lib.hid hB.out
      have hs1 : IntKind.i64.wrap ((k : Int) + (m : Int)) = ((k + m : Nat) : Int) := by rw [IntWalk.i64_in _ (by omega)]; omega
      have hm0 : 1 ≤ m := by omega
      have HLen := Lib.hid (negV_length (k := k) (n := n) hkn)
      clear hsrc hm hB
      go_wp2_with fail
      have hne : ¬ n = k := by omega
      have HN : Hid ((List.replicate m (Value.int .i64 (-1))).length = Nat.min k (n - k)) := Lib.hid (by rw [List.length_replicate]; exact HM.out)
      have HFit : Hid (k + (List.replicate m (Value.int .i64 (-1))).length ≤ (negV k n).length) := Lib.hid (by rw [List.length_replicate, HLen.out]; exact hm1)
      have HOne : Hid (∀ v ∈ List.replicate m (Value.int .i64 (-1)), v.oneCell' = true) := Lib.hid fun v hv => by
        obtain rfl := List.eq_of_mem_replicate hv
        rfl
      have HLm : Hid ((List.replicate m (Value.int .i64 (-1))).length = m) := Lib.hid (by simp)
      have HBel := Lib.hid hb
      generalize List.replicate m (Value.int .i64 (-1)) = cs at *
      clear hb hlt
      go_region_law ((refine step_copy_splice rfl (.tmp 41) (.tmp 44) _ _ rfl 3 Tryd.underlying25 info_int1 (some ⟨w.heap.size, k, none⟩) (some ⟨w.heap.size, 0, none⟩) (n - k) (n - k) k n (by simp [Act.eval, Act.put]) (by simp [Act.eval, Act.put]) w.heap.size k (negV k n) 3 HB.out cs HN.out (fun _ => ⟨rfl, _, rfl, HSrc.out⟩) HFit.out HOne.out w.heap.size w HBel.out.drew (Nat.le_refl _) ?_
                      intro w2 hB2 hb2
                      rw [HLm.out]))
      all_goals
        have HB2 : Hid (Blk w2 w.heap.size 3 (negV (k + m) n).toArray) := Lib.hid (by
          have := hB2.out
          rwa [HSp.out] at this)
        go_frame
        go_roundw
        case rel => ((repeat apply Exists.intro); exact ⟨⟨k + m, by omega, hm1, by first | rfl | go_num, HB2, hb2⟩, rfl⟩)
        case measure => simp [intOf]; omega
    · obtain rfl : k = n := by omega
      have hge : ¬ (k : Int) < k := by omega
      have HF := Lib.hid (show Blk wr w.heap.size 3 (List.replicate k (Value.int .i64 (-1))).toArray by
        have := hB.out
        unfold negV at this
        simpa using this)
      go_wp2
      go_ret
      exact ⟨_, rfl, HF.out, Nat.le_refl _, hb⟩
end Go.Proofs.YtbbbnnooaaelmaaDoor
