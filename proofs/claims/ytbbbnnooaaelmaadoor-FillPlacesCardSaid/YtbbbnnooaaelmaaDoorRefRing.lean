/-
  The reference's RingOf: the points, as they come.
-/
import Derived.Test.YtbbbnnooaaelmaaDoorRingNew
import Derived.Test.YtbbbnnooaaelmaaDoorRefNumber
import Derived.Test.YtbbbnnooaaelmaaDoorNums
namespace Go.Proofs.YtbbbnnooaaelmaaDoor
open Go.RowKit Go.Sort

theorem info_rpoint : (Tryd.prog.info? 121).map (fun i => (i.zero, i.size, i.bytes)) = some (some (.agg #[.int .u64 0, .string ⟨#[]⟩]), 2, 24) := by kernel_rfl
/-- A ring in memory. -/
structure RefR (w : World) (B rp : Nat) (s : List Pt) (sv : Value) : Prop where
  blk : Blk w rp 119 #[sv]
  own : w.ownsRow B 121 2 sv s.length (flatP s)
  base : B ≤ rp
theorem RefR.below {w w' : World} {B rp : Nat} {s : List Pt} {sv : Value} (h : RefR w B rp s sv) (hb : Below w.heap.size w w') : RefR w' B rp s sv := ⟨h.blk.below hb h.blk.lt, own_below h.own hb, h.base⟩
theorem RefR.push {w w1 : World} {B rp n : Nat} {s : List Pt} {sv v : Value} {p : Pt} {o : Obj} (h : RefR w B rp s sv) (hB : B ≤ w.heap.size) (hg : (w.alloc o).drew.grownBy w1 sv.ownBlock) (hn : Hid (s.length = n))
    (ho : w1.ownsRow B 121 2 v (n + 1) (flatP s ++ encPt p)) :
    Hid (RefR (w1.setCell ⟨rp, 0, none⟩ v) B rp (s ++ [p]) v ∧ KeepT B [119, 121] w (w1.setCell ⟨rp, 0, none⟩ v)) ∧ w1.cell? ⟨rp, 0, none⟩ = some sv ∧ w1.frozen? ⟨rp, 0, none⟩ = false := by
  have hg2 := grown_undrew2 hg
  have k1 : KeepT B [121] w w1 := ((KeepT.alloc0 hB o).more (by simp)).trans (KeepT.of_app (h.own.alloc o) hg2 (by simp; omega))
  have hb3 := k1.blk h.blk (by decide)
  have k2 : KeepT B [119] w1 (w1.setCell ⟨rp, 0, none⟩ v) := (KeepT.refl _ _ _).setCell hb3 (by simp) h.base v
  have e : flatP (s ++ [p]) = flatP s ++ encPt p := by simp [flatP]
  refine ⟨Lib.hid ⟨⟨hb3.set_ 0 v, ?_, h.base⟩, (k1.more (by simp)).trans (k2.more (by simp))⟩, hb3.cell 0, hb3.frozen 0⟩
  rw [List.length_append, List.length_singleton, hn.out, e]
  exact k2.own ho (by decide)

theorem rpt_cell (w : World) (x : Int) (y : ByteArray) : ∀ (j : Nat) (u : Value), [Value.int .u64 x, .string y][j]? = some u → (w.alloc (.cells #[.int .u64 x, .string y] 121)).cell? ((⟨w.heap.size, 0, none⟩ : Addr).add j) = some u := by
  intro j u hu
  have hB := Blk.new w 121 #[.int .u64 x, .string y]
  have e : ((⟨w.heap.size, 0, none⟩ : Addr).add j) = ⟨w.heap.size, j, none⟩ := by
    by_cases h0 : j = 0
    · subst h0; rfl
    · simp [Addr.add, h0]
  rw [e]
  refine (hB.cell j).trans ?_
  simpa using hu

def RefRingPost (l : List ByteArray) (copies : Nat) (w : World) (e : Ending) (w' : World) : Prop :=
  ∃ rp sv, e = .returned (.pointer (some ⟨rp, 0, none⟩)) ∧ RefR w' w.heap.size rp (pointsOf l copies) sv ∧ Below w.heap.size w w'
set_option maxRecDepth 100000 in
set_option maxHeartbeats 4000000 in
theorem ringOf_any (A : Option Addr) (c : Nat) (l : List ByteArray) (copies : Nat) (w : World) (hr : Reads w w.heap.size 1 A l.length (strV l)) (hl12 : l.length ≤ 12) (hs : ∀ s ∈ l, s.size ≤ maxLen) (h2 : copies ≤ 16) :
    Calls Tryd.prog 36 #[.slice A l.length c, .int .i64 (copies : Int)] w (RefRingPost l copies w) := by
  obtain ⟨i0, hi0, hz0, hz1, hz2⟩ := info_parts info_rpoint
  go_enter Tryd.func36, Tryd.ntmps36
  go_wp2_with fail
  go_loopw [6] (fun iv wr => ∃ (k : Nat) (sv : Value), k ≤ l.length ∧ iv = .int .i64 (k : Int) ∧ Hid (RefR wr w.heap.size w.heap.size (pointsOf (l.take k) copies) sv) ∧ Below w.heap.size w wr) (fun iv _ => l.length - (intOf iv).toNat)
  case atStart => exact ⟨0, .slice none 0 0, Nat.zero_le _, rfl, Lib.hid ⟨Blk.new _ _ _, ⟨rfl, .inl ⟨rfl, rfl⟩⟩, Nat.le_refl _⟩, (Below.refl _ _).alloc (Nat.le_refl _) _⟩
  case round =>
    obtain ⟨k, sv, hk, rfl, hR, hb⟩ := hrel
    by_cases hlt : k < l.length
    · obtain ⟨ad, hA, hX⟩ := strAt_of hr hlt
      subst hA
      have hlt2 : (k : Int) < l.length := by omega
      have hszk := hs l[k] (List.getElem_mem hlt)
      have hPT := Lib.hid (points_take (copies := copies) hlt)
      have hpl := pointsOf_length (l.take k) copies
      have hpk : (l.take k).length = k := by rw [List.length_take]; omega
      rw [hpk] at hpl
      have hkc : k * copies ≤ 12 * 16 := Nat.mul_le_mul (by omega) h2
      have HOf := Lib.hid (fun (q : Nat) (hq : q < 16) W => numberOf_any l[k] (1000 + q) W hszk (by unfold U64; omega))
      have HPL := Lib.hid hpl
      clear hpl hpk
      generalize pointsOf (l.take k) copies = pk at *
      generalize l[k] = x at *
      have HX := Lib.hid hX
      clear hX
      go_wp2_with fail
      obtain ⟨wo, rfl⟩ : ∃ wo : World, wo = wr := ⟨_, rfl⟩
      go_loopw [7] (fun jv wq => ∃ (q : Nat) (sv : Value), q ≤ copies ∧ jv = .int .i64 (q : Int) ∧ Hid (RefR wq w.heap.size w.heap.size (pk ++ (List.range q).map (ptOf x)) sv) ∧ Below w.heap.size w wq) (fun jv _ => copies - (intOf jv).toNat)
      case atStart => exact ⟨0, sv, Nat.zero_le _, rfl, by simpa using hR, hb⟩
      case round =>
        obtain ⟨q, sv2, hq, rfl, hR2, hb2⟩ := hrel
        by_cases hqt : q < copies
        · have hqt2 : (q : Int) < copies := by omega
          obtain ⟨N, hN⟩ : ∃ N : Nat, ofN x (1000 + q) = N := ⟨_, rfl⟩
          have HOq : Hid (∀ W, Calls Tryd.prog 24 #[.string x, .int .u64 (1000 + (q : Int))] W (NumIs N W)) := Lib.hid fun W => by
            have := HOf.out q (by omega) W
            rw [hN, Int.natCast_add] at this
            exact this
          have hw1 : IntKind.u64.wrap (1000 + (q : Int)) = 1000 + (q : Int) := by
            rw [IntKind.wrap_u64]
            exact Int.emod_eq_of_lt (by omega) (Int.lt_trans (show 1000 + (q : Int) < 2000 by omega) (by decide))
          have hw0 : IntKind.i64.wrap (1000 + (q : Int)) = 1000 + (q : Int) := IntWalk.i64_in _ (by omega)
          have hlenq : (pk ++ (List.range q).map (ptOf x)).length = k * copies + q := by rw [List.length_append, HPL.out]; simp
          have hown := hR2.out.own
          rw [hlenq] at hown
          have HLQ := Lib.hid hlenq
          have hEn : Hid (encPt (ptOf x q) = [.int .u64 (N : Int), .string x]) := Lib.hid (by rw [← hN]; rfl)
          have c2 : wr.cell? ⟨w.heap.size, 0, none⟩ = some sv2 := hR2.out.blk.cell 0
          have hx0 := HX.out wr hb2
          have hml : w.heap.size < wr.heap.size := hR2.out.blk.lt
          have hmn : ¬ w.heap.size = wr.heap.size := by omega
          obtain ⟨Av, cv, hsv, _⟩ := own_slice hown
          subst hsv
          have HW : Hid (((wr.alloc (.cells #[.int .u64 (N : Int), .string x] 121)).drew).ownsRow w.heap.size 121 2 (.slice Av (k * copies + q) cv) (k * copies + q) (flatP (pk ++ (List.range q).map (ptOf x)))) := Lib.hid (hown.alloc _)
          have HR2 : Hid (Reads ((wr.alloc (.cells #[.int .u64 (N : Int), .string x] 121)).drew) (wr.heap.size + 1) 2 (some ⟨wr.heap.size, 0, none⟩) 1 [.int .u64 (N : Int), .string x]) := Lib.hid ⟨rfl, fun _ => ⟨_, rfl, by simp, rpt_cell wr N x⟩⟩
          have HBW : Hid (w.heap.size ≤ ((wr.alloc (.cells #[.int .u64 (N : Int), .string x] 121)).drew).heap.size) := Lib.hid (by have := hb2.size; simp; omega)
          have hM : k * copies + q + 1 ≤ 1000 := by omega
          clear hN hlenq hown
          generalize hM2 : k * copies + q = M at *
          clear hM2
          go_wp2_with fail
          go_region_law (first
            | (refine step_append_any _ rfl (.tmp 25) (.tmp 39) _ rfl w.heap.size 121 i0 _ 2 24 Tryd.underlying117 hi0 hz0 hz1 hz2 rfl (by omega) (.slice Av M cv) M _ (by simp [Act.eval]) HW.out (wr.heap.size + 1) (some ⟨wr.heap.size, 0, none⟩) 1 1 _ (by simp [Act.eval]) HR2.out (by simp [Value.oneCell']) (by simp only [maxLen]; omega) (by omega) HBW.out ?_
               intro v' w3 hown3 hgrow _
               obtain ⟨HP, cc, cf⟩ := hR2.out.push (p := ptOf x q) hb2.size hgrow HLQ (by rw [hEn.out]; exact hown3)
               obtain ⟨A3, cap3, hv3, _⟩ := own_slice hown3
               subst hv3)
            | (go_simp; go_at_call 24; refine (HOq.out _).mono ?_; rintro e w' ⟨rfl, rfl⟩))
          all_goals
            go_wp2
            go_roundw
            case rel => exact ⟨q + 1, _, by omega, by go_num, by rw [range_snoc, ← List.append_assoc]; exact Lib.hid HP.out.1, hb2.trans (HP.out.2.1)⟩
            case measure => simp [intOf]; omega
        · have hqe : q = copies := by omega
          subst hqe
          have hge : ¬ (q : Int) < q := by omega
          go_wp2
          go_roundw
          case rel => exact ⟨k + 1, sv2, by omega, by go_num, by rw [hPT.out]; exact hR2, hb2⟩
          case measure => simp [intOf]; omega
    · have hke : k = l.length := by omega
      subst hke
      have hge : ¬ (l.length : Int) < l.length := by omega
      have hR' := hR.out
      rw [List.take_length] at hR'
      have HRR := Lib.hid hR'
      clear hR' hR
      go_wp2
      go_ret
      exact ⟨_, sv, rfl, HRR.out, hb⟩
end Go.Proofs.YtbbbnnooaaelmaaDoor
