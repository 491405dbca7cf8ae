/-
  The walk of ring.New.
-/
import Derived.Test.YtbbbnnooaaelmaaDoorRingSort
import Derived.Test.YtbbbnnooaaelmaaDoorCheck
import Derived.Deep.RegionLaw
namespace Go.Proofs.YtbbbnnooaaelmaaDoor
open Go.RowKit Go.Sort

theorem info_point : (Tryd.prog.info? 113).map (fun i => (i.zero, i.size, i.bytes)) = some (some (.agg #[.int .u64 0, .string ⟨#[]⟩]), 2, 24) := by kernel_rfl
/-- A ring in memory. -/
structure RingR (w : World) (B rp : Nat) (s : List Pt) (sv : Value) : Prop where
  blk : Blk w rp 111 #[sv]
  own : w.ownsRow B 113 2 sv s.length (flatP s)
  base : B ≤ rp
theorem RingR.below {w w' : World} {B rp : Nat} {s : List Pt} {sv : Value} (h : RingR w B rp s sv) (hb : Below w.heap.size w w') : RingR w' B rp s sv := ⟨h.blk.below hb h.blk.lt, own_below h.own hb, h.base⟩
theorem grown_undrew2 {a w : World} {row : Option Nat} (h : a.drew.grownBy w row) : a.grownBy w row := ⟨h.os, h.tape, h.output, h.size, h.block⟩
theorem RingR.push {w w1 : World} {B rp n : Nat} {s : List Pt} {sv v : Value} {p : Pt} {o : Obj} (h : RingR w B rp s sv) (hB : B ≤ w.heap.size) (hg : (w.alloc o).drew.grownBy w1 sv.ownBlock) (hn : Hid (s.length = n))
    (ho : w1.ownsRow B 113 2 v (n + 1) (flatP s ++ encPt p)) :
    Hid (RingR (w1.setCell ⟨rp, 0, none⟩ v) B rp (s ++ [p]) v ∧ KeepT B [111, 113] w (w1.setCell ⟨rp, 0, none⟩ v)) ∧ w1.cell? ⟨rp, 0, none⟩ = some sv ∧ w1.frozen? ⟨rp, 0, none⟩ = false := by
  have hg2 := grown_undrew2 hg
  have k1 : KeepT B [113] w w1 := ((KeepT.alloc0 hB o).more (by simp)).trans (KeepT.of_app (h.own.alloc o) hg2 (by simp; omega))
  have hb3 := k1.blk h.blk (by decide)
  have k2 : KeepT B [111] w1 (w1.setCell ⟨rp, 0, none⟩ v) := (KeepT.refl _ _ _).setCell hb3 (by simp) h.base v
  have e : flatP (s ++ [p]) = flatP s ++ encPt p := by simp [flatP]
  refine ⟨Lib.hid ⟨⟨hb3.set_ 0 v, ?_, h.base⟩, (k1.more (by simp)).trans (k2.more (by simp))⟩, hb3.cell 0, hb3.frozen 0⟩
  rw [List.length_append, List.length_singleton, hn.out, e]
  exact k2.own ho (by decide)

def ptOf (x : ByteArray) (c : Nat) : Pt := ⟨ofN x (1000 + c), x⟩
theorem points_take {l : List ByteArray} {k copies : Nat} (hk : k < l.length) : pointsOf (l.take (k + 1)) copies = pointsOf (l.take k) copies ++ (List.range copies).map (ptOf l[k]) := by
  unfold pointsOf
  rw [List.take_succ_eq_append_getElem hk, List.flatMap_append]
  simp [ptOf]
theorem range_snoc (x : ByteArray) (c : Nat) : (List.range (c + 1)).map (ptOf x) = (List.range c).map (ptOf x) ++ [ptOf x c] := by rw [List.range_succ, List.map_append]; rfl
def RingPost (l : List ByteArray) (copies : Nat) (w : World) (e : Ending) (w' : World) : Prop :=
  ∃ rp s sv, e = .returned (.tuple #[.pointer (some ⟨rp, 0, none⟩), .nilIface]) ∧ RingR w' w.heap.size rp s sv ∧ IsSort (pointsOf l copies) s ∧ Below w.heap.size w w'
theorem pt_cell (w : World) (x : Int) (y : ByteArray) : ∀ (j : Nat) (u : Value), [Value.int .u64 x, .string y][j]? = some u → (w.alloc (.cells #[.int .u64 x, .string y] 113)).cell? ((⟨w.heap.size, 0, none⟩ : Addr).add j) = some u := by
  intro j u hu
  have hB := Blk.new w 113 #[.int .u64 x, .string y]
  have e : ((⟨w.heap.size, 0, none⟩ : Addr).add j) = ⟨w.heap.size, j, none⟩ := by
    by_cases h0 : j = 0
    · subst h0; rfl
    · simp [Addr.add, h0]
  rw [e]
  refine (hB.cell j).trans ?_
  simpa using hu

set_option maxRecDepth 100000 in
set_option maxHeartbeats 4000000 in
theorem ringNew_ok (ea : Nat → Addr) (A : Option Addr) (c B : Nat) (l : List ByteArray) (copies : Nat) (w : World) (hE : Errs3 ea w) (hr : Reads w B 1 A l.length (strV l)) (hB : B ≤ w.heap.size) (hlc : l.length ≤ c) (hl : l.length ≤ maxLen) (hs : ∀ s ∈ l, s.size ≤ maxLen)
    (hf : hostsFault l = none) (h0 : 0 < l.length) (h1 : 1 ≤ copies) (h2 : copies ≤ 16) :
    Calls Tryd.prog 34 #[.slice A l.length c, .int .i64 (copies : Int)] w (RingPost l copies w) := by
  have hl12 : l.length ≤ 12 := by
    rcases Nat.lt_or_ge 12 l.length with h | h
    · unfold hostsFault at hf; rw [if_pos h] at hf; cases hf
    · exact h
  have HC : Hid (Calls Tryd.prog 31 #[.slice A l.length c] w fun e w' => e = .returned .nilIface ∧ Below w.heap.size w w') := Lib.hid ((check_any ea A c B l w hE hr hB hlc hl hs).mono fun e w' h => by
    unfold CheckPost at h; rw [hf] at h; exact h)
  have z0 : ((l.length : Int) == 0) = false := beq_eq_false_iff_ne.2 (by omega)
  have b1 : decide ((copies : Int) < 1) = false := by simp; omega
  have b2 : decide ((copies : Int) > 16) = false := by simp; omega
  obtain ⟨i0, hi0, hz0, hz1, hz2⟩ := info_parts info_point
  clear hE hf hl
  go_enter Tryd.func34, Tryd.ntmps34
  go_wp2_with fail
  refine HC.out.mono ?_
  rintro e w1 ⟨rfl, hb1⟩
  go_wp2_with fail
  go_loopw [31] (fun iv wr => ∃ (k : Nat) (sv : Value), k ≤ l.length ∧ iv = .int .i64 (k : Int) ∧ Hid (RingR wr w.heap.size w1.heap.size (pointsOf (l.take k) copies) sv) ∧ Below w.heap.size w wr) (fun iv _ => l.length - (intOf iv).toNat)
  case atStart => exact ⟨0, .slice none 0 0, Nat.zero_le _, rfl, Lib.hid ⟨Blk.new _ _ _, ⟨rfl, .inl ⟨rfl, rfl⟩⟩, hb1.size⟩, hb1.alloc hb1.size _⟩
  case round =>
    obtain ⟨k, sv, hk, rfl, hR, hb⟩ := hrel
    by_cases hlt : k < l.length
    · have hrr : Reads wr B 1 A l.length (strV l) := hr.keep fun p hp => hb.cell (by omega)
      obtain ⟨ad, hA, hc⟩ := str_at hrr hlt
      subst hA
      have hlt2 : (k : Int) < l.length := by omega
      have hszk := hs l[k] (List.getElem_mem hlt)
      have hPT := Lib.hid (points_take (copies := copies) hlt)
      have hpl := pointsOf_length (l.take k) copies
      have hpk : (l.take k).length = k := by rw [List.length_take]; omega
      rw [hpk] at hpl
      have hkc : k * copies ≤ 12 * 16 := Nat.mul_le_mul (by omega) h2
      have HOf := Lib.hid (fun (q : Nat) (hq : q < 16) W => of_any l[k] (1000 + q) W hszk (by unfold U64; omega))
      have HPL := Lib.hid hpl
      clear hpl hpk hrr
      generalize pointsOf (l.take k) copies = pk at *
      generalize l[k] = x at *
      go_wp2_with fail
      obtain ⟨wo, rfl⟩ : ∃ wo : World, wo = wr := ⟨_, rfl⟩
      go_loopw [36] (fun jv wq => ∃ (q : Nat) (sv : Value), q ≤ copies ∧ jv = .int .i64 (q : Int) ∧ Hid (RingR wq w.heap.size w1.heap.size (pk ++ (List.range q).map (ptOf x)) sv) ∧ Below w.heap.size w wq) (fun jv _ => copies - (intOf jv).toNat)
      case atStart => exact ⟨0, sv, Nat.zero_le _, rfl, by simpa using hR, hb⟩
      case round =>
        obtain ⟨q, sv2, hq, rfl, hR2, hb2⟩ := hrel
        by_cases hqt : q < copies
        · have hqt2 : (q : Int) < copies := by omega
          obtain ⟨N, hN⟩ : ∃ N : Nat, ofN x (1000 + q) = N := ⟨_, rfl⟩
          have HOq : Hid (∀ W, Calls Tryd.prog 23 #[.string x, .int .u64 (1000 + (q : Int))] W (NumIs N W)) := Lib.hid fun W => by
            have := HOf.out q (by omega) W
            rw [hN, Int.natCast_add] at this
            exact this
          have hw1 : IntKind.u64.wrap (1000 + (q : Int)) = 1000 + (q : Int) := by
            rw [IntKind.wrap_u64]
            exact Int.emod_eq_of_lt (by omega) (Int.lt_trans (show 1000 + (q : Int) < 2000 by omega) (by decide))
          have hw0 : IntKind.i64.wrap (1000 + (q : Int)) = 1000 + (q : Int) := IntWalk.i64_in _ (by omega)
          have hlenq : (pk ++ (List.range q).map (ptOf x)).length = k * copies + q := by rw [List.length_append, HPL.out]; simp
          have hown := hR2.out.own
          rw [hlenq] at hown
          have HLQ := Lib.hid hlenq
          have hEn : Hid (encPt (ptOf x q) = [.int .u64 (N : Int), .string x]) := Lib.hid (by rw [← hN]; rfl)
          have c2 : wr.cell? ⟨w1.heap.size, 0, none⟩ = some sv2 := hR2.out.blk.cell 0
          have hml : w1.heap.size < wr.heap.size := hR2.out.blk.lt
          have hmn : ¬ w1.heap.size = wr.heap.size := by omega
          obtain ⟨Av, cv, hsv, _⟩ := own_slice hown
          subst hsv
          have HW : Hid (((wr.alloc (.cells #[.int .u64 (N : Int), .string x] 113)).drew).ownsRow w.heap.size 113 2 (.slice Av (k * copies + q) cv) (k * copies + q) (flatP (pk ++ (List.range q).map (ptOf x)))) := Lib.hid (hown.alloc _)
          have HR2 : Hid (Reads ((wr.alloc (.cells #[.int .u64 (N : Int), .string x] 113)).drew) (wr.heap.size + 1) 2 (some ⟨wr.heap.size, 0, none⟩) 1 [.int .u64 (N : Int), .string x]) := Lib.hid ⟨rfl, fun _ => ⟨_, rfl, by simp, pt_cell wr N x⟩⟩
          have HBW : Hid (w.heap.size ≤ ((wr.alloc (.cells #[.int .u64 (N : Int), .string x] 113)).drew).heap.size) := Lib.hid (by have := hb2.size; simp; omega)
          have hM : k * copies + q + 1 ≤ 1000 := by omega
          clear hN hlenq hown
          generalize hM2 : k * copies + q = M at *
          clear hM2
          go_wp2_with fail
          go_region_law (first
            | (refine step_append_any _ rfl (.tmp 43) (.tmp 51) _ rfl w.heap.size 113 i0 _ 2 24 Tryd.underlying109 hi0 hz0 hz1 hz2 rfl (by omega) (.slice Av M cv) M _ (by simp [Act.eval]) HW.out (wr.heap.size + 1) (some ⟨wr.heap.size, 0, none⟩) 1 1 _ (by simp [Act.eval]) HR2.out (by simp [Value.oneCell']) (by simp only [maxLen]; omega) (by omega) HBW.out ?_
               intro v' w3 hown3 hgrow _
               obtain ⟨HP, cc, cf⟩ := hR2.out.push (p := ptOf x q) hb2.size hgrow HLQ (by rw [hEn.out]; exact hown3)
               obtain ⟨A3, cap3, hv3, _⟩ := own_slice hown3
               subst hv3)
            | (go_simp; go_at_call 23; refine (HOq.out _).mono ?_; rintro e w' ⟨rfl, rfl⟩))
          all_goals
            go_wp2
            go_roundw
            case rel => exact ⟨q + 1, _, by omega, by go_num, by rw [range_snoc, ← List.append_assoc]; exact Lib.hid HP.out.1, hb2.trans (HP.out.2.1)⟩
            case measure => simp [intOf]; omega
        · have hqe : q = copies := by omega
          subst hqe
          have hge : ¬ (q : Int) < q := by omega
          go_wp2
          go_roundw
          case rel => exact ⟨k + 1, sv2, by omega, by go_num, by rw [hPT.out]; exact hR2, hb2⟩
          case measure => simp [intOf]; omega
    · have hke : k = l.length := by omega
      subst hke
      have hge : ¬ (l.length : Int) < l.length := by omega
      have hR' := hR.out
      rw [List.take_length] at hR'
      have hlen := pointsOf_length l copies
      have hpos : 0 < (pointsOf l copies).length := by rw [hlen]; exact Nat.mul_pos h0 h1
      have hle : l.length * copies ≤ 12 * 16 := Nat.mul_le_mul hl12 h2
      obtain ⟨g, cap, hsv, _⟩ := hR'.own.form hpos
      subst hsv
      have HS := Lib.hid (sort_points wr hR'.own (by rw [hlen]; omega))
      have c2 : wr.cell? ⟨w1.heap.size, 0, none⟩ = some (.slice (some ⟨g, 0, none⟩) (pointsOf l copies).length cap) := hR'.blk.cell 0
      have HRR := Lib.hid hR'
      clear hR' hlen hR hle hpos
      generalize hpts : pointsOf l copies = pts at *
      have HP := Lib.hid hpts
      clear hpts
      go_wp2_with fail
      refine HS.out.mono ?_
      rintro e w2 ⟨rfl, s, hso, hown2, hg2⟩
      have hsl : s.length = pts.length := hso.1.length_eq
      have hb3 : Below w.heap.size w w2 := hb.grown hg2 hb.size fun k' e' => by cases e'; exact (HRR.out.own.lt g rfl).1
      have hblk : Blk w2 w1.heap.size 111 #[.slice (some ⟨g, 0, none⟩) pts.length cap] := HRR.out.blk.grown hg2 (fun e' => own_blk_ne HRR.out.own HRR.out.blk (by decide) e'.symm)
      have HF : Hid (RingR w2 w.heap.size w1.heap.size s (.slice (some ⟨g, 0, none⟩) pts.length cap)) := Lib.hid ⟨hblk, by rw [hsl]; exact hown2, HRR.out.base⟩
      have HSO := Lib.hid hso
      clear hblk hso hsl
      go_wp2
      go_ret2
      exact ⟨_, s, _, rfl, HF.out, HP.out ▸ HSO.out, hb3⟩
end Go.Proofs.YtbbbnnooaaelmaaDoor
