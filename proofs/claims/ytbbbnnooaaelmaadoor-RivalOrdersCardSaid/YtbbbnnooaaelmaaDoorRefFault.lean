/-
  The walks of the reference's faults: Bare, Fine, HostsFault, HealthFault; SameTexts.
-/
import Derived.Test.YtbbbnnooaaelmaaDoorRefHosts
namespace Go.Proofs.YtbbbnnooaaelmaaDoor
open Go.RowKit

def fCode (o : Option Flt) : Nat := match o with | none => 0 | some f => f.code
def fAt (o : Option Flt) : Int := match o with | none => -1 | some f => match f.place with | none => -1 | some i => (i : Int)
/-- The reference's fault. -/
def FaultPost (o : Option Flt) (w : World) (e : Ending) (w' : World) : Prop := e = .returned (.agg #[.int .i64 (fCode o : Int), .int .i64 (fAt o)]) ∧ Below w.heap.size w w'

theorem bare_any (c : Int) (w : World) : Calls Tryd.prog 54 #[.int .i64 c] w fun e w' => e = .returned (.agg #[.int .i64 c, .int .i64 (-1)]) ∧ Below w.heap.size w w' := by
  go_enter Tryd.func54, Tryd.ntmps54
  go_wp2
  exact bodyPost_ret (v := .agg #[.int .i64 c, .int .i64 (-1)]) (by simp [results, Tryd.results54, go_sem]) rfl ⟨rfl, (Below.refl _ _).alloc (Nat.le_refl _) _⟩
theorem fine_any (w : World) : Calls Tryd.prog 53 #[] w fun e w' => e = .returned (.agg #[.int .i64 0, .int .i64 (-1)]) ∧ Below w.heap.size w w' := by
  go_enter Tryd.func53, Tryd.ntmps53
  go_wp2
  exact bodyPost_ret (v := .agg #[.int .i64 0, .int .i64 (-1)]) (by simp [results, Tryd.results53, go_sem]) rfl ⟨rfl, (Below.refl _ _).alloc (Nat.le_refl _) _⟩

theorem idx_lt {l : List ByteArray} {k : Nat} (hk : k < l.length) : decide (idx l l[k] < (k : Int)) = has (l.take k) l[k] := by
  obtain ⟨j, hj, hi, hg⟩ := idx_mem (List.getElem_mem hk)
  by_cases h : l[k] ∈ l.take k
  · rw [has_iff.2 h]
    obtain ⟨i, hil, hie⟩ := List.mem_iff_getElem.1 h
    rw [List.length_take] at hil
    have hik : i < k := by omega
    have hie2 : l[i] = l[k] := by rw [← hie, List.getElem_take]
    rw [decide_eq_true_iff, hi]
    rcases Nat.lt_or_ge j k with hlt | hge
    · omega
    · exfalso
      have : idx l l[k] ≤ (i : Int) := by
        have hb : i < l.length := by omega
        unfold idx
        cases hf : l.findIdx? (fun t => decide (l[k] = t)) with
        | none => simp
        | some m =>
          rw [List.findIdx?_eq_some_iff_getElem] at hf
          obtain ⟨hm, _, hall⟩ := hf
          rcases Nat.lt_or_ge i m with h2 | h2
          · have := hall i h2
            simp [hie2] at this
          · simp; omega
      omega
  · rw [Bool.eq_false_iff.2 (fun h' => h (has_iff.1 h')), decide_eq_false_iff_not, hi]
    intro hlt
    apply h
    rw [List.getElem?_eq_getElem hj] at hg
    rw [← Option.some.inj hg]
    exact List.mem_iff_getElem.2 ⟨j, by rw [List.length_take]; omega, by rw [List.getElem_take]⟩

def retFault (o : Option Flt) : Value := .agg #[.int .i64 (fCode o : Int), .int .i64 (fAt o)]
theorem faultPost_of {o o' : Option Flt} {w w' : World} {e : Ending} (h : o = o') (he : e = .returned (retFault o')) (hb : Below w.heap.size w w') : FaultPost o w e w' := by subst h; exact ⟨he, hb⟩

set_option maxRecDepth 100000 in
set_option maxHeartbeats 4000000 in
theorem hostsFault_ref (A : Option Addr) (c B : Nat) (l : List ByteArray) (w : World) (hr : Reads w B 1 A l.length (strV l)) (hB : B ≤ w.heap.size) (hl : l.length ≤ maxLen) (hs : ∀ s ∈ l, s.size ≤ maxLen) :
    Calls Tryd.prog 28 #[.slice A l.length c] w (FaultPost (hostsFault l) w) := by
  have hl' := hl
  unfold maxLen at hl'
  by_cases h12 : 12 < l.length
  · have e1 : decide ((l.length : Int) > 12) = true := by simp; omega
    have HF : Hid (hostsFault l = some ⟨2, none⟩) := Lib.hid (by unfold hostsFault; rw [if_pos h12])
    go_enter Tryd.func28, Tryd.ntmps28
    go_wp2_with fail
    refine (bare_any _ _).mono ?_
    rintro e w1 ⟨rfl, hb1⟩
    have hB1 : Blk w1 w.heap.size 47 _ := (Blk.new w 47 #[.int .i64 0, .int .i64 0]).below hb1 (by simp)
    have c0 := hB1.cell 0
    have c1 := hB1.cell 1
    have f0 := hB1.frozen 0
    have f1 := hB1.frozen 1
    have hz : w.heap.size < w1.heap.size := hB1.lt
    have hbb : Below w.heap.size w w1 := ((Below.refl _ _).alloc (Nat.le_refl _) _).trans (hb1.mono (by simp))
    have HB := Lib.hid hbb
    clear hbb hB1
    simp at c0 c1
    go_wp2
    refine bodyPost_ret (v := retFault (some ⟨2, none⟩)) (by simp [results, Tryd.results28, go_sem, retFault, fCode, fAt, c0, c1]) rfl (faultPost_of HF.out rfl ?_)
    exact (HB.out.setCell (p := ⟨w.heap.size, 0, none⟩) (Nat.le_refl _) _).setCell (p := ⟨w.heap.size, 1, none⟩) (Nat.le_refl _) _
  · have e1 : decide ((l.length : Int) > 12) = false := by simp; omega
    have HF : Hid (hostsFault l = faultGo l l.length 0) := Lib.hid (by unfold hostsFault; rw [if_neg h12])
    have hra : Reads (w.alloc (.cells #[.int .i64 0, .int .i64 0] 47)) B 1 A l.length (strV l) := hr.alloc hB _
    go_enter Tryd.func28, Tryd.ntmps28
    go_wp2_with fail
    go_loop [3] (fun kv => ∃ k : Nat, k ≤ l.length ∧ kv = .int .i64 (k : Int) ∧ Hid (faultGo l (l.length - k) k = faultGo l l.length 0)) (fun kv => l.length - (intOf kv).toNat)
    case atStart => exact ⟨0, Nat.zero_le _, rfl, Lib.hid rfl⟩
    case round =>
      obtain ⟨k, hk, rfl, ht⟩ := hrel
      by_cases hlt : k < l.length
      · obtain ⟨ad, hA, hc⟩ := str_at hra hlt
        have hlt2 : (k : Int) < l.length := by omega
        have hsz := hs l[k] (List.getElem_mem hlt)
        have HI := Lib.hid (fun W => index_any A c B l l[k] W)
        have HN := Lib.hid (isName_any l[k] (w.alloc (.cells #[.int .i64 0, .int .i64 0] 47)) hsz)
        have hx : idx l l[k] < k ↔ has (l.take k) l[k] = true := by rw [← idx_lt hlt]; simp
        have HIX := Lib.hid (HI.out _ hra hl)
        subst hA
        clear HI hra
        cases hn : isName l[k] with
        | false =>
          rw [hn] at HN
          have HG := Lib.hid (faultGo_name hlt hn)
          clear hn hsz hx HIX
          go_wp2_with fail
          refine HN.out.mono ?_
          rintro e w1 ⟨rfl, rfl⟩
          go_wp2
          refine bodyPost_ret (v := retFault (some ⟨4, some k⟩)) (by simp [results, Tryd.results28, go_sem, retFault, fCode, fAt]) rfl (faultPost_of (HF.out.trans (ht.out.symm.trans HG.out)) rfl ?_)
          exact (Below.refl _ _).alloc (Nat.le_refl _) _
        | true =>
          rw [hn] at HN
          unfold IdxPost at HIX
          cases hh : has (l.take k) l[k] with
          | true =>
            rw [hh] at hx
            have HG := Lib.hid (faultGo_exist hlt hn hh)
            have hi : idx l l[k] < k := hx.2 rfl
            have e2 : decide (idx l l[k] < (k : Int)) = true := by simpa using hi
            clear hn hsz hx hh hi
            generalize idx l l[k] = ix at *
            go_wp2_with fail
            refine HN.out.mono ?_
            rintro e w1 ⟨rfl, rfl⟩
            go_wp2_with fail
            refine HIX.out.mono ?_
            rintro e w1 ⟨rfl, rfl⟩
            go_wp2
            refine bodyPost_ret (v := retFault (some ⟨6, some k⟩)) (by simp [results, Tryd.results28, go_sem, retFault, fCode, fAt]) rfl (faultPost_of (HF.out.trans (ht.out.symm.trans HG.out)) rfl ?_)
            exact (Below.refl _ _).alloc (Nat.le_refl _) _
          | false =>
            rw [hh] at hx
            have HG := Lib.hid (faultGo_step hlt hn hh)
            have e2 : decide (idx l l[k] < (k : Int)) = false := by
              rw [decide_eq_false_iff_not]; intro h; exact absurd (hx.1 h) (by decide)
            clear hn hsz hx hh
            generalize idx l l[k] = ix at *
            go_wp2_with fail
            refine HN.out.mono ?_
            rintro e w1 ⟨rfl, rfl⟩
            go_wp2_with fail
            refine HIX.out.mono ?_
            rintro e w1 ⟨rfl, rfl⟩
            go_wp2
            go_round
            case rel => exact ⟨k + 1, by omega, by go_num, Lib.hid (HG.out.symm.trans ht.out)⟩
            case measure => simp [intOf]; omega
      · have hge : ¬ (k : Int) < l.length := by omega
        have HG := Lib.hid (faultGo_end (l := l) (k := k) (by omega))
        clear hra
        go_wp2_with fail
        refine (fine_any _).mono ?_
        rintro e w1 ⟨rfl, hb1⟩
        have hB1 : Blk w1 w.heap.size 47 _ := (Blk.new w 47 #[.int .i64 0, .int .i64 0]).below hb1 (by simp)
        have c0 := hB1.cell 0
        have c1 := hB1.cell 1
        have f0 := hB1.frozen 0
        have f1 := hB1.frozen 1
        have hz : w.heap.size < w1.heap.size := hB1.lt
        have hbb : Below w.heap.size w w1 := ((Below.refl _ _).alloc (Nat.le_refl _) _).trans (hb1.mono (by simp))
        have HB := Lib.hid hbb
        clear hbb hB1
        simp at c0 c1
        go_wp2
        refine bodyPost_ret (v := retFault none) (by simp [results, Tryd.results28, go_sem, retFault, fCode, fAt, c0, c1]) rfl (faultPost_of (HF.out.trans (ht.out.symm.trans HG.out)) rfl ?_)
        exact (HB.out.setCell (p := ⟨w.heap.size, 0, none⟩) (Nat.le_refl _) _).setCell (p := ⟨w.heap.size, 1, none⟩) (Nat.le_refl _) _

def YesQ (w : World) (e : Ending) (w' : World) : Prop := e = .returned (.bool true) ∧ ∃ m, w' = w.drewN m
set_option maxHeartbeats 1000000 in
theorem sameTexts_yes (A B : Option Addr) (ca cb Bd : Nat) (xs : List ByteArray) (w : World) (ha : Reads w Bd 1 A xs.length (strV xs)) (hb : Reads w Bd 1 B xs.length (strV xs)) (hl : xs.length ≤ maxLen) :
    Calls Tryd.prog 20 #[.slice A xs.length ca, .slice B xs.length cb] w (YesQ w) := by
  unfold maxLen at hl
  go_enter Tryd.func20, Tryd.ntmps20
  go_wp2
  go_loopw [5] (fun iv wr => ∃ k m : Nat, k ≤ xs.length ∧ iv = .int .i64 (k : Int) ∧ wr = w.drewN m) (fun iv _ => xs.length - (intOf iv).toNat)
  case atStart => exact ⟨0, 0, Nat.zero_le _, rfl, rfl⟩
  case round =>
    obtain ⟨k, m, hk, rfl, rfl⟩ := hrel
    by_cases hlt : k < xs.length
    · obtain ⟨ad, rfl, hc⟩ := str_at ha hlt
      obtain ⟨bd, rfl, hd⟩ := str_at hb hlt
      have hlt2 : (k : Int) < xs.length := by omega
      go_wp2
      go_quiet (fail)
      go_wp2
      go_roundw
      case rel => exact ⟨k + 1, _, by omega, by go_num, rfl⟩
      case measure => simp [intOf]; omega
    · have hge : ¬ (k : Int) < xs.length := by omega
      go_wp2
      go_ret
      exact ⟨rfl, _, rfl⟩
end Go.Proofs.YtbbbnnooaaelmaaDoor
