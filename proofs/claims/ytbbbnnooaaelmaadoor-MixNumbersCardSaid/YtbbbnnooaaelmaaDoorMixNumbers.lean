/-
  The law MixNumbers: its walk.
-/
import Derived.Test.YtbbbnnooaaelmaaDoorMixed
import Derived.Test.YtbbbnnooaaelmaaDoorRefNumber
import Derived.Test.YtbbbnnooaaelmaaDoorRefSorted
import Derived.Test.YtbbbnnooaaelmaaDoorRivalOrder
import Derived.Test.YtbbbnnooaaelmaaDoorFaulted1
import Derived.Test.YtbbbnnooaaelmaaDoorHandle
namespace Go.Proofs.YtbbbnnooaaelmaaDoor
open Go.RowKit Go.Sort

theorem ErrsW.errsR {ea : Nat → Addr} {w : World} (h : ErrsW ea w) : ErrsR ea w := ⟨⟨(h.row 2 (by decide) (by decide)).1, (h.row 4 (by decide) (by decide)).1, (h.row 6 (by decide) (by decide)).1⟩, (h.row 5 (by decide) (by decide)).1⟩
theorem faultGo_code {l : List ByteArray} {f : Flt} : ∀ n k, faultGo l n k = some f → f.code = 4 ∨ f.code = 6
  | 0, _, h => by cases h
  | n + 1, k, h => by
      unfold faultGo at h
      split at h
      · cases h
      · split at h
        · obtain rfl := Option.some.inj h; exact .inl rfl
        · split at h
          · obtain rfl := Option.some.inj h; exact .inr rfl
          · exact faultGo_code n (k + 1) h
theorem hosts_code {l : List ByteArray} {f : Flt} (h : hostsFault l = some f) : 1 ≤ f.code ∧ f.code ≤ 9 := by
  unfold hostsFault at h
  split at h
  · obtain rfl := Option.some.inj h; exact ⟨by decide, by decide⟩
  · rcases faultGo_code _ _ h with h | h <;> omega
theorem mnum_ways (lg : Bool) (n : Nat) (h : lg = true ∨ 300 < n) : (lg = true) ∨ (lg = false ∧ decide ((n : Int) > 300) = true) := by
  cases lg <;> simp only [decide_eq_true_eq] <;> simp <;> simp at h <;> omega
set_option maxRecDepth 100000 in
set_option maxHeartbeats 2000000 in
theorem mnum_skip (A : Option Addr) (c : Nat) (l : List ByteArray) (s : ByteArray) (salt key : Nat) (w : World) (hI : TextsIn w A c l) (hs : s.size ≤ maxLen) (h : longH l = true ∨ 300 < s.size) :
    Calls Tryd.prog 6 #[.slice A l.length c, .string s, .int .u64 (salt : Int), .int .u64 (key : Int)] w (True1 w) := by
  have hm := hI.lm
  unfold maxLen at hm hs
  have hs2 : (s.size : Int) ≤ 9223372036854775807 := by omega
  have HL : Hid (∀ W, Below w.heap.size w W → Calls Tryd.prog 13 #[.slice A l.length c] W (LongIs (longH l) W)) :=
    Lib.hid fun W hW => longHosts_any A c W.heap.size l W (hI.below hW).r hI.lm hI.s
  have hways := mnum_ways (longH l) s.size h
  generalize longH l = lg at *
  clear hI h
  rcases hways with rfl | ⟨rfl, t1⟩
  all_goals
    go_enter Tryd.func6, Tryd.ntmps6
    go_wp2_with fail
    refine (mixed_any _).mono ?_
    rintro e w1 ⟨rfl, rfl⟩
    go_wp2_with fail
    refine (HL.out _ (Below.refl _ _)).mono ?_
    rintro e w2 ⟨rfl, rfl⟩
    go_wp2
    go_ret
    exact ⟨rfl, Below.refl _ _⟩

def flV (f : Option Flt) : Array Value := #[.int .i64 (fCode f : Int), .int .i64 (fAt f)]
def CheckBad (ea : Nat → Addr) (f : Flt) (w : World) (e : Ending) (w' : World) : Prop := ErrPost ea f w e w'
set_option maxRecDepth 100000 in
set_option maxHeartbeats 4000000 in
theorem mnum_walk (ea : Nat → Addr) (A : Option Addr) (c : Nat) (l : List ByteArray) (s : ByteArray) (salt key : Nat) (w : World) (hE : ErrsW ea w) (hG : HandleAt w) (hI : TextsIn w A c l) (hL : longH l = false) (hs : s.size ≤ 300) (hk1 : U64 salt) (hk2 : U64 key) :
    Calls Tryd.prog 6 #[.slice A l.length c, .string s, .int .u64 (salt : Int), .int .u64 (key : Int)] w (True1 w) := by
  obtain ⟨hl30, _⟩ := long_no hL
  have hsm : s.size ≤ maxLen := by unfold maxLen; omega
  have HL : Hid (∀ W, Below w.heap.size w W → Calls Tryd.prog 13 #[.slice A l.length c] W (LongIs false W)) :=
    Lib.hid fun W hW => by rw [← hL]; exact longHosts_any A c W.heap.size l W (hI.below hW).r hI.lm hI.s
  have t1 : decide ((s.size : Int) > 300) = false := by simp; omega
  have H1 := Lib.hid (fun W => of_any s salt W hsm hk1)
  have H2 := Lib.hid (fun W => numberOf_any s salt W hsm hk1)
  have H3 := Lib.hid (fun W => turn_any key W hk2)
  have H4 := Lib.hid (fun W => turnOf_any key W hk2)
  have H5 := Lib.hid (fun W => two_any salt key W hk1 hk2)
  have H6 := Lib.hid (fun W => turnOf_any salt W hk1)
  have H7 : Hid (∀ W, Calls Tryd.prog 26 #[.int .u64 (((BitVec.ofNat 64 (Mx.turn salt) ^^^ BitVec.ofNat 64 key).toNat : Nat) : Int)] W (NumIs (twoN salt key) W)) := Lib.hid (fun W => turnOf_any _ W (bv_u64 _))
  have e : bits .xor .u64 ((Mx.turn salt : Nat) : Int) (key : Int) = (((BitVec.ofNat 64 (Mx.turn salt) ^^^ BitVec.ofNat 64 key).toNat : Nat) : Int) := by
    have := bv_xor (BitVec.ofNat 64 (Mx.turn salt)) (BitVec.ofNat 64 key)
    rwa [bv_of _ (turn_u64 salt), bv_of _ hk2] at this
  unfold NumIs at *
  generalize twoN salt key = n5 at *
  generalize (BitVec.ofNat 64 (Mx.turn salt) ^^^ BitVec.ofNat 64 key).toNat = n7 at *
  generalize Mx.turn salt = n6 at *
  generalize Mx.turn key = n3 at *
  generalize ofN s salt = n1 at *
  have HF := Lib.hid (fun W hW => hostsFault_ref A c W.heap.size l W (hI.below hW).r (Nat.le_refl _) hI.lm hI.s)
  have HI := Lib.hid hI
  have HE := Lib.hid hE
  have HG := Lib.hid hG
  unfold FaultPost at HF
  have HT : Hid (∀ W, Below w.heap.size w W → Calls Tryd.prog 15 #[.slice A l.length c] W fun e w' => ∃ A' c', e = .returned (.slice A' l.length c') ∧ TextsIn w' A' c' l ∧ Below W.heap.size W w') :=
    Lib.hid fun W hW => (ownTexts_any A l.length c W.heap.size (strV l) W (hI.below hW).r str_one (by omega)).mono fun e w' ⟨A', c', he, ho, hb⟩ => ⟨A', c', he, ⟨Reads.of_own ho, own_ncap2 ho, hI.lm, hI.s⟩, hb⟩
  cases hf : hostsFault l with
  | some f =>
    rw [hf] at HF
    obtain ⟨hf1, hf9⟩ := hosts_code hf
    have HS : Hid (∀ W A' c', Below w.heap.size w W → TextsIn W A' c' l → Calls Tryd.prog 29 #[.slice A' l.length c'] W (SortedBad ea f W)) := Lib.hid fun W A' c' hW hT => mixSorted_bad ea A' c' l f W (HE.out.below hW).errsR.e3 hT.r hT.lc hT.lm hT.s hf
    have HC : Hid (∀ W A' c', Below w.heap.size w W → TextsIn W A' c' l → Calls Tryd.prog 31 #[.slice A' l.length c'] W (ErrPost ea f W)) := Lib.hid fun W A' c' hW hT => by
      have := check_any ea A' c' W.heap.size l W (HE.out.below hW).errsR.e3 hT.r (Nat.le_refl _) hT.lc hT.lm hT.s
      unfold CheckPost at this
      rw [hf] at this
      exact this
    have HFA : Hid (∀ W t a, Below w.heap.size w W → IsErr ea W f t a → Calls Tryd.prog 30 #[.iface t (.pointer (some a)), .agg #[.int .i64 (fCode (some f) : Int), .int .i64 (fAt (some f))]] W (Yeslaw1 W)) := Lib.hid fun W t a hW hI => faultedlaw1_some (HE.out.below hW) (HG.out.below hW) hf1 hf9 hI
    have hc1 : (0 : Int) < (fCode (some f) : Int) := by show (0 : Int) < (f.code : Int); omega
    generalize fCode (some f) = fc at *
    generalize fAt (some f) = fa at *
    clear hI hE hG hf hL hk1 hk2 hs hsm
    go_enter Tryd.func6, Tryd.ntmps6
    go_wp2_with fail
    refine (mixed_any _).mono ?_
    rintro e w1 ⟨rfl, rfl⟩
    go_wp2_with fail
    refine (HL.out _ (Below.refl _ _)).mono ?_
    rintro e w2 ⟨rfl, rfl⟩
    go_wp2_with fail
    refine (H1.out _).mono ?_
    rintro e w2 ⟨rfl, rfl⟩
    go_wp2_with fail
    refine (H2.out _).mono ?_
    rintro e w2 ⟨rfl, rfl⟩
    go_wp2_with fail
    refine (H3.out _).mono ?_
    rintro e w2 ⟨rfl, rfl⟩
    go_wp2_with fail
    refine (H4.out _).mono ?_
    rintro e w2 ⟨rfl, rfl⟩
    go_wp2_with fail
    refine (H5.out _).mono ?_
    rintro e w2 ⟨rfl, rfl⟩
    go_wp2_with fail
    refine (H6.out _).mono ?_
    rintro e w2 ⟨rfl, rfl⟩
    go_wp2_with fail
    refine (H7.out _).mono ?_
    rintro e w2 ⟨rfl, rfl⟩
    go_wp2_with fail
    refine (HF.out _ (Below.refl _ _)).mono ?_
    rintro e w3 ⟨rfl, hb3⟩
    go_wp2_with fail
    have hbW := hb3.alloc hb3.size (.cells #[.int .i64 (fc : Int), .int .i64 fa] 47)
    have hB0 := Blk.new w3 47 #[.int .i64 (fc : Int), .int .i64 fa]
    generalize w3.alloc (.cells #[.int .i64 (fc : Int), .int .i64 fa] 47) = W0 at *
    generalize w3.heap.size = g at *
    have HB0 : Hid (∀ W, Below W0.heap.size W0 W → W.cell? ⟨g, 0, none⟩ = some (.int .i64 (fc : Int)) ∧ W.cell? ⟨g, 1, none⟩ = some (.int .i64 fa)) := Lib.hid fun W hW => ⟨(hB0.below hW hB0.lt).cell 0, (hB0.below hW hB0.lt).cell 1⟩
    clear hB0
    refine (HT.out _ hbW).mono ?_
    rintro e w4 ⟨A4, c4, rfl, hT4, hb4⟩
    have hbw4 := below_two hbW hb4
    go_wp2_with fail
    refine (HS.out _ _ _ hbw4 hT4).mono ?_
    rintro e w5 ⟨t5, a5, rfl, hI5, hb5⟩
    have hbw5 := below_two hbw4 hb5
    have hb05 := below_two hb4 hb5
    obtain ⟨k0, k1⟩ := HB0.out w5 hb05
    clear hT4 hbw4 hb4
    go_wp2_with fail
    go_region_held3 (fun w' => w'.cell? ⟨g, 0, none⟩ = some (.int .i64 (fc : Int)) ∧ w'.cell? ⟨g, 1, none⟩ = some (.int .i64 fa)) (first | exact ⟨k0, k1⟩ | exact HB0.out _ (below_two hb05 (below_undrew hb6)) | exact HB0.out _ (below_two (below_two hb05 (below_undrew hb6)) hb7) | exact HB0.out _ (below_two (below_two (below_two hb05 (below_undrew hb6)) hb7) hb8) | go_keep)
      (first
        | (go_at_call 15; refine (HT.out _ (below_drew hbw5)).mono ?_; rintro e w6 ⟨A6, c6, rfl, hT6, hb6⟩)
        | (go_at_call 31; refine (HC.out _ _ _ (below_two hbw5 (below_undrew hb6)) hT6).mono ?_; rintro e w7 ⟨t7, a7, rfl, hI7, hb7⟩)
        | (go_at_call 30; refine (HFA.out w7 t7 a7 (below_two (below_two hbw5 (below_undrew hb6)) hb7) hI7).mono ?_; rintro e w8 ⟨rfl, hb8⟩))
    have hbw8 := below_two (below_two (below_two hbw5 (below_undrew hb6)) hb7) hb8
    have hb08 := below_two (below_two (below_two hb05 (below_undrew hb6)) hb7) hb8
    obtain ⟨k2, k3⟩ := HB0.out w8 hb08
    have hI8 := ((hI5.below (below_undrew hb6)).below hb7).below hb8
    clear hb6 hb7 hb8 k0 k1 hI7 hI5
    go_wp2_with fail
    refine (HFA.out w8 t5 a5 hbw8 hI8).mono ?_
    rintro e w9 ⟨rfl, hb9⟩
    go_wp2
    go_ret
    exact ⟨rfl, below_two hbw8 hb9⟩
  | none =>
    rw [hf] at HF
    have HS : Hid (∀ W A' c', Below w.heap.size w W → TextsIn W A' c' l → Calls Tryd.prog 29 #[.slice A' l.length c'] W (SortedGood l W)) := Lib.hid fun W A' c' hW hT => mixSorted_ok ea A' c' l W (HE.out.below hW).errsR.e3 hT.r hT.lc hT.lm hT.s hf
    have HC : Hid (∀ W A' c', Below w.heap.size w W → TextsIn W A' c' l → Calls Tryd.prog 31 #[.slice A' l.length c'] W fun e w' => e = .returned .nilIface ∧ Below W.heap.size W w') := Lib.hid fun W A' c' hW hT => by
      have := check_any ea A' c' W.heap.size l W (HE.out.below hW).errsR.e3 hT.r (Nat.le_refl _) hT.lc hT.lm hT.s
      unfold CheckPost at this
      rw [hf] at this
      exact this
    have HFA := Lib.hid (fun W => faultedlaw1_nil W)
    have HR : Hid (∀ W, Below w.heap.size w W → Calls Tryd.prog 32 #[.slice A l.length c] W (TextsPost (sortB l) W)) := Lib.hid fun W hW => sortedOf_any A c l W (HI.out.below hW).r hl30
    have HSL := Lib.hid (sortB_length l)
    have HF : Hid (∀ W, Below w.heap.size w W → Calls Tryd.prog 28 #[.slice A l.length c] W fun e w' => e = .returned (.agg #[.int .i64 0, .int .i64 (-1)]) ∧ Below W.heap.size W w') := Lib.hid fun W hW => HF.out W hW
    have hlm := hI.lm
    clear hI hE hG hf hL hk1 hk2 hs hsm
    unfold SortedGood at HS
    generalize sortB l = sl at *
    go_enter Tryd.func6, Tryd.ntmps6
    go_wp2_with fail
    refine (mixed_any _).mono ?_
    rintro e w1 ⟨rfl, rfl⟩
    go_wp2_with fail
    refine (HL.out _ (Below.refl _ _)).mono ?_
    rintro e w2 ⟨rfl, rfl⟩
    go_wp2_with fail
    refine (H1.out _).mono ?_
    rintro e w2 ⟨rfl, rfl⟩
    go_wp2_with fail
    refine (H2.out _).mono ?_
    rintro e w2 ⟨rfl, rfl⟩
    go_wp2_with fail
    refine (H3.out _).mono ?_
    rintro e w2 ⟨rfl, rfl⟩
    go_wp2_with fail
    refine (H4.out _).mono ?_
    rintro e w2 ⟨rfl, rfl⟩
    go_wp2_with fail
    refine (H5.out _).mono ?_
    rintro e w2 ⟨rfl, rfl⟩
    go_wp2_with fail
    refine (H6.out _).mono ?_
    rintro e w2 ⟨rfl, rfl⟩
    go_wp2_with fail
    refine (H7.out _).mono ?_
    rintro e w2 ⟨rfl, rfl⟩
    go_wp2_with fail
    refine (HF.out _ (Below.refl _ _)).mono ?_
    rintro e w3 ⟨rfl, hb3⟩
    go_wp2_with fail
    have hbW := hb3.alloc hb3.size (.cells #[.int .i64 0, .int .i64 (-1)] 47)
    have hB0 := Blk.new w3 47 #[.int .i64 0, .int .i64 (-1)]
    generalize w3.alloc (.cells #[.int .i64 0, .int .i64 (-1)] 47) = W0 at *
    generalize w3.heap.size = g at *
    have HB0 : Hid (∀ W, Below W0.heap.size W0 W → W.cell? ⟨g, 0, none⟩ = some (.int .i64 0) ∧ W.cell? ⟨g, 1, none⟩ = some (.int .i64 (-1))) := Lib.hid fun W hW => ⟨(hB0.below hW hB0.lt).cell 0, (hB0.below hW hB0.lt).cell 1⟩
    clear hB0
    refine (HT.out _ hbW).mono ?_
    rintro e w4 ⟨A4, c4, rfl, hT4, hb4⟩
    have hbw4 := below_two hbW hb4
    go_wp2_with fail
    refine (HS.out _ _ _ hbw4 hT4).mono ?_
    rintro e w5 ⟨A5, c5, rfl, ho5, hb5⟩
    have hbw5 := below_two hbw4 hb5
    have hb05 := below_two hb4 hb5
    obtain ⟨k0, k1⟩ := HB0.out w5 hb05
    clear hT4 hbw4 hb4
    go_wp2_with fail
    go_region_held3 (fun w' => w'.cell? ⟨g, 0, none⟩ = some (.int .i64 0) ∧ w'.cell? ⟨g, 1, none⟩ = some (.int .i64 (-1))) (first | exact ⟨k0, k1⟩ | exact HB0.out _ (below_two hb05 (below_undrew hb6)) | exact HB0.out _ (below_two (below_two hb05 (below_undrew hb6)) hb7) | exact HB0.out _ (below_two (below_two (below_two hb05 (below_undrew hb6)) hb7) hb8) | go_keep)
      (first
        | (go_at_call 15; refine (HT.out _ (below_drew hbw5)).mono ?_; rintro e w6 ⟨A6, c6, rfl, hT6, hb6⟩)
        | (go_at_call 31; refine (HC.out _ _ _ (below_two hbw5 (below_undrew hb6)) hT6).mono ?_; rintro e w7 ⟨rfl, hb7⟩)
        | (go_at_call 30; refine (HFA.out w7).mono ?_; rintro e w8 ⟨rfl, hb8⟩))
    have hbw8 := below_two (below_two (below_two hbw5 (below_undrew hb6)) hb7) hb8
    have hb08 := below_two (below_two (below_two hb05 (below_undrew hb6)) hb7) hb8
    obtain ⟨k2, k3⟩ := HB0.out w8 hb08
    have hb56 : Below w5.heap.size w5 w6 := below_undrew hb6
    have hb58 := below_two (below_two hb56 hb7) hb8
    have HR8 := Lib.hid (((Reads.of_own ho5).below hb58).more hb58.size)
    clear hb6 hb7 hb8 k0 k1 ho5
    go_wp2_with fail
    refine (HR.out _ hbw8).mono ?_
    rintro e w9 ⟨A9, c9, rfl, ho9, hb9⟩
    have hbw9 := below_two hbw8 hb9
    have HS9 : Hid (Calls Tryd.prog 20 #[.slice A5 l.length c5, .slice A9 sl.length c9] w9 (YesQ w9)) := Lib.hid (by
      have h5 := (HR8.out.below hb9).more hb9.size
      rw [← HSL.out] at h5 ⊢
      exact sameTexts_yes A5 A9 c5 c9 w9.heap.size sl w9 h5 (Reads.of_own ho9) (by rw [HSL.out]; exact hlm))
    clear ho9
    go_wp2_with fail
    refine HS9.out.mono ?_
    rintro e w10 ⟨rfl, q, rfl⟩
    go_wp2
    go_ret
    exact ⟨rfl, below_drewN hbw9 q⟩
theorem mixNumbers_args (ea : Nat → Addr) (A : Option Addr) (c : Nat) (l : List ByteArray) (s : ByteArray) (salt key : Nat) (w : World) (hE : ErrsW ea w) (hG : HandleAt w) (R0 : Reads w w.heap.size 1 A l.length (l.map Value.string)) (lc0 : l.length ≤ c) (cm0 : c ≤ maxLen) (wf0 : ∀ s ∈ l, s.size ≤ maxLen) (hs : s.size ≤ maxLen) (hk1 : U64 salt) (hk2 : U64 key) :
    Calls Tryd.prog 6 #[.slice A l.length c, .string s, .int .u64 (salt : Int), .int .u64 (key : Int)] w (True1 w) := by
  have hI : TextsIn w A c l := ⟨R0, lc0, Nat.le_trans lc0 cm0, wf0⟩
  by_cases h : longH l = true ∨ 300 < s.size
  · exact mnum_skip A c l s salt key w hI hs h
  simp only [not_or, Bool.not_eq_true] at h
  exact mnum_walk ea A c l s salt key w hE hG hI h.1 (by omega) hk1 hk2
end Go.Proofs.YtbbbnnooaaelmaaDoor
