/-
  The walks that read a ring: Host, Next.
-/
import Derived.Test.YtbbbnnooaaelmaaDoorRingRead
import Derived.Test.YtbbbnnooaaelmaaDoorLists
namespace Go.Proofs.YtbbbnnooaaelmaaDoor
open Go.RowKit Go.Sort

def HostPost (x : ByteArray) (w : World) (e : Ending) (w' : World) : Prop := e = .returned (.string x) ∧ Below w.heap.size w w'
theorem below_undrew {w w' : World} {B : Nat} (h : Below B w.drew w') : Below B w w' := ⟨h.os, h.tape, h.output, h.size, h.block⟩
set_option maxRecDepth 100000 in
set_option maxHeartbeats 2000000 in
theorem host_any (rp g cap key : Nat) (s : List Pt) (x : ByteArray) (w : World) (hR : RingAt w rp g cap s) (hsort : s.Pairwise fun a b => ltP b a = false) (h0 : 0 < s.length) (hk : U64 key) (hx : (around (Mx.turn key) s)[0]? = some x) :
    Calls Tryd.prog 39 #[.pointer (some ⟨rp, 0, none⟩), .int .u64 (key : Int)] w (HostPost x w) := by
  have HF : Hid (Calls Tryd.prog 80 #[.pointer (some ⟨rp, 0, none⟩), .int .u64 (key : Int)] w.drew fun e w' => ∃ k : Nat, k < s.length ∧ w'.cell? ⟨g, k * 2 + 1, none⟩ = some (.string x) ∧ w'.cell? ⟨rp, 0, none⟩ = some (.slice (some ⟨g, 0, none⟩) s.length cap) ∧ e = .returned (.int .i64 (k : Int)) ∧ Below w.heap.size w w') := by
    refine Lib.hid ((first_any rp g cap key s w.drew ⟨hR.r, hR.p, hR.l⟩ hsort h0 hk).mono fun e w' ⟨k, hf, he, hb⟩ => ?_)
    have hlt := Nat.mod_lt k h0
    have ha := around_at hf (i := 0) h0
    rw [hx] at ha
    have hb' : Below w.heap.size w w' := below_undrew hb
    refine ⟨k % s.length, hlt, ?_, (hR.below hb').r, he, hb'⟩
    rw [((hR.below hb').p _ hlt).2]
    simp only [Nat.add_zero, Nat.mod_mod] at ha
    exact congrArg some (congrArg Value.string (Option.some.inj ha).symm)
  have z := hR.r
  have hl := hR.l
  clear hR hsort hx hk
  go_enter Tryd.func39, Tryd.ntmps39
  go_wp2_with fail
  go_region_law (go_simp; go_at_call 80; go_must (refine HF.out.mono ?_); rintro e w1 ⟨k, hk, hc, hz, rfl, hb⟩; have hk2 : (k : Int) < s.length := by omega)
  all_goals
    go_wp2
    go_ret
    exact ⟨rfl, by first | exact hb | exact below_drewN hb _⟩

set_option maxRecDepth 100000 in
set_option maxHeartbeats 4000000 in
theorem next_any (rp g cap key : Nat) (many : Int) (s : List Pt) (w : World) (hR : RingAt w rp g cap s) (hsort : s.Pairwise fun a b => ltP b a = false) (h0 : 0 < s.length) (hk : U64 key) :
    Calls Tryd.prog 38 #[.pointer (some ⟨rp, 0, none⟩), .int .u64 (key : Int), .int .i64 many] w (TextsPost (nextGo many [] (around (Mx.turn key) s)) w) := by
  have HF := Lib.hid (first_any rp g cap key s w hR hsort h0 hk)
  have HA := Lib.hid (around_length (Mx.turn key) s)
  have HAT := Lib.hid (fun (k : Nat) (hf : FirstAt (Mx.turn key) s k) (i : Nat) (hi : i < s.length) => around_at hf hi)
  generalize Mx.turn key = t at *
  generalize around t s = H at *
  have HR := Lib.hid hR
  have hl := hR.l
  have hn0 : ¬ (s.length : Int) = 0 := by omega
  have hn1 : ¬ s.length = 0 := by omega
  have hn2 : ¬ s = [] := fun e => by simp [e] at h0
  have hn3 : (0 : Int) < s.length := by omega
  obtain ⟨i0, hi, hz0, hz1, hz2⟩ := info_parts info_string
  clear hR hsort hk
  go_enter Tryd.func38, Tryd.ntmps38
  go_wp2_with fail
  refine HF.out.mono ?_
  rintro e w1 ⟨k, hf, rfl, hb1⟩
  have HFk := Lib.hid hf
  have HC : ∀ W, Below w.heap.size w W → W.cell? ⟨rp, 0, none⟩ = some (.slice (some ⟨g, 0, none⟩) s.length cap) := fun W hW => (HR.out.below hW).r
  have HCC := Lib.hid HC
  have z1 := HC w1 hb1
  have hkm := Nat.mod_lt k h0
  obtain ⟨kk, hkk⟩ : ∃ kk, k % s.length = kk := ⟨_, rfl⟩
  rw [hkk] at hkm ⊢
  have hkk := Lib.hid hkk
  clear HC hf
  go_wp2_with fail
  go_loopw [7, 19] (fun ov iv wr => ∃ (i : Nat) (out : List ByteArray), i ≤ s.length ∧ iv = .int .i64 (i : Int) ∧ wr.ownsRow w.heap.size 9 1 ov out.length (strV out) ∧ Hid (nextGo many out (H.drop i) = nextGo many [] H) ∧ out.length ≤ i ∧ Below w.heap.size w wr) (fun _ iv _ => s.length - (intOf iv).toNat)
  case atStart => exact ⟨0, [], Nat.zero_le _, rfl, ⟨rfl, .inl ⟨rfl, rfl⟩⟩, Lib.hid rfl, Nat.zero_le _, hb1⟩
  case round =>
    obtain ⟨i, out, hi2, rfl, hown, hgo, hoi, hb⟩ := hrel
    clear z1
    by_cases hlt : i < s.length
    · have hlt2 : (i : Int) < s.length := by omega
      obtain ⟨Ao, co, hov, hro, _, _⟩ := own_slice hown
      subst hov
      by_cases hmany : many ≤ out.length
      · have tm : decide ((out.length : Int) ≥ many) = true := by simpa using hmany
        have HE : Hid (nextGo many [] H = out) := Lib.hid (by rw [← hgo.out]; exact nextGo_stop hmany _)
        have HP : Hid (TextsPost (nextGo many [] H) w (.returned (.slice Ao out.length co)) wr) := Lib.hid (by rw [HE.out]; exact ⟨Ao, co, rfl, hown, hb⟩)
        clear hmany
        go_wp2
        go_ret
        exact HP.out
      · have tm : decide ((out.length : Int) ≥ many) = false := by simpa using hmany
        obtain ⟨j, hj⟩ : ∃ j : Nat, (kk + i) % s.length = j := ⟨_, rfl⟩
        have hjl : j < s.length := by rw [← hj]; exact Nat.mod_lt _ h0
        have hx := HAT.out k HFk.out i hlt
        have hHi : i < H.length := by rw [HA.out]; exact hlt
        have hdrop : H.drop i = s[j].host :: H.drop (i + 1) := by
          rw [List.drop_eq_getElem_cons hHi]
          congr 1
          rw [List.getElem?_eq_getElem hHi] at hx
          have := Option.some.inj hx
          rw [this]
          congr 2
          rw [hkk.out]
          exact hj
        have hcell := ((HR.out.below hb).p j hjl).2
        have hrl := HCC.out wr hb
        generalize s[j].host = x at *
        have e1 : ((kk : Int) + i) % (s.length : Int) = (j : Int) := by
          rw [← hj, Int.natCast_emod, Int.natCast_add]
        have e2 : IntKind.i64.wrap ((kk : Int) + i) = (kk : Int) + i := IntWalk.i64_in _ (by omega)
        have e3 : (0 : Int) ≤ (kk : Int) + i := by omega
        have e4 : (j : Int) < s.length := by omega
        have HCN : Hid (∀ m, Calls Tryd.prog 74 #[.slice Ao out.length co, .string x] (wr.drewN m) fun e w' => e = .returned (.bool (has out x)) ∧ wr.drewN m = w') := Lib.hid fun m => contains_strings Ao co wr.heap.size out x (wr.drewN m) hro (by unfold maxLen; omega)
        have HD := Lib.hid hdrop
        have HJ := Lib.hid hj
        clear hj hx hdrop hHi
        cases hh : has out x with
        | true =>
          rw [hh] at HCN
          have HG : Hid (nextGo many out (H.drop (i + 1)) = nextGo many [] H) := Lib.hid (by rw [← hgo.out, HD.out, nextGo_skip hmany hh])
          clear hh hmany
          go_wp2
          go_quiet (fail)
          clear e1 e2 e3
          go_wp2_with fail
          refine (HCN.out _).mono ?_
          rintro e w2 ⟨rfl, rfl⟩
          go_wp2
          go_roundw
          case rel => exact ⟨i + 1, out, by omega, by go_num, hown, HG, by omega, below_drewN hb _⟩
          case measure => simp [intOf]; omega
        | false =>
          rw [hh] at HCN
          have HG : Hid (nextGo many (out ++ [x]) (H.drop (i + 1)) = nextGo many [] H) := Lib.hid (by rw [← hgo.out, HD.out, nextGo_more hmany hh])
          clear hh hmany
          go_wp2
          go_quiet (fail)
          clear e1 e2 e3
          go_wp2_with fail
          refine (HCN.out _).mono ?_
          rintro e w2 ⟨rfl, rfl⟩
          have hb2 := below_drewN hb nq
          have hown2 : (wr.drewN nq).ownsRow w.heap.size 9 1 (.slice Ao out.length co) out.length (strV out) := hown
          generalize wr.drewN nq = wd at *
          go_wp2_with (at_builtin
                       go_must (refine wpList_append_own _ rfl _ _ 22 rfl w.heap.size 9 i0 (.string ⟨#[]⟩) 1 16 Tryd.underlying22 hi hz0 hz1 hz2 rfl (by decide) _ _ _ rfl (hown2.alloc _) ⟨wd.heap.size, 0, none⟩ 1 1 [.string x] rfl rfl (cell_one_new _ _ _) (by simp [Value.oneCell']) (by simp only [maxLen]; omega) (by omega) (size_alloc1 hb2) ?_)
                       intro v' w3 hown3 hgrow _)
          go_roundw
          case rel =>
            have e : strV (out ++ [x]) = strV out ++ [.string x] := by simp [strV]
            exact ⟨i + 1, out ++ [x], by omega, by go_num, by rw [e, List.length_append]; exact hown3, HG, by simp; omega, below_app1 hb2 hown2 hgrow⟩
          case measure => simp [intOf]; omega
    · have hge : ¬ (i : Int) < s.length := by omega
      have HE : Hid (nextGo many [] H = out) := Lib.hid (by rw [← hgo.out, List.drop_eq_nil_of_le (by rw [HA.out]; omega)]; rfl)
      obtain ⟨Ao, co, hov, _⟩ := own_slice hown
      subst hov
      have HP : Hid (TextsPost (nextGo many [] H) w (.returned (.slice Ao out.length co)) wr) := Lib.hid (by rw [HE.out]; exact ⟨Ao, co, rfl, hown, hb⟩)
      go_wp2
      go_ret
      exact HP.out
end Go.Proofs.YtbbbnnooaaelmaaDoor
