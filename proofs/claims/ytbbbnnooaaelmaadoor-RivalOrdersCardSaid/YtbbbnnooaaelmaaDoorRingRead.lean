/-
  The walks that read a ring: first, Host, Next.
-/
import Derived.Test.YtbbbnnooaaelmaaDoorRingNew
namespace Go.Proofs.YtbbbnnooaaelmaaDoor
open Go.RowKit Go.Sort

/-- What a walk reads of a ring. -/
structure RingAt (w : World) (rp g cap : Nat) (s : List Pt) : Prop where
  r : w.cell? ⟨rp, 0, none⟩ = some (.slice (some ⟨g, 0, none⟩) s.length cap)
  p : ∀ (k : Nat) (h : k < s.length), w.cell? ⟨g, k * 2, none⟩ = some (.int .u64 (s[k].at_ : Int)) ∧ w.cell? ⟨g, k * 2 + 1, none⟩ = some (.string s[k].host)
  l : s.length ≤ 1000
theorem RingAt.below {w w' : World} {rp g cap : Nat} {s : List Pt} (h : RingAt w rp g cap s) (hb : Below w.heap.size w w') : RingAt w' rp g cap s := by
  have hlt : ∀ {b i : Nat} {u : Value}, w.cell? ⟨b, i, none⟩ = some u → b < w.heap.size := fun {b i u} hc => by
    rcases Nat.lt_or_ge b w.heap.size with h | h
    · exact h
    · simp [World.cell?, Array.getElem?_eq_none h] at hc
  exact ⟨(hb.cell (p := ⟨rp, 0, none⟩) (hlt h.r)).trans h.r, fun k hk => ⟨(hb.cell (p := ⟨g, k * 2, none⟩) (hlt (h.p k hk).1)).trans (h.p k hk).1, (hb.cell (p := ⟨g, k * 2 + 1, none⟩) (hlt (h.p k hk).2)).trans (h.p k hk).2⟩, h.l⟩
theorem RingR.ringAt {w : World} {B rp : Nat} {s : List Pt} {sv : Value} (h : RingR w B rp s sv) (h0 : 0 < s.length) (hl : s.length ≤ 1000) : ∃ g cap, RingAt w rp g cap s := by
  obtain ⟨g, cap, hsv, _⟩ := h.own.form h0
  subst hsv
  refine ⟨g, cap, h.blk.cell 0, fun k hk => ?_, hl⟩
  have e0 : (flatP s)[k * 2]? = some (.int .u64 (s[k].at_ : Int)) := by
    rw [flatP_get, show k * 2 / 2 = k by omega, show k * 2 % 2 = 0 by omega, List.getElem?_eq_getElem hk]; rfl
  have e1 : (flatP s)[k * 2 + 1]? = some (.string s[k].host) := by
    rw [flatP_get, show (k * 2 + 1) / 2 = k by omega, show (k * 2 + 1) % 2 = 1 by omega, List.getElem?_eq_getElem hk]; rfl
  exact ⟨(h.own.cellAt (k * 2) (by omega)).trans e0, (h.own.cellAt (k * 2 + 1) (by omega)).trans e1⟩

def BoolQuiet (b : Bool) (w : World) (e : Ending) (w' : World) : Prop := e = .returned (.bool b) ∧ ∃ m, w' = w.drewN m
set_option maxHeartbeats 1000000 in
theorem first1_any (rp g cap b1 b2 t k : Nat) (s : List Pt) (w : World) (hR : RingAt w rp g cap s) (h1 : w.cell? ⟨b1, 0, none⟩ = some (.pointer (some ⟨rp, 0, none⟩))) (h2 : w.cell? ⟨b2, 0, none⟩ = some (.int .u64 (t : Int))) (hk : k < s.length) :
    Calls Tryd.prog 95 #[.int .i64 (k : Int), .pointer (some ⟨b1, 0, none⟩), .pointer (some ⟨b2, 0, none⟩)] w (BoolQuiet (decide (t ≤ s[k].at_)) w) := by
  have hr := hR.r
  obtain ⟨p0, _⟩ := hR.p k hk
  have hl := hR.l
  have hk2 : (k : Int) < s.length := by omega
  clear hR
  generalize s[k] = p at *
  obtain ⟨pa, ph⟩ := p
  dsimp only at *
  go_enter Tryd.func95, Tryd.ntmps95
  go_wp2
  go_quiet (fail)
  go_wp2
  go_ret
  exact ⟨rfl, _, rfl⟩

theorem mid_of (lo hi : Nat) (h : lo < hi) : ∃ mid : Nat, ((lo : Int) + hi) / 2 = mid ∧ lo ≤ mid ∧ mid < hi := ⟨(lo + hi) / 2, by omega, by omega, by omega⟩
def SearchPost (t : Nat) (s : List Pt) (w : World) (e : Ending) (w' : World) : Prop := ∃ k : Nat, FirstAt t s k ∧ e = .returned (.int .i64 (k : Int)) ∧ ∃ m, w' = w.drewN m
def Lows (t : Nat) (s : List Pt) (lo : Nat) : Prop := ∀ (j : Nat) (p : Pt), j < lo → s[j]? = some p → p.at_ < t
def Highs (t : Nat) (s : List Pt) (hi : Nat) : Prop := ∀ (j : Nat) (p : Pt), hi ≤ j → s[j]? = some p → t ≤ p.at_
theorem sorted_le {s : List Pt} (h : s.Pairwise fun a b => ltP b a = false) {i j : Nat} (hij : i ≤ j) (hj : j < s.length) : (s[i]'(by omega)).at_ ≤ s[j].at_ := by
  rcases Nat.lt_or_eq_of_le hij with hlt | rfl
  · exact ltP_at (List.pairwise_iff_getElem.1 h i j (by omega) hj hlt)
  · exact Nat.le_refl _
theorem lows_mid {t : Nat} {s : List Pt} (h : s.Pairwise fun a b => ltP b a = false) {mid : Nat} (hm : mid < s.length) (ht : ¬ t ≤ s[mid].at_) : Lows t s (mid + 1) := fun j p hj hp => by
  have hjl := (List.getElem?_eq_some_iff.1 hp).1
  have := sorted_le h (show j ≤ mid by omega) hm
  rw [List.getElem?_eq_getElem hjl] at hp
  have := Option.some.inj hp
  subst this
  omega
theorem highs_mid {t : Nat} {s : List Pt} (h : s.Pairwise fun a b => ltP b a = false) {mid : Nat} (hm : mid < s.length) (ht : t ≤ s[mid].at_) : Highs t s mid := fun j p hj hp => by
  have hjl := (List.getElem?_eq_some_iff.1 hp).1
  have := sorted_le h hj hjl
  rw [List.getElem?_eq_getElem hjl] at hp
  have := Option.some.inj hp
  subst this
  omega

set_option maxRecDepth 100000 in
set_option maxHeartbeats 2000000 in
theorem search_any (rp g cap b1 b2 t : Nat) (s : List Pt) (w : World) (hR : RingAt w rp g cap s) (hsort : s.Pairwise fun a b => ltP b a = false) (h1 : w.cell? ⟨b1, 0, none⟩ = some (.pointer (some ⟨rp, 0, none⟩))) (h2 : w.cell? ⟨b2, 0, none⟩ = some (.int .u64 (t : Int))) :
    Calls Tryd.prog 94 #[.int .i64 (s.length : Int), .func (.func 95) #[] #[.pointer (some ⟨b1, 0, none⟩), .pointer (some ⟨b2, 0, none⟩)]] w (SearchPost t s w) := by
  have HC : ∀ (k : Nat) (hk : k < s.length) (m : Nat), Hid (Calls Tryd.prog 95 #[.int .i64 (k : Int), .pointer (some ⟨b1, 0, none⟩), .pointer (some ⟨b2, 0, none⟩)] (w.drewN m) (BoolQuiet (decide (t ≤ s[k].at_)) (w.drewN m))) := fun k hk m =>
    Lib.hid (first1_any rp g cap b1 b2 t k s (w.drewN m) ⟨hR.r, hR.p, hR.l⟩ h1 h2 hk)
  have hl := hR.l
  have HSO := Lib.hid hsort
  have HCC := Lib.hid HC
  clear hR hsort h1 h2 HC
  go_enter Tryd.func94, Tryd.ntmps94
  go_wp2_with fail
  go_loopw [5, 6, 7] (fun iv jv _ wr => ∃ lo hi m : Nat, lo ≤ hi ∧ hi ≤ s.length ∧ iv = .int .i64 (lo : Int) ∧ jv = .int .i64 (hi : Int) ∧ wr = w.drewN m ∧ Hid (Lows t s lo) ∧ Hid (Highs t s hi)) (fun iv jv _ _ => (intOf jv).toNat - (intOf iv).toNat)
  case atStart => exact ⟨0, s.length, 0, Nat.zero_le _, Nat.le_refl _, rfl, rfl, rfl, Lib.hid (fun j p h => absurd h (by omega)), Lib.hid (fun j p h hp => absurd (List.getElem?_eq_some_iff.1 hp).1 (by omega))⟩
  case round =>
    obtain ⟨lo, hi, m, hlh, hhl, rfl, rfl, rfl, hlo, hhi⟩ := hrel
    by_cases hlt : lo < hi
    · obtain ⟨mid, hmid, m1, m2⟩ := mid_of lo hi hlt
      have hlt2 : (lo : Int) < hi := by omega
      have hmB : mid < s.length := by omega
      have HM := HCC.out mid hmB m
      by_cases ht : t ≤ s[mid].at_
      · rw [decide_eq_true ht] at HM
        have HH := Lib.hid (highs_mid HSO.out hmB ht)
        clear ht
        go_wp2_with fail
        refine HM.out.mono ?_
        rintro e w1 ⟨rfl, m3, rfl⟩
        go_wp2
        go_roundw
        case rel => exact ⟨lo, mid, _, m1, by omega, rfl, rfl, rfl, hlo, HH⟩
        case measure => simp [intOf]; omega
      · rw [decide_eq_false ht] at HM
        have HL := Lib.hid (lows_mid HSO.out hmB ht)
        clear ht
        go_wp2_with fail
        refine HM.out.mono ?_
        rintro e w1 ⟨rfl, m3, rfl⟩
        go_wp2
        go_roundw
        case rel => exact ⟨mid + 1, hi, _, m2, hhl, by go_num, rfl, rfl, HL, hhi⟩
        case measure => simp [intOf]; omega
    · have hle : lo = hi := by omega
      have hlt2 : ¬ (lo : Int) < hi := by omega
      have HF : Hid (FirstAt t s lo) := Lib.hid ⟨by omega, hlo.out, by rw [hle]; exact hhi.out⟩
      clear hle
      go_wp2
      go_ret
      exact ⟨lo, HF.out, rfl, _, rfl⟩

def FirstPost (t : Nat) (s : List Pt) (w : World) (e : Ending) (w' : World) : Prop := ∃ k : Nat, FirstAt t s k ∧ e = .returned (.int .i64 ((k % s.length : Nat) : Int)) ∧ Below w.heap.size w w'
theorem mod_int (k n : Nat) : (k : Int) % (n : Int) = ((k % n : Nat) : Int) := (Int.natCast_emod k n).symm
set_option maxRecDepth 100000 in
set_option maxHeartbeats 2000000 in
theorem first_any (rp g cap key : Nat) (s : List Pt) (w : World) (hR : RingAt w rp g cap s) (hsort : s.Pairwise fun a b => ltP b a = false) (h0 : 0 < s.length) (hk : U64 key) :
    Calls Tryd.prog 80 #[.pointer (some ⟨rp, 0, none⟩), .int .u64 (key : Int)] w (FirstPost (Mx.turn key) s w) := by
  have HT := Lib.hid (fun W => turn_any key W hk)
  generalize Mx.turn key = t at *
  have hb : Below w.heap.size w ((w.alloc (.cells #[.pointer (some ⟨rp, 0, none⟩)] 54)).alloc (.cells #[.int .u64 (t : Int)] 35)) := ((Below.refl _ _).alloc (Nat.le_refl _) _).alloc (by simp) _
  have hR2 := hR.below hb
  have x1 : Blk ((w.alloc (.cells #[.pointer (some ⟨rp, 0, none⟩)] 54)).alloc (.cells #[.int .u64 (t : Int)] 35)) w.heap.size 54 #[.pointer (some ⟨rp, 0, none⟩)] := (Blk.new w _ _).alloc _
  have x2 : Blk ((w.alloc (.cells #[.pointer (some ⟨rp, 0, none⟩)] 54)).alloc (.cells #[.int .u64 (t : Int)] 35)) (w.heap.size + 1) 35 #[.int .u64 (t : Int)] := by
    have := Blk.new (w.alloc (.cells #[.pointer (some ⟨rp, 0, none⟩)] 54)) 35 #[.int .u64 (t : Int)]
    simpa using this
  have y1 := x1.cell 0
  have y2 := x2.cell 0
  simp only [List.getElem?_toArray, List.getElem?_cons_zero] at y1 y2
  have hn0 : ¬ (s.length : Int) = 0 := by omega
  have hn1 : ¬ s.length = 0 := by omega
  have hn2 : ¬ s = [] := fun e => by simp [e] at h0
  have hn3 : (0 : Int) < s.length := by omega
  have hl := hR.l
  clear hR hk x1 x2
  go_enter Tryd.func80, Tryd.ntmps80
  go_wp2_with fail
  refine (HT.out _).mono ?_
  rintro e w1 ⟨rfl, rfl⟩
  go_wp2_with fail
  generalize (w.alloc (.cells #[.pointer (some ⟨rp, 0, none⟩)] 54)).alloc (.cells #[.int .u64 (t : Int)] 35) = W0 at *
  have HS : Hid (Calls Tryd.prog 94 #[.int .i64 (s.length : Int), .func (.func 95) #[] #[.pointer (some ⟨w.heap.size, 0, none⟩), .pointer (some ⟨w.heap.size + 1, 0, none⟩)]] W0.drew (SearchPost t s W0.drew)) :=
    Lib.hid (search_any rp g cap w.heap.size (w.heap.size + 1) t s W0.drew ⟨hR2.r, hR2.p, hR2.l⟩ hsort y1 y2)
  have z := hR2.r
  clear hR2 hsort
  go_region_held3 (fun w' => w'.cell? ⟨w.heap.size, 0, none⟩ = some (.pointer (some ⟨rp, 0, none⟩)) ∧ w'.cell? ⟨rp, 0, none⟩ = some (.slice (some ⟨g, 0, none⟩) s.length cap)) (first | exact ⟨y1, z⟩ | go_keep)
    (first
      | (go_at_call 94; go_must (refine HS.out.mono ?_); rintro e w1 ⟨k, hf, rfl, m, rfl⟩; have HF := Lib.hid hf; have hk0 : (0 : Int) ≤ (k : Int) := by omega))
  go_wp2
  go_ret
  exact ⟨k, HF.out, rfl, below_drewN hb (1 + m)⟩
end Go.Proofs.YtbbbnnooaaelmaaDoor
