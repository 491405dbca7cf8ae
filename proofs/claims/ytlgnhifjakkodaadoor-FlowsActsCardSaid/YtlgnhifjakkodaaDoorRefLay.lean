/-
  The walk of the reference's lay.
-/
import Derived.Test.YtlgnhifjakkodaaDoorRefFlows
namespace Go.Proofs.YtlgnhifjakkodaaDoor
open Go.RowKit

theorem insF_at {x : Fl} {L : List Fl} {k : Nat} (hk : k ≤ L.length) (hne : ∀ y ∈ L, y.key ≠ x.key) (hlt : ∀ j (hj : j < L.length), j < k → L[j].key < x.key) (hge : ∀ h : k < L.length, ¬ L[k].key < x.key) : insF x L = L.take k ++ x :: L.drop k := by
  induction L generalizing k with
  | nil =>
    obtain rfl : k = 0 := by simpa using hk
    rfl
  | cons y r ih =>
    cases k with
    | zero =>
      have h1 := hge (by simp)
      have h2 := hne y (List.mem_cons_self ..)
      unfold insF
      rw [if_pos (by simp at h1; omega)]
      rfl
    | succ k =>
      have h1 := hlt 0 (by simp) (by omega)
      unfold insF
      rw [if_neg (by simp at h1; omega), ih (by simpa using hk) (fun z hz => hne z (List.mem_cons_of_mem _ hz)) (fun j hj hjk => by have := hlt (j + 1) (by simpa using hj) (by omega); simpa using this) (fun h => by have := hge (by simpa using h); simpa using this)]
      rfl
theorem ins_flsC {x : Fl} {L : List Fl} {k : Nat} : flsC (L.take k ++ x :: L.drop k) = (flsC L).take (k * 3) ++ flC x ++ (flsC L).drop (k * 3) := by
  rw [flsC_append, flsC_take, flsC_drop]
  simp [flsC]
set_option maxRecDepth 100000 in
set_option maxHeartbeats 4000000 in
theorem ref_lay {B mp time last : Nat} {L : List Fl} {sv : Value} (x : Fl) (w : World) (h : RFs w B mp time last L sv) (hB : B ≤ w.heap.size) (hl : L.length < 200) (hne : ∀ y ∈ L, y.key ≠ x.key) :
    Calls Tryd.prog 38 #[.pointer (some ⟨mp, 0, none⟩), flV x] w (RefDrop B mp time last (insF x L) w) := by
  obtain ⟨i0, hi0, hz0, hz1, hz2⟩ := info_parts info_flow
  have hbx : Below w.heap.size w (w.alloc (.cells #[.int .u64 (x.key : Int), .string x.host, .int .i64 x.til] 37)) := (Below.refl _ _).alloc (Nat.le_refl _) _
  have hBx := Blk.new w 37 #[.int .u64 (x.key : Int), .string x.host, .int .i64 x.til]
  have HT0 : Hid (∀ m, Turn [] w ((w.alloc (.cells #[.int .u64 (x.key : Int), .string x.host, .int .i64 x.til] 37)).drewN m)) := Lib.hid fun m => (Turn.of_below hbx).drewN m
  have HT00 : Hid (Turn [] w (w.alloc (.cells #[.int .u64 (x.key : Int), .string x.host, .int .i64 x.til] 37))) := Lib.hid (Turn.of_below hbx)
  have HBX0 : Hid (Cells3 (w.alloc (.cells #[.int .u64 (x.key : Int), .string x.host, .int .i64 x.til] 37)) w.heap.size 0 x) := Lib.hid (Cells3.blk hBx)
  obtain ⟨A, cap, hsv, hrd, hcap⟩ := h.form
  have HSV := Lib.hid (fun W (hW : Turn [] w W) => (⟨hW.own h.row (by simp), hW.blk h.blk (by simp)⟩ : W.ownsRow B 37 3 sv L.length (flsC L) ∧ Blk W mp 45 #[.int .i64 (time : Int), .int .i64 (last : Int), sv]))
  have HBX : Hid (∀ m W, Turn [] ((w.alloc (.cells #[.int .u64 (x.key : Int), .string x.host, .int .i64 x.til] 37)).drewN m) W → Cells3 W w.heap.size 0 x) := Lib.hid fun m W hW => Cells3.blk (hW.blk (hBx.drewN m) (by simp))
  have HFIN : Hid (∀ (k : Nat) (w1 w2 w3 : World) (v1 v2 v3 : Value) (o : Obj), Turn [] w w1 → insF x L = L.take k ++ x :: L.drop k → k ≤ L.length → w1.ownsRow w.heap.size 37 3 v1 k ((flsC L).take (k * 3)) → (w1.alloc o).grownBy w2 v1.ownBlock → w2.ownsRow w.heap.size 37 3 v2 (k + 1) ((flsC L).take (k * 3) ++ flC x) → w2.grownBy w3 v2.ownBlock →
      w3.ownsRow w.heap.size 37 3 v3 (k + 1 + (L.length - k)) ((flsC L).take (k * 3) ++ flC x ++ (flsC L).drop (k * 3)) → RefDrop B mp time last (insF x L) w (.returned (.tuple #[])) (w3.setCell ⟨mp, 2, none⟩ v3) ∧ Blk w3 mp 45 #[.int .i64 (time : Int), .int .i64 (last : Int), sv]) := Lib.hid fun k w1 w2 w3 v1 v2 v3 o t1 hi hk o1 g2 o2 g3 o3 => by
    have t2 := turn_app1 t1 o1 g2
    have t3 := turn_app t2 o2 g3
    have hlen : (insF x L).length = L.length + 1 := insF_length x L
    rw [← ins_flsC, ← hi, show k + 1 + (L.length - k) = (insF x L).length by rw [hlen]; omega] at o3
    obtain ⟨⟨a, b⟩, c⟩ := h.set t3 o3 (by rw [hlen]; omega) hB
    exact ⟨⟨rfl, _, a, b⟩, c⟩
  have HIN := Lib.hid (fun (k : Nat) (hk : k ≤ L.length) h1 h2 => insF_at (x := x) (L := L) hk hne h1 h2)
  have HN1 := Lib.hid (fun k u (hu : u ∈ (flsC L).take (k * 3)) => flsC_one L u (List.mem_of_mem_take hu))
  have HN2 := Lib.hid (fun k u (hu : u ∈ (flsC L).drop (k * 3)) => flsC_one L u (List.mem_of_mem_drop hu))
  have HNx : Hid (∀ u ∈ flC x, u.oneCell' = true) := Lib.hid fun u hu => flsC_one [x] u (by simpa [flsC] using hu)
  have HNC := Lib.hid (fun W => flcells_new W x)
  have hc2 : w.cell? ⟨mp, 2, none⟩ = some sv := h.blk.cell 2
  have hmpl := h.blk.lt
  have HGL : Hid (0 < L.length → ∃ g, A = some ⟨g, 0, none⟩) := Lib.hid fun h0 => by
    obtain ⟨g, c', hv, _, _⟩ := h.row.form h0
    rw [hsv] at hv
    injection hv with hA
    exact ⟨g, hA⟩
  have HG0 : Hid (L.length = 0 → A = none → cap = 0) := Lib.hid fun h0 hA => by
    have h3 := h.row
    rw [hsv, hA] at h3
    exact (own_none_of h3).2
  have HGA : Hid (∀ ad, A = some ad → ∃ g, ad = ⟨g, 0, none⟩) := Lib.hid fun ad hA => by
    have h3 := h.row
    rw [hsv, hA] at h3
    exact ⟨_, own_zero_of h3⟩
  subst hsv
  clear h hne hrd
  unfold flV
  go_enter Tryd.func38, Tryd.ntmps38
  go_wp2_with fail
  clear hbx hBx
  generalize w.alloc (.cells #[.int .u64 (x.key : Int), .string x.host, .int .i64 x.til] 37) = W0 at *
  go_loopw [4] (fun iv wi => ∃ k m : Nat, k ≤ L.length ∧ iv = .int .i64 (k : Int) ∧ wi = W0.drewN m ∧ Hid (∀ j (hj : j < L.length), j < k → L[j].key < x.key)) (fun iv _ => L.length - (intOf iv).toNat)
  case atStart => exact ⟨0, 0, Nat.zero_le _, rfl, rfl, Lib.hid fun j _ h => absurd h (by omega)⟩
  case round =>
    obtain ⟨k, m, hk, rfl, rfl, hall⟩ := hrel
    have c2 : W0.cell? ⟨mp, 2, none⟩ = some (.slice A L.length cap) := (HSV.out W0 HT00.out).2.cell 2
    obtain ⟨y0, y1, y2⟩ := HBX0.out
    by_cases hgo : ∃ h : k < L.length, L[k].key < x.key
    · obtain ⟨hko, hp⟩ := hgo
      obtain ⟨g, rfl⟩ := HGL.out (by omega)
      have hko2 : (k : Int) < L.length := by omega
      obtain ⟨a0, _, _⟩ := cells3_of (HSV.out W0 HT00.out).1 hko
      have d1 : decide (L[k].key < x.key) = true := by simpa using hp
      have HA : Hid (∀ j (hj : j < L.length), j < k + 1 → L[j].key < x.key) := Lib.hid fun j hj h => by
        rcases Nat.lt_succ_iff_lt_or_eq.1 h with h1 | rfl
        · exact hall.out j hj h1
        · exact hp
      clear hall hp
      generalize L[k].key = ky at *
      go_wp2_with fail
      go_quiet (fail)
      go_wp2_with fail
      go_roundw
      case rel => exact ⟨k + 1, _, by omega, by go_num, rfl, HA⟩
      case measure => simp [intOf]; omega
    · have HI := Lib.hid (HIN.out k hk hall.out fun h h2 => hgo ⟨h, h2⟩)
      have hway : ((k : Int) < L.length ∧ ∃ (g ky : Nat), A = some ⟨g, 0, none⟩ ∧ W0.cell? ⟨g, k * 3, none⟩ = some (.int .u64 (ky : Int)) ∧ decide (ky < x.key) = false) ∨ ¬ ((k : Int) < L.length) := by
        by_cases hko : k < L.length
        · obtain ⟨g, hA⟩ := HGL.out (by omega)
          have hr := (HSV.out W0 HT00.out).1
          rw [hA] at hr
          obtain ⟨a0, _, _⟩ := cells3_of hr hko
          refine .inl ⟨by omega, g, L[k].key, hA, a0, ?_⟩
          simp only [decide_eq_false_iff_not]
          exact fun h2 => hgo ⟨hko, h2⟩
        · exact .inr (by omega)
      have hkn : (k : Int) ≤ L.length := by omega
      have hkc : (k : Int) ≤ cap := by omega
      have HAc : Hid (A = none → L.length = 0 ∧ cap = 0) := Lib.hid fun hA => by
        rcases Nat.eq_zero_or_pos L.length with h0 | h0
        · exact ⟨h0, HG0.out h0 hA⟩
        · obtain ⟨g, hg⟩ := HGL.out h0
          rw [hA] at hg; cases hg
      have HTk := Lib.hid (fun W (hW : Turn [] w W) g (hA : A = some ⟨g, 0, none⟩) => ((by
        have hr := Reads.of_own (HSV.out W hW).1
        refine ⟨by rw [List.length_take, flsC_length]; omega, fun hk0 => ?_⟩
        obtain ⟨ad, ha, hb, hc⟩ := hr.2 (by omega)
        refine ⟨ad, by rw [← ha, hA], hb, fun j u hu => hc j u ?_⟩
        rw [List.getElem?_take] at hu
        by_cases hj : j < k * 3
        · rwa [if_pos hj] at hu
        · rw [if_neg hj] at hu; exact absurd hu (by simp)) : Reads W W.heap.size 3 (some ⟨g, 0, none⟩) k ((flsC L).take (k * 3))))
      have HDk := Lib.hid (fun W (hW : Turn [] w W) g (hA : A = some ⟨g, 0, none⟩) (hc : ¬ cap = k) => ((by
        have := (Reads.of_own (HSV.out W hW).1).cut (k := k) hk hcap
        rw [if_neg hc, hA] at this
        have e : (some (⟨g, 0, none⟩ : Addr)).map (·.add (k * 3)) = some ⟨g, k * 3, none⟩ := by
          by_cases h0 : k = 0
          · subst h0; rfl
          · have : ¬ k * 3 = 0 := by omega
            simp [Addr.add, this]
        rw [e] at this
        exact this) : Reads W W.heap.size 3 (some ⟨g, k * 3, none⟩) (L.length - k) ((flsC L).drop (k * 3))))
      clear hgo hall
      cases hAo : A with
      | none =>
        subst hAo
        obtain ⟨hL0, rfl⟩ := HAc.out rfl
        have hL : L = [] := List.eq_nil_of_length_eq_zero hL0
        subst hL
        obtain rfl : k = 0 := by simpa using hk
        have HS1 : Hid (Reads (W0.drewN m) (W0.drewN m).heap.size 3 none 0 []) := Lib.hid Reads.none_
        have HS3 : Hid (∀ W, Turn [] w W → Reads W W.heap.size 3 none 0 []) := Lib.hid fun W _ => Reads.none_
        clear hway hkn hkc hk hL0 hcap
        go_wp2_with fail
        go_quiet (fail)
        go_wp2_with (first
          | (at_builtin
             refine wpList_append_any _ rfl (.tmp 28) (.tmp 34) _ rfl w.heap.size 37 i0 _ 3 32 Tryd.underlying34 hi0 hz0 hz1 hz2 rfl (by omega) (.slice none 0 0) 0 [] rfl (World.ownsRow_nil _ _ _ _) _ none 0 0 _ rfl HS1.out (HN1.out 0) (by simp only [maxLen]; omega) (by omega) (HT0.out _).size ?_
             intro v1 w1 hown1 hg1 _
             simp only [Nat.zero_add, List.nil_append] at hown1
             have HO1 := Lib.hid hown1
             have ht1 := Turn.then (Turn.refl [] _) (Turn.of_grown (bs := []) hg1 (fun _ e => by cases e))
             have HT1 := Lib.hid ((HT0.out _).then ht1)
             obtain ⟨b0, b1, b2⟩ := HBX.out _ _ ht1
             clear hown1 hg1 ht1)
          | (at_builtin
             refine wpList_append_any _ rfl (.tmp 36) (.tmp 38) _ rfl w.heap.size 37 i0 _ 3 32 Tryd.underlying34 hi0 hz0 hz1 hz2 rfl (by omega) _ 0 _ rfl (HO1.out.alloc _) (w1.heap.size + 1) (some ⟨w1.heap.size, 0, none⟩) 1 1 (flC x) rfl ⟨rfl, fun _ => ⟨_, rfl, by simp, HNC.out w1⟩⟩ HNx.out (by simp only [maxLen]; omega) (by omega) (by have := HT1.out.size; simp; omega) ?_
             intro v2 w2 hown2 hg2 _
             have HO2 := Lib.hid hown2
             have HG2 := Lib.hid hg2
             have HT2 := Lib.hid (turn_app1 HT1.out HO1.out hg2)
             have d2 := (HSV.out _ HT2.out).2.cell 2
             simp only [List.getElem?_toArray, List.getElem?_cons_zero, List.getElem?_cons_succ] at d2
             clear hown2 hg2)
          | (at_builtin
             go_must (refine wpList_append_any _ rfl (.tmp 41) (.tmp 47) _ rfl w.heap.size 37 i0 _ 3 32 Tryd.underlying34 hi0 hz0 hz1 hz2 rfl (by omega) _ (0 + 1) _ rfl HO2.out _ none 0 0 _ rfl (HS3.out _ HT2.out) (by simp) (by simp only [maxLen]; omega) (by omega) HT2.out.size ?_)
             intro v3 w3 hown3 hg3 _
             obtain ⟨hp, hb⟩ := HFIN.out 0 w1 w2 w3 v1 v2 v3 _ HT1.out HI.out (by omega) HO1.out HG2.out HO2.out hg3 (by simpa [flsC] using hown3)
             have HP := Lib.hid hp
             have c9 := hb.cell 2
             have f9 := hb.frozen 2
             clear hp hb
             obtain ⟨A3, cap3, hv3, _⟩ := own_slice hown3
             subst hv3)
          | fail)
        go_end0
        exact HP.out
      | some ad =>
        obtain ⟨g, rfl⟩ := HGA.out ad hAo
        subst hAo
        have HS1 := Lib.hid (HTk.out _ (HT0.out (m + 1)) g rfl)
        by_cases hcc : cap = k
        · subst hcc
          obtain rfl : cap = L.length := by omega
          have hge : ¬ ((L.length : Int) < L.length) := by omega
          have e0 : Hid (L.length - L.length = 0) := Lib.hid (by omega)
          have e1 : Hid ((flsC L).drop (L.length * 3) = []) := Lib.hid (List.drop_eq_nil_of_le (by rw [flsC_length]; omega))
          have HS3 : Hid (∀ W, Turn [] w W → Reads W W.heap.size 3 (some ⟨g, 0, none⟩) 0 []) := Lib.hid fun W _ => ⟨rfl, fun h => absurd h (by omega)⟩
          clear hway
          go_wp2_with fail
          go_quiet (fail)
          go_wp2_with (first
            | (at_builtin
               refine wpList_append_any _ rfl (.tmp 28) (.tmp 34) _ rfl w.heap.size 37 i0 _ 3 32 Tryd.underlying34 hi0 hz0 hz1 hz2 rfl (by omega) (.slice none 0 0) 0 [] rfl (World.ownsRow_nil _ _ _ _) _ (some ⟨g, 0, none⟩) L.length L.length _ rfl HS1.out (HN1.out L.length) (by simp only [maxLen]; omega) (by omega) (HT0.out _).size ?_
               intro v1 w1 hown1 hg1 _
               simp only [Nat.zero_add, List.nil_append] at hown1
               have HO1 := Lib.hid hown1
               have ht1 := Turn.then (Turn.refl [] _) (Turn.of_grown (bs := []) hg1 (fun _ e => by cases e))
               have HT1 := Lib.hid ((HT0.out _).then ht1)
               obtain ⟨b0, b1, b2⟩ := HBX.out _ _ ht1
               clear hown1 hg1 ht1)
            | (at_builtin
               refine wpList_append_any _ rfl (.tmp 36) (.tmp 38) _ rfl w.heap.size 37 i0 _ 3 32 Tryd.underlying34 hi0 hz0 hz1 hz2 rfl (by omega) _ L.length _ rfl (HO1.out.alloc _) (w1.heap.size + 1) (some ⟨w1.heap.size, 0, none⟩) 1 1 (flC x) rfl ⟨rfl, fun _ => ⟨_, rfl, by simp, HNC.out w1⟩⟩ HNx.out (by simp only [maxLen]; omega) (by omega) (by have := HT1.out.size; simp; omega) ?_
               intro v2 w2 hown2 hg2 _
               have HO2 := Lib.hid hown2
               have HG2 := Lib.hid hg2
               have HT2 := Lib.hid (turn_app1 HT1.out HO1.out hg2)
               have d2 := (HSV.out _ HT2.out).2.cell 2
               simp only [List.getElem?_toArray, List.getElem?_cons_zero, List.getElem?_cons_succ] at d2
               clear hown2 hg2)
            | (at_builtin
               go_must (refine wpList_append_any _ rfl (.tmp 41) (.tmp 47) _ rfl w.heap.size 37 i0 _ 3 32 Tryd.underlying34 hi0 hz0 hz1 hz2 rfl (by omega) _ (L.length + 1) _ rfl HO2.out _ (some ⟨g, 0, none⟩) 0 0 _ rfl (HS3.out _ HT2.out) (by simp) (by simp only [maxLen]; omega) (by omega) HT2.out.size ?_)
               intro v3 w3 hown3 hg3 _
               obtain ⟨hp, hb⟩ := HFIN.out L.length w1 w2 w3 v1 v2 v3 _ HT1.out HI.out (by omega) HO1.out HG2.out HO2.out hg3 (by rw [e0.out, e1.out]; exact hown3)
               have HP := Lib.hid hp
               have c9 := hb.cell 2
               have f9 := hb.frozen 2
               clear hp hb
               obtain ⟨A3, cap3, hv3, _⟩ := own_slice hown3
               subst hv3)
            | fail)
          go_end0
          exact HP.out
        · have HS3 : Hid (∀ W, Turn [] w W → Reads W W.heap.size 3 (some ⟨g, k * 3, none⟩) (L.length - k) ((flsC L).drop (k * 3))) := Lib.hid fun W hW => HDk.out W hW g rfl hcc
          rcases hway with ⟨d2, g', ky, hA, cy, d1⟩ | d2
          · injection hA with hA
            injection hA with hA
            subst hA
            go_wp2_with fail
            go_quiet (fail)
            go_wp2_with (first
              | (at_builtin
                 refine wpList_append_any _ rfl (.tmp 28) (.tmp 34) _ rfl w.heap.size 37 i0 _ 3 32 Tryd.underlying34 hi0 hz0 hz1 hz2 rfl (by omega) (.slice none 0 0) 0 [] rfl (World.ownsRow_nil _ _ _ _) _ (some ⟨g, 0, none⟩) k cap _ rfl HS1.out (HN1.out k) (by simp only [maxLen]; omega) (by omega) (HT0.out _).size ?_
                 intro v1 w1 hown1 hg1 _
                 simp only [Nat.zero_add, List.nil_append] at hown1
                 have HO1 := Lib.hid hown1
                 have ht1 := Turn.then (Turn.refl [] _) (Turn.of_grown (bs := []) hg1 (fun _ e => by cases e))
                 have HT1 := Lib.hid ((HT0.out _).then ht1)
                 obtain ⟨b0, b1, b2⟩ := HBX.out _ _ ht1
                 clear hown1 hg1 ht1)
              | (at_builtin
                 refine wpList_append_any _ rfl (.tmp 36) (.tmp 38) _ rfl w.heap.size 37 i0 _ 3 32 Tryd.underlying34 hi0 hz0 hz1 hz2 rfl (by omega) _ k _ rfl (HO1.out.alloc _) (w1.heap.size + 1) (some ⟨w1.heap.size, 0, none⟩) 1 1 (flC x) rfl ⟨rfl, fun _ => ⟨_, rfl, by simp, HNC.out w1⟩⟩ HNx.out (by simp only [maxLen]; omega) (by omega) (by have := HT1.out.size; simp; omega) ?_
                 intro v2 w2 hown2 hg2 _
                 have HO2 := Lib.hid hown2
                 have HG2 := Lib.hid hg2
                 have HT2 := Lib.hid (turn_app1 HT1.out HO1.out hg2)
                 have d2 := (HSV.out _ HT2.out).2.cell 2
                 simp only [List.getElem?_toArray, List.getElem?_cons_zero, List.getElem?_cons_succ] at d2
                 clear hown2 hg2)
              | (at_builtin
                 go_must (refine wpList_append_any _ rfl (.tmp 41) (.tmp 47) _ rfl w.heap.size 37 i0 _ 3 32 Tryd.underlying34 hi0 hz0 hz1 hz2 rfl (by omega) _ (k + 1) _ rfl HO2.out _ (some ⟨g, k * 3, none⟩) (L.length - k) (cap - k) _ rfl (HS3.out _ HT2.out) (HN2.out k) (by simp only [maxLen]; omega) (by omega) HT2.out.size ?_)
                 intro v3 w3 hown3 hg3 _
                 obtain ⟨hp, hb⟩ := HFIN.out k w1 w2 w3 v1 v2 v3 _ HT1.out HI.out (by omega) HO1.out HG2.out HO2.out hg3 hown3
                 have HP := Lib.hid hp
                 have c9 := hb.cell 2
                 have f9 := hb.frozen 2
                 clear hp hb
                 obtain ⟨A3, cap3, hv3, _⟩ := own_slice hown3
                 subst hv3)
              | fail)
            go_end0
            exact HP.out
          · obtain rfl : k = L.length := by omega
            go_wp2_with fail
            go_quiet (fail)
            go_wp2_with (first
              | (at_builtin
                 refine wpList_append_any _ rfl (.tmp 28) (.tmp 34) _ rfl w.heap.size 37 i0 _ 3 32 Tryd.underlying34 hi0 hz0 hz1 hz2 rfl (by omega) (.slice none 0 0) 0 [] rfl (World.ownsRow_nil _ _ _ _) _ (some ⟨g, 0, none⟩) L.length cap _ rfl HS1.out (HN1.out L.length) (by simp only [maxLen]; omega) (by omega) (HT0.out _).size ?_
                 intro v1 w1 hown1 hg1 _
                 simp only [Nat.zero_add, List.nil_append] at hown1
                 have HO1 := Lib.hid hown1
                 have ht1 := Turn.then (Turn.refl [] _) (Turn.of_grown (bs := []) hg1 (fun _ e => by cases e))
                 have HT1 := Lib.hid ((HT0.out _).then ht1)
                 obtain ⟨b0, b1, b2⟩ := HBX.out _ _ ht1
                 clear hown1 hg1 ht1)
              | (at_builtin
                 refine wpList_append_any _ rfl (.tmp 36) (.tmp 38) _ rfl w.heap.size 37 i0 _ 3 32 Tryd.underlying34 hi0 hz0 hz1 hz2 rfl (by omega) _ L.length _ rfl (HO1.out.alloc _) (w1.heap.size + 1) (some ⟨w1.heap.size, 0, none⟩) 1 1 (flC x) rfl ⟨rfl, fun _ => ⟨_, rfl, by simp, HNC.out w1⟩⟩ HNx.out (by simp only [maxLen]; omega) (by omega) (by have := HT1.out.size; simp; omega) ?_
                 intro v2 w2 hown2 hg2 _
                 have HO2 := Lib.hid hown2
                 have HG2 := Lib.hid hg2
                 have HT2 := Lib.hid (turn_app1 HT1.out HO1.out hg2)
                 have d2 := (HSV.out _ HT2.out).2.cell 2
                 simp only [List.getElem?_toArray, List.getElem?_cons_zero, List.getElem?_cons_succ] at d2
                 clear hown2 hg2)
              | (at_builtin
                 go_must (refine wpList_append_any _ rfl (.tmp 41) (.tmp 47) _ rfl w.heap.size 37 i0 _ 3 32 Tryd.underlying34 hi0 hz0 hz1 hz2 rfl (by omega) _ (L.length + 1) _ rfl HO2.out _ (some ⟨g, L.length * 3, none⟩) 0 (cap - L.length) _ rfl (by have := HS3.out _ HT2.out; rwa [Nat.sub_self] at this) (HN2.out L.length) (by simp only [maxLen]; omega) (by omega) HT2.out.size ?_)
                 intro v3 w3 hown3 hg3 _
                 obtain ⟨hp, hb⟩ := HFIN.out L.length w1 w2 w3 v1 v2 v3 _ HT1.out HI.out (by omega) HO1.out HG2.out HO2.out hg3 (by rw [Nat.sub_self]; exact hown3)
                 have HP := Lib.hid hp
                 have c9 := hb.cell 2
                 have f9 := hb.frozen 2
                 clear hp hb
                 obtain ⟨A3, cap3, hv3, _⟩ := own_slice hown3
                 subst hv3)
              | fail)
            go_end0
            exact HP.out
end Go.Proofs.YtlgnhifjakkodaaDoor
