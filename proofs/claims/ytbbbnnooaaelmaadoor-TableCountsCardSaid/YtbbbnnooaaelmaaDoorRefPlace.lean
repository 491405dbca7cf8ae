/-
  The reference's PlaceOf.
-/
import Derived.Test.YtbbbnnooaaelmaaDoorRefCap
import Derived.Test.YtbbbnnooaaelmaaDoorRingHosts
import Derived.Test.YtbbbnnooaaelmaaDoorFillStep
import Derived.Test.YtbbbnnooaaelmaaDoorNums
namespace Go.Proofs.YtbbbnnooaaelmaaDoor
open Go.RowKit

def RPlaceBad (f : Flt) (w : World) (e : Ending) (w' : World) : Prop := e = .returned (.tuple #[.slice none 0 0, retFault (some f)]) ∧ Below w.heap.size w w'
def RPlaceDup (keys : List Nat) (w : World) (e : Ending) (w' : World) : Prop := ∃ i k, e = .returned (.tuple #[.slice none 0 0, .agg #[.int .i64 6, .int .i64 ((i : Nat) : Int)]]) ∧ Below w.heap.size w w' ∧ keys[i]? = some k ∧ k ∈ keys.take i ∧ (keys.take i).Nodup
def RPlaceGood (l : List ByteArray) (cp most : Nat) (keys : List Nat) (w : World) (e : Ending) (w' : World) : Prop :=
  ∃ xs A c, e = .returned (.tuple #[.slice A xs.length c, .agg #[.int .i64 0, .int .i64 (-1)]]) ∧ w'.ownsRow w.heap.size 3 1 (.slice A xs.length c) xs.length (numsV xs) ∧ xs.length = keys.length ∧ PlaceOK l cp most keys xs ∧ keys.Nodup ∧ Below w.heap.size w w'

theorem idx_self {l : List ByteArray} (hn : l.Nodup) {j : Nat} (hj : j < l.length) : idx l l[j] = (j : Int) := by
  obtain ⟨k, hk, hi, he⟩ := idx_mem (List.getElem_mem hj)
  rw [List.getElem?_eq_getElem hk] at he
  have he := Option.some.inj he
  rw [hi]
  rcases Nat.lt_trichotomy k j with h | h | h
  · exact absurd he (List.pairwise_iff_getElem.1 hn k j hk hj h)
  · rw [h]
  · exact absurd he.symm (List.pairwise_iff_getElem.1 hn j k hj hk h)
theorem inv_ref {l : List ByteArray} {keys xs : List Nat} {i : Nat} (hn : l.Nodup) (h : (keys.take i).Nodup) : PlaceInv l keys xs (keys.take i) (fun s => xs.count (idx l s).toNat) i :=
  ⟨h, fun _ => Iff.rfl, fun j hj => by
    show xs.count (idx l l[j]).toNat = _
    rw [idx_self hn hj]; simp⟩
theorem take_not {keys : List Nat} {i key : Nat} (h : ∀ k', k' < i → ∀ x, keys[k']? = some x → x ≠ key) : key ∉ keys.take i := by
  intro hm
  obtain ⟨j, hj, he⟩ := List.getElem_of_mem hm
  rw [List.length_take] at hj
  rw [List.getElem_take] at he
  exact h j (by omega) _ (List.getElem?_eq_getElem (by omega)) he
theorem own_set {w : World} {b size n : Nat} {e : TypeId} {v : Value} {xs : List Value} (h : w.ownsRow b e size v n xs) {p : Addr} (hp : p.block < b) (u : Value) : (w.setCell p u).ownsRow b e size v n xs :=
  h.kept (only_setCell (World.grownBy.refl w _) (.inl rfl) u) (.inr fun e => by have := (h.lt _ e).1; omega)
theorem cell_new_set (w : World) (p : Addr) (u v : Value) (t : TypeId) : ∀ (j : Nat) (x : Value), [v][j]? = some x → ((w.setCell p u).alloc (.cells #[v] t)).cell? ((⟨w.heap.size, 0, none⟩ : Addr).add j) = some x := by
  have h := cell_one_new (w.setCell p u) v t
  rwa [World.size_setCell] at h
theorem cell_faults {w w' : World} {g : Nat} {cs : Array Value} (h : Blk w g 47 cs) (hb : Below w.heap.size w w') : Blk w' g 47 cs := h.below hb h.lt

set_option maxRecDepth 100000 in
set_option maxHeartbeats 4000000 in
theorem placeOf_ok (A : Option Addr) (c : Nat) (l : List ByteArray) (cp : Nat) (A2 : Option Addr) (c2 : Nat) (keys : List Nat) (p : Nat) (w : World) (hI : RingIn w A c l A2 keys) (hf : ringFault l (cp : Int) = none) (hp : p ≤ 100) (hk : keys.length ≤ 500) :
    Calls Tryd.prog 43 #[.slice A l.length c, .int .i64 (cp : Int), .slice A2 keys.length c2, .int .i64 (p : Int)] w fun e w' => RPlaceDup keys w e w' ∨ RPlaceGood l cp (capN keys.length l.length p) keys w e w' := by
  obtain ⟨h0, ho, h1, h2⟩ := ringFault_none hf
  obtain ⟨h12, hnm, hnd⟩ := hostsFault_none.1 ho
  have hc1 : 1 ≤ cp := by omega
  obtain ⟨i0, hi0, hz0, hz1, hz2⟩ := info_parts info_num
  have hlm : l.length ≤ maxLen := Nat.le_trans hI.lc hI.cm
  have hb0 : Below w.heap.size w (w.alloc (.cells #[.int .i64 0, .int .i64 0] 47)) := (Below.refl _ _).alloc (Nat.le_refl _) _
  have HF : Hid (Calls Tryd.prog 35 #[.slice A l.length c, .int .i64 (cp : Int)] (w.alloc (.cells #[.int .i64 0, .int .i64 0] 47)) fun e w' => e = .returned (.agg #[.int .i64 0, .int .i64 (-1)]) ∧ Below (w.alloc (.cells #[.int .i64 0, .int .i64 0] 47)).heap.size (w.alloc (.cells #[.int .i64 0, .int .i64 0] 47)) w') :=
    Lib.hid (by
      have := ringFault_ref A c _ l (cp : Int) _ (hI.below hb0).r (Nat.le_refl _) hlm hI.s
      rw [hf] at this
      exact this)
  have HRef : Hid (∀ W, Below w.heap.size w W → Calls Tryd.prog 36 #[.slice A l.length c, .int .i64 (cp : Int)] W (RefMade l cp W)) :=
    Lib.hid fun W hW => refMade A c l cp W (hI.below hW).r hf hI.s
  have HC := Lib.hid (fun W => capOf_ok keys.length l.length p W hk (by omega) h12 hp)
  have HROOM := Lib.hid (fun (xs : List Nat) (h : xs.length < keys.length) => has_room (n := l.length) (k := keys.length) (p := p) (by omega) h)
  have HI := Lib.hid hI
  have HB0 := Lib.hid hb0
  have HN0 := Lib.hid (Blk.new w 47 #[.int .i64 0, .int .i64 0])
  have hmk := make_counts l.length (by omega)
  have hcap := cap_le (k := keys.length) (n := l.length) (p := p) hk (by omega) hp
  unfold CapOfPost at HC
  generalize capN keys.length l.length p = most at *
  clear hI hf ho hnm hb0
  go_enter Tryd.func43, Tryd.ntmps43
  go_wp2_with fail
  refine HF.out.mono ?_
  rintro e w1 ⟨rfl, hb1⟩
  have hB1 := HN0.out.below hb1 HN0.out.lt
  have hbw1 := HB0.out.trans (hb1.mono HB0.out.size)
  have hzz : w.heap.size < w1.heap.size := hB1.lt
  go_wp2_with fail
  refine (HC.out _).mono ?_
  rintro e w2 ⟨rfl, rfl⟩
  have hbW := hbw1.alloc hbw1.size (.cells #[.int .i64 0, .int .i64 (-1)] 47)
  have hBa := hB1.alloc (.cells #[.int .i64 0, .int .i64 (-1)] 47)
  have hBb := Blk.new w1 47 #[.int .i64 0, .int .i64 (-1)]
  generalize w1.alloc (.cells #[.int .i64 0, .int .i64 (-1)] 47) = W1 at *
  have HBa := Lib.hid hBa
  have HBb := Lib.hid hBb
  generalize w1.heap.size = g1 at *
  clear hB1 hBa hBb hb1 hbw1
  go_wp2_with fail
  refine (HRef.out _ hbW).mono ?_
  rintro e w2 ⟨mp, rfl, hM, hb2⟩
  have HM := Lib.hid hM
  have hbw2 := below_two hbW hb2
  have HBa2 := Lib.hid (cell_faults HBa.out hb2)
  have HBb2 := Lib.hid (cell_faults HBb.out hb2)
  clear hM
  go_wp2_with fail
  have hb23 : Below w2.heap.size w2 (w2.alloc (.cells (numsV (countsL l.length [])).toArray 3)) := (Below.refl _ _).alloc (Nat.le_refl _) _
  go_loopw [15, 16] (fun ov iv wr => ∃ (i : Nat) (xs : List Nat), i ≤ keys.length ∧ iv = .int .i64 (i : Int) ∧ wr.ownsRow (w2.heap.size + 1) 3 1 ov xs.length (numsV xs) ∧ xs.length = i ∧ Hid (PlaceOK l cp most keys xs) ∧ Hid ((keys.take i).Nodup) ∧
      Blk wr w2.heap.size 3 (numsV (countsL l.length xs)).toArray ∧ Below w2.heap.size w2 wr) (fun _ iv _ => keys.length - (intOf iv).toNat)
  case atStart => exact ⟨0, [], Nat.zero_le _, rfl, ⟨rfl, .inl ⟨rfl, rfl⟩⟩, rfl, Lib.hid (PlaceOK.nil _ _ _ _), Lib.hid (by simp), Blk.new _ _ _, hb23⟩
  case round =>
    obtain ⟨i, xs, hi, rfl, hown, hxl, hPO, hnk, hH, hb⟩ := hrel
    obtain ⟨Ao, co, hov, hro, _, _⟩ := own_slice hown
    subst hov
    subst hxl
    have hBa := cell_faults HBa2.out hb
    have hBb := cell_faults HBb2.out hb
    have hbr := below_two hbw2 hb
    clear hmk
    by_cases hlt : xs.length < keys.length
    · have hlt2 : (xs.length : Int) < keys.length := by omega
      obtain ⟨ad2, rfl, hK⟩ := keyAt2_of (HI.out.below hbr).k hlt
      have hKA : ∀ k', (hk' : k' < keys.length) → KeyAt2 ad2 k' keys[k'] wr := fun k' hk' => by
        obtain ⟨ad', hA', h'⟩ := keyAt2_of (HI.out.below hbr).k hk'
        obtain rfl := Option.some.inj hA'
        exact h'
      have HKA := Lib.hid hKA
      have hU := HI.out.u _ (List.getElem_mem hlt)
      have g1 : keys[xs.length]? = some keys[xs.length] := List.getElem?_eq_getElem hlt
      generalize keys[xs.length] = key at *
      have HK := Lib.hid hK
      have c0 := HK.out wr (Below.refl _ _)
      have HBa3 := Lib.hid hBa
      have HH := Lib.hid hH
      have HG1 := Lib.hid g1
      clear hKA hK hBa hBb g1 hH
      go_wp2_with fail
      obtain ⟨wo, hwo⟩ : ∃ wo : World, wo = wr := ⟨_, rfl⟩
      go_loopw [17] (fun kv wi => ∃ (k q : Nat), k ≤ xs.length ∧ kv = .int .i64 (k : Int) ∧ Hid (∀ k', k' < k → ∀ x, keys[k']? = some x → x ≠ key) ∧ wi = wo.drewN q) (fun kv _ => xs.length - (intOf kv).toNat)
      case atStart => exact ⟨0, 0, Nat.zero_le _, rfl, Lib.hid fun k' h => absurd h (by omega), hwo.symm⟩
      case round =>
        obtain ⟨k, q, hkx, rfl, hall, hwi⟩ := hrel
        subst hwo
        subst hwi
        by_cases hkl : k < xs.length
        · have hkl2 : (k : Int) < xs.length := by omega
          have hkk : k < keys.length := by omega
          have ck := HKA.out k hkk wo (Below.refl _ _)
          have gk : keys[k]? = some keys[k] := List.getElem?_eq_getElem hkk
          have hkn : (k : Int) < keys.length := by omega
          by_cases he : keys[k] = key
          · have hin : key ∈ keys.take xs.length := by
              rw [← he]
              exact List.mem_iff_getElem.2 ⟨k, by rw [List.length_take]; omega, by rw [List.getElem_take]⟩
            have HDup : Hid (∀ e w', e = .returned (.tuple #[.slice none 0 0, .agg #[.int .i64 6, .int .i64 ((xs.length : Nat) : Int)]]) → Below w.heap.size w w' → RPlaceDup keys w e w') := Lib.hid fun e w' h h' => ⟨xs.length, key, h, h', HG1.out, hin, hnk.out⟩
            rw [he] at ck
            have te : ((key : Int) == (key : Int)) = true := by simp
            have hBq := HBa3.out
            have d0 := hBq.cell 0
            have d1 := hBq.cell 1
            have f0 := hBq.frozen 0
            have f1 := hBq.frozen 1
            have hzq := hBq.lt
            have HBx := Lib.hid hbr
            clear hall he hin gk
            simp at d0 d1
            go_wp2_with fail
            go_quiet (fail)
            go_wp2
            refine bodyPost_ret (v := .tuple #[.slice none 0 0, .agg #[.int .i64 6, .int .i64 ((xs.length : Nat) : Int)]]) (by simp [results, Tryd.results43, go_sem, d0, d1]) rfl (.inl (HDup.out _ _ rfl ?_))
            exact ((below_drewN HBx.out (q + nq)).setCell (p := ⟨w.heap.size, 0, none⟩) (Nat.le_refl _) _).setCell (p := ⟨w.heap.size, 1, none⟩) (Nat.le_refl _) _
          · have HA2 : Hid (∀ k', k' < k + 1 → ∀ x, keys[k']? = some x → x ≠ key) := Lib.hid fun k' hk' x hx => by
              rcases Nat.lt_succ_iff_lt_or_eq.1 hk' with h | rfl
              · exact hall.out k' h x hx
              · rw [gk] at hx
                obtain rfl := Option.some.inj hx
                exact he
            have te : ((keys[k] : Int) == (key : Int)) = false := by simp; omega
            have hk1 : k + 1 ≤ xs.length := hkl
            clear hall gk he
            generalize keys[k] = kk at *
            go_wp2_with fail
            go_quiet (fail)
            go_wp2
            go_roundw
            case rel => exact ⟨k + 1, _, hk1, by go_num, HA2, rfl⟩
            case measure => simp [intOf]; omega
        · obtain rfl : k = xs.length := by omega
          have hkl2 : ¬ (xs.length : Int) < xs.length := by omega
          have hnot := take_not hall.out
          have hinv := inv_ref (xs := xs) hnd hnk.out
          have HInv := Lib.hid hinv
          have HNot := Lib.hid hnot
          have c00 := HK.out (wo.drewN q) (below_drewN (Below.refl _ _) q)
          have hbq := below_drewN hb q
          have hownq : (wo.drewN q).ownsRow (w2.heap.size + 1) 3 1 (.slice Ao xs.length co) xs.length (numsV xs) := hown
          have hHq : Blk (wo.drewN q) w2.heap.size 3 (numsV (countsL l.length xs)).toArray := HH.out
          have hbrq := below_drewN hbr q
          clear hall hnot hinv hown hro
          generalize wo.drewN q = W4 at *
          go_wp2_with fail
          refine (refIs_next (l.length : Int) (HM.out.below hbq) hU).mono ?_
          obtain ⟨hs, hhs⟩ : ∃ hs, nextGo (l.length : Int) [] (hostsOf l cp key) = hs := ⟨_, rfl⟩
          rw [hhs]
          rintro e w3 ⟨A3, c3, rfl, ho3, hb3⟩
          have HHS := Lib.hid hhs
          clear hhs
          go_wp2_with fail
          go_loopw [15, 19] (fun ov qv wi => ∃ q : Nat, q ≤ hs.length ∧ ov = .slice Ao xs.length co ∧ qv = .int .i64 (q : Int) ∧ wi = w3 ∧ Hid (∀ q', q' < q → ∀ s, hs[q']? = some s → most ≤ (fun s => xs.count (idx l s).toNat) s)) (fun _ qv _ => hs.length - (intOf qv).toNat)
          case atStart => exact ⟨0, Nat.zero_le _, rfl, rfl, rfl, Lib.hid fun q' h => absurd h (by omega)⟩
          case round =>
            obtain ⟨q, hq, rfl, rfl, rfl, hall⟩ := hrel
            by_cases hql : q < hs.length
            · obtain ⟨ad3, rfl, hc3⟩ := str_at (Reads.of_own ho3) hql
              have hql2 : (q : Int) < hs.length := by omega
              have hmem : hs[q] ∈ l := by
                obtain ⟨t, ht, htm⟩ := next_from (many := (l.length : Int)) (hostsOf l cp key) []
                rw [HHS.out, List.nil_append] at ht
                exact hostsOf_mem (htm _ (ht ▸ List.getElem_mem hql))
              obtain ⟨j, hj, hij, hjs⟩ := idx_mem hmem
              have gq : hs[q]? = some hs[q] := List.getElem?_eq_getElem hql
              have hq1 : q + 1 ≤ hs.length := hql
              have hsm : hs.length ≤ 2 ^ 63 - 1 := by obtain ⟨_, _, _, _, _, h⟩ := own_slice ho3; exact h
              have hbw3 := below_two hbrq hb3
              have HIX : Hid (Calls Tryd.prog 61 #[.slice A l.length c, .string hs[q]] wr fun e w' => e = .returned (.int .i64 (j : Int)) ∧ wr = w') :=
                Lib.hid ((index_any A c wr.heap.size l hs[q] wr (HI.out.below hbw3).r hlm).mono fun e w' ⟨h, h'⟩ => ⟨by rw [h, hij], h'⟩)
              have hH3 := hHq.below hb3 hHq.lt
              have hH3c := (hH3.cell j).trans (countsL_get xs hj)
              have hH3f := hH3.frozen j
              have hjl : (j : Int) < l.length := by omega
              have hcle : xs.count j ≤ 500 := Nat.le_trans List.count_le_length (by omega)
              by_cases hfm : xs.count j < most
              · obtain ⟨j', hj', hidx', hPO2, hinv2, hfi⟩ := place_step hnd h0 rfl HG1.out HNot.out HInv.out hPO.out HHS.out gq hmem hall.out (by show List.count (idx l hs[q]).toNat xs < most; rw [hij]; exact hfm)
                obtain rfl : j = j' := by omega
                have tm : decide (((xs.count j : Nat) : Int) < (most : Int)) = true := by simp; omega
                have HPO2 := Lib.hid hPO2
                have HNK2 := Lib.hid hinv2.1
                have hown3 := own_below hownq hb3
                have hb03 := below_two hbq hb3
                have HX : Hid (Blk (wr.setCell ⟨w2.heap.size, j, none⟩ (.int .i64 (((xs.count j : Nat) : Int) + 1))) w2.heap.size 3 (numsV (countsL l.length (xs ++ [j]))).toArray ∧ Below w2.heap.size w2 (wr.setCell ⟨w2.heap.size, j, none⟩ (.int .i64 (((xs.count j : Nat) : Int) + 1))) ∧ (wr.setCell ⟨w2.heap.size, j, none⟩ (.int .i64 (((xs.count j : Nat) : Int) + 1))).ownsRow (w2.heap.size + 1) 3 1 (.slice Ao xs.length co) xs.length (numsV xs)) :=
                  Lib.hid ⟨by rw [← countsL_set xs hj]; exact hH3.set_ j _, hb03.setCell (p := ⟨w2.heap.size, j, none⟩) (Nat.le_refl _) _, own_set hown3 (p := ⟨w2.heap.size, j, none⟩) (by show w2.heap.size < w2.heap.size + 1; omega) _⟩
                clear hPO2 hinv2 hidx' hall hfi hown3 hb03 hH3 hij hjs
                generalize hs[q] = x at *
                generalize xs.count j = ct at *
                go_wp2_with fail
                refine HIX.out.mono ?_
                rintro e w5 ⟨rfl, rfl⟩
                go_wp2_with (at_builtin
                             go_must (refine wpList_append_own _ rfl _ _ 25 rfl (w2.heap.size + 1) 3 i0 (.int .i64 0) 1 8 Tryd.underlying25 hi0 hz0 hz1 hz2 rfl (by decide) _ xs.length (numsV xs) rfl (HX.out.2.2.alloc _) ⟨wr.heap.size, 0, none⟩ 1 1 [.int .i64 (j : Int)] rfl rfl (cell_new_set wr _ _ _ _) (by simp [Value.oneCell']) (by simp only [maxLen]; omega) (by omega) (by have := HX.out.1.lt; simp at this ⊢; omega) ?_)
                             intro v6 w6 hown6 hg6 _)
                have hH6 := (HX.out.1.alloc (.cells #[.int .i64 (j : Int)] 3)).grown hg6 (fun e => by have := (HX.out.2.2.lt _ e.symm).1; omega)
                have hb6 := (HX.out.2.1.alloc HX.out.2.1.size (.cells #[.int .i64 (j : Int)] 3)).grown hg6 (by have := HX.out.2.1.size; simp at this ⊢; omega) (fun g e => by have := (HX.out.2.2.lt _ e).1; omega)
                go_roundw
                case rel => exact ⟨xs.length + 1, xs ++ [j], by omega, by go_num, by simpa [numsV] using hown6, by simp, HPO2, HNK2, hH6, hb6⟩
                case measure => simp [intOf]; omega
              · have tm : decide (((xs.count j : Nat) : Int) < (most : Int)) = false := by simp; omega
                have HA2 : Hid (∀ q', q' < q + 1 → ∀ s, hs[q']? = some s → most ≤ (fun s => xs.count (idx l s).toNat) s) := Lib.hid fun q' hq' s hs' => by
                  rcases Nat.lt_succ_iff_lt_or_eq.1 hq' with h | rfl
                  · exact hall.out q' h s hs'
                  · rw [gq] at hs'
                    obtain rfl := Option.some.inj hs'
                    show most ≤ List.count (idx l _).toNat xs
                    rw [hij]
                    simp; omega
                clear hall hij hjs gq hmem
                generalize hs[q] = x at *
                generalize xs.count j = ct at *
                go_wp2_with fail
                refine HIX.out.mono ?_
                rintro e w5 ⟨rfl, rfl⟩
                go_wp2
                go_roundw
                case rel => exact ⟨q + 1, hq1, rfl, by go_num, trivial, HA2⟩
                case measure => simp [intOf]; omega
            · exact (place_stuck hc1 HInv.out HHS.out (by omega) hall.out (HROOM.out xs (by omega))).elim
    · have hxl : xs.length = keys.length := by omega
      have hnk2 : keys.Nodup := by have := hnk.out; rwa [hxl, List.take_length] at this
      have d0 := hBa.cell 0
      have d1 := hBa.cell 1
      have f0 := hBa.frozen 0
      have f1 := hBa.frozen 1
      have e0 := hBb.cell 0
      have e1 := hBb.cell 1
      have hne := hBa.lt
      have HXL := Lib.hid hxl
      have HNK2 := Lib.hid hnk2
      have HO := Lib.hid hown
      have HBr := Lib.hid hbr
      clear hxl hnk2 hown hro
      simp at d0 d1 e0 e1
      go_wp2
      go_region
      go_wp2
      refine bodyPost_ret (v := .tuple #[.slice Ao xs.length co, .agg #[.int .i64 0, .int .i64 (-1)]]) (by simp [results, Tryd.results43, go_sem, d0, d1]) rfl (.inr ⟨xs, Ao, co, rfl, ?_, HXL.out, hPO.out, HNK2.out, ?_⟩)
      · exact (own_set (own_set HO.out (p := ⟨w.heap.size, 0, none⟩) (by have := hbw2.size; show w.heap.size < _; omega) _) (p := ⟨w.heap.size, 1, none⟩) (by have := hbw2.size; show w.heap.size < _; omega) _).drew.mono (by have := hbw2.size; omega)
      · exact below_drew ((HBr.out.setCell (p := ⟨w.heap.size, 0, none⟩) (Nat.le_refl _) _).setCell (p := ⟨w.heap.size, 1, none⟩) (Nat.le_refl _) _)
set_option maxRecDepth 100000 in
set_option maxHeartbeats 4000000 in
theorem placeOf_bad0 (A : Option Addr) (c : Nat) (l : List ByteArray) (cp : Int) (A2 : Option Addr) (c2 : Nat) (keys : List Nat) (p : Int) (f : Flt) (w : World) (hI : RingIn w A c l A2 keys) (hf : ringFault l cp = some f) :
    Calls Tryd.prog 43 #[.slice A l.length c, .int .i64 cp, .slice A2 keys.length c2, .int .i64 p] w (RPlaceBad f w) := by
  have hlm : l.length ≤ maxLen := Nat.le_trans hI.lc hI.cm
  have hb0 : Below w.heap.size w (w.alloc (.cells #[.int .i64 0, .int .i64 0] 47)) := (Below.refl _ _).alloc (Nat.le_refl _) _
  have HF : Hid (Calls Tryd.prog 35 #[.slice A l.length c, .int .i64 cp] (w.alloc (.cells #[.int .i64 0, .int .i64 0] 47)) (FaultPost (some f) (w.alloc (.cells #[.int .i64 0, .int .i64 0] 47)))) :=
    Lib.hid (by
      have := ringFault_ref A c _ l cp _ (hI.below hb0).r (Nat.le_refl _) hlm hI.s
      rw [hf] at this
      exact this)
  unfold FaultPost at HF
  have hcode := ringFault_code hf
  have hc1 : (0 : Int) < (fCode (some f) : Int) := by show (0 : Int) < (f.code : Int); omega
  have HB0 := Lib.hid hb0
  have HN0 := Lib.hid (Blk.new w 47 #[.int .i64 0, .int .i64 0])
  unfold RPlaceBad retFault
  generalize fCode (some f) = fc at *
  generalize fAt (some f) = fa at *
  clear hI hf hb0 hcode
  go_enter Tryd.func43, Tryd.ntmps43
  go_wp2_with fail
  refine HF.out.mono ?_
  rintro e w1 ⟨rfl, hb1⟩
  have hB1 := HN0.out.below hb1 HN0.out.lt
  have hbw1 := HB0.out.trans (hb1.mono HB0.out.size)
  have d0 := hB1.cell 0
  have d1 := hB1.cell 1
  have f0 := hB1.frozen 0
  have f1 := hB1.frozen 1
  have hne := hB1.lt
  have HX := Lib.hid hbw1
  simp at d0 d1
  clear hB1 hb1 hbw1
  go_wp2_with fail
  go_region
  go_wp2
  refine bodyPost_ret (v := .tuple #[.slice none 0 0, .agg #[.int .i64 fc, .int .i64 fa]]) (by simp [results, Tryd.results43, go_sem, d0, d1, hne]) rfl ⟨rfl, ?_⟩
  exact below_drew (Below.alloc ((HX.out.setCell (p := ⟨w.heap.size, 0, none⟩) (Nat.le_refl _) _).setCell (p := ⟨w.heap.size, 1, none⟩) (Nat.le_refl _) _) (by have := HX.out.size; simpa [World.setCell] using this) _)
set_option maxRecDepth 100000 in
set_option maxHeartbeats 4000000 in
theorem placeOf_bad1 (A : Option Addr) (c : Nat) (l : List ByteArray) (cp : Int) (A2 : Option Addr) (c2 : Nat) (keys : List Nat) (p : Int) (w : World) (hI : RingIn w A c l A2 keys) (hf : ringFault l cp = none) (hn : ¬ (0 ≤ p ∧ p ≤ 100 ∧ keys.length ≤ 500)) :
    Calls Tryd.prog 43 #[.slice A l.length c, .int .i64 cp, .slice A2 keys.length c2, .int .i64 p] w (RPlaceBad ⟨2, none⟩ w) := by
  have hlm : l.length ≤ maxLen := Nat.le_trans hI.lc hI.cm
  have hb0 : Below w.heap.size w (w.alloc (.cells #[.int .i64 0, .int .i64 0] 47)) := (Below.refl _ _).alloc (Nat.le_refl _) _
  have HF : Hid (Calls Tryd.prog 35 #[.slice A l.length c, .int .i64 cp] (w.alloc (.cells #[.int .i64 0, .int .i64 0] 47)) fun e w' => e = .returned (.agg #[.int .i64 0, .int .i64 (-1)]) ∧ Below (w.alloc (.cells #[.int .i64 0, .int .i64 0] 47)).heap.size (w.alloc (.cells #[.int .i64 0, .int .i64 0] 47)) w') :=
    Lib.hid (by
      have := ringFault_ref A c _ l cp _ (hI.below hb0).r (Nat.le_refl _) hlm hI.s
      rw [hf] at this
      exact this)
  have HC : Hid (∀ W, Calls Tryd.prog 46 #[.int .i64 (keys.length : Int), .int .i64 (l.length : Int), .int .i64 p] W fun e w' => e = .returned (.tuple #[.int .i64 0, .int .i64 2]) ∧ W = w') := Lib.hid fun W => capOf_no keys.length l.length p W (by omega)
  have HB0 := Lib.hid hb0
  have HN0 := Lib.hid (Blk.new w 47 #[.int .i64 0, .int .i64 0])
  unfold RPlaceBad retFault
  clear hI hf hb0 hn
  go_enter Tryd.func43, Tryd.ntmps43
  go_wp2_with fail
  refine HF.out.mono ?_
  rintro e w1 ⟨rfl, hb1⟩
  have hB1 := HN0.out.below hb1 HN0.out.lt
  have hbw1 := HB0.out.trans (hb1.mono HB0.out.size)
  go_wp2_with fail
  refine (HC.out _).mono ?_
  rintro e w2 ⟨rfl, rfl⟩
  have hBa := hB1.alloc (.cells #[.int .i64 0, .int .i64 (-1)] 47)
  have hbW := hbw1.alloc hbw1.size (.cells #[.int .i64 0, .int .i64 (-1)] 47)
  have HBa := Lib.hid hBa
  have HBW := Lib.hid hbW
  clear hB1 hbw1 hBa hbW hb1
  go_wp2_with fail
  refine (bare_any 2 _).mono ?_
  rintro e w2 ⟨rfl, hb2⟩
  have hB2 := cell_faults HBa.out hb2
  have hbw2 := below_two HBW.out hb2
  have d0 := hB2.cell 0
  have d1 := hB2.cell 1
  have f0 := hB2.frozen 0
  have f1 := hB2.frozen 1
  have hne := hB2.lt
  have HX := Lib.hid hbw2
  simp at d0 d1
  clear hB2 hb2 hbw2
  go_wp2
  refine bodyPost_ret (v := .tuple #[.slice none 0 0, .agg #[.int .i64 2, .int .i64 (-1)]]) (by simp [results, Tryd.results43, go_sem, d0, d1]) rfl ⟨rfl, ?_⟩
  exact (HX.out.setCell (p := ⟨w.heap.size, 0, none⟩) (Nat.le_refl _) _).setCell (p := ⟨w.heap.size, 1, none⟩) (Nat.le_refl _) _
end Go.Proofs.YtbbbnnooaaelmaaDoor
