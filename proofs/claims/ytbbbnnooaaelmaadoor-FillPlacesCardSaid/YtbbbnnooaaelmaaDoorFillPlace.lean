/-
  fill.Place where ring and percent are right.
-/
import Derived.Test.YtbbbnnooaaelmaaDoorFillStep
import Derived.Test.YtbbbnnooaaelmaaDoorMapsOps
import Derived.Test.YtbbbnnooaaelmaaDoorNums
namespace Go.Proofs.YtbbbnnooaaelmaaDoor
open Go.RowKit Go.Maps

/-- What fill.Place is given. -/
structure PlaceIn (w : World) (A : Option Addr) (c : Nat) (l : List ByteArray) (A3 : Option Addr) (keys : List Nat) : Prop where
  r : Reads w w.heap.size 1 A l.length (strV l)
  lc : l.length ≤ c
  lm : l.length ≤ maxLen
  s : ∀ s ∈ l, s.size ≤ maxLen
  k : Reads w w.heap.size 1 A3 keys.length (keysV keys)
  u : ∀ k ∈ keys, U64 k
theorem PlaceIn.below {w w' : World} {A : Option Addr} {c : Nat} {l : List ByteArray} {A3 : Option Addr} {keys : List Nat} (h : PlaceIn w A c l A3 keys) (hb : Below w.heap.size w w') : PlaceIn w' A c l A3 keys :=
  ⟨(h.r.below hb).more hb.size, h.lc, h.lm, h.s, (h.k.below hb).more hb.size, h.u⟩
def PlaceGood (l : List ByteArray) (cp most : Nat) (keys : List Nat) (w : World) (e : Ending) (w' : World) : Prop :=
  ∃ xs A c, e = .returned (.tuple #[.slice A xs.length c, .nilIface]) ∧ w'.ownsRow w.heap.size 3 1 (.slice A xs.length c) xs.length (numsV xs) ∧ xs.length = keys.length ∧ PlaceOK l cp most keys xs ∧ keys.Nodup ∧ Below w.heap.size w w'
def PlaceDup (ea : Nat → Addr) (keys : List Nat) (w : World) (e : Ending) (w' : World) : Prop :=
  ∃ t a i k, e = .returned (.tuple #[.slice none 0 0, .iface t (.pointer (some a))]) ∧ IsErr ea w' ⟨6, some i⟩ t a ∧ Below w.heap.size w w' ∧ keys[i]? = some k ∧ k ∈ keys.take i ∧ (keys.take i).Nodup

theorem HasIs.below {b n : Nat} {f : ByteArray → Nat} {w w' : World} (h : HasIs b n f w) (hb : Below w.heap.size w w') : HasIs b n f w' := by
  obtain ⟨D, ho, hD⟩ := h
  have hlt := ho.lt
  obtain ⟨es, ck, hh, r⟩ := ho
  exact ⟨D, ⟨es, ck, (hb.block b hlt).trans hh, r⟩, hD⟩

theorem SeenIs.below {b n : Nat} {S : List Nat} {w w' : World} (h : SeenIs b n S w) (hb : Below w.heap.size w w') : SeenIs b n S w' := by
  obtain ⟨D, ho, hD⟩ := h
  have hlt := ho.lt
  obtain ⟨es, ck, hh, r⟩ := ho
  exact ⟨D, ⟨es, ck, (hb.block b hlt).trans hh, r⟩, hD⟩
theorem SeenIs.lt {b n : Nat} {S : List Nat} {w : World} (h : SeenIs b n S w) : b < w.heap.size := by
  obtain ⟨D, ho, _⟩ := h; exact ho.lt

set_option maxRecDepth 100000 in
set_option maxHeartbeats 2000000 in
theorem place_ok (ea : Nat → Addr) (A : Option Addr) (c : Nat) (l : List ByteArray) (cp : Nat) (A2 : Option Addr) (c2 : Nat) (keys : List Nat) (p : Nat) (w : World) (hE : ErrsR ea w) (hI : PlaceIn w A c l A2 keys) (hf : ringFault l (cp : Int) = none) (hp : p ≤ 100) (hk : keys.length ≤ 500) :
    Calls Tryd.prog 41 #[.slice A l.length c, .int .i64 (cp : Int), .slice A2 keys.length c2, .int .i64 (p : Int)] w fun e w' => PlaceDup ea keys w e w' ∨ PlaceGood l cp (capN keys.length l.length p) keys w e w' := by
  obtain ⟨h0, ho, h1, h2⟩ := ringFault_none hf
  obtain ⟨h12, hnm, hnd⟩ := hostsFault_none.1 ho
  have hc1 : 1 ≤ cp := by omega
  have hmm := @run_makeMap Tryd.prog
  obtain ⟨i0, hi0, hz0, hz1, hz2⟩ := info_parts info_num
  have hlm : l.length ≤ maxLen := hI.lm
  have HN := Lib.hid (ringNew_made ea A c w.heap.size l cp w hE.e3 hI.r (Nat.le_refl _) hI.lc hI.lm hI.s hf)
  have HC := Lib.hid (fun W => cap_ok keys.length l.length p W hk (by omega) h12 hp)
  have HROOM := Lib.hid (fun (xs : List Nat) (h : xs.length < keys.length) => has_room (n := l.length) (k := keys.length) (p := p) (by omega) h)
  have HI := Lib.hid hI
  have HE := Lib.hid hE
  unfold CapPost at HC
  generalize capN keys.length l.length p = most at *
  clear hE hI hf ho hnm
  go_enter Tryd.func41, Tryd.ntmps41
  go_wp2_with fail
  refine HN.out.mono ?_
  rintro e w1 ⟨rp, rfl, hR, hb1⟩
  have HR := Lib.hid hR
  clear hR
  go_wp2_with fail
  refine (HC.out _).mono ?_
  rintro e w2 ⟨rfl, rfl⟩
  go_wp2_with fail
  have hm1 := (HasIs.made w1).kept (World.grownBy_alloc _ (.map #[] 0) none) (by simp)
  have hm2 := SeenIs.made (w1.alloc (.map #[] 0))
  have hm3 : Below w1.heap.size w1 ((w1.alloc (.map #[] 0)).alloc (.map #[] 0)) := ((Below.refl _ _).alloc (Nat.le_refl _) _).alloc (by simp) _
  rw [show (w1.alloc (.map #[] 0)).heap.size = w1.heap.size + 1 by simp] at hm2
  go_loopw [15, 45] (fun ov kv wr => ∃ (i : Nat) (xs : List Nat) (f : ByteArray → Nat) (S : List Nat), i ≤ keys.length ∧ kv = .int .i64 (i : Int) ∧ wr.ownsRow (w1.heap.size + 2) 3 1 ov xs.length (numsV xs) ∧ xs.length = i ∧ Hid (PlaceOK l cp most keys xs) ∧ Hid (PlaceInv l keys xs S f i) ∧
      HasIs w1.heap.size i f wr ∧ SeenIs (w1.heap.size + 1) i S wr ∧ Below w1.heap.size w1 wr) (fun _ kv _ => keys.length - (intOf kv).toNat)
  case atStart => exact ⟨0, [], fun _ => 0, [], Nat.zero_le _, rfl, ⟨rfl, .inl ⟨rfl, rfl⟩⟩, rfl, Lib.hid (PlaceOK.nil _ _ _ _), Lib.hid ⟨by simp, by simp, by simp⟩, hm1, hm2, hm3⟩
  case round =>
    obtain ⟨i, xs, f, S, hi, rfl, hown, hxl, hPO, hinv, hH, hS, hb⟩ := hrel
    obtain ⟨Ao, co, hov, hro, _, _⟩ := own_slice hown
    subst hov
    subst hxl
    by_cases hlt : xs.length < keys.length
    · have hbr := below_two hb1 hb
      have hlt2 : (xs.length : Int) < keys.length := by omega
      obtain ⟨ad2, rfl, hK⟩ := keyAt2_of (HI.out.below hbr).k hlt
      have hU := HI.out.u _ (List.getElem_mem hlt)
      have g1 : keys[xs.length]? = some keys[xs.length] := List.getElem?_eq_getElem hlt
      generalize keys[xs.length] = key at *
      have HK := Lib.hid hK
      have c0 := HK.out wr (Below.refl _ _)
      have hmx : xs.length < maxLen := by unfold maxLen; omega
      by_cases hd : key ∈ S
      · have c6 := (HE.out.below hbr).e3.c6
        dsimp only [gv] at c6
        go_wp2_with (at_lookup
                     go_must (refine wp_seen_look rfl _ _ rfl rfl hS key rfl hU ?_)
                     rw [decide_eq_true hd])
        go_region
        go_wp2
        go_ret2
        refine .inl ⟨_, _, xs.length, key, rfl, ⟨rfl, _, rfl, ?_⟩, ?_, g1, (hinv.out.2.1 _).1 hd, hinv.out.1⟩
        · exact Blk.new _ _ _
        · exact below_drewN (hbr.alloc hbr.size _) 1
      · go_wp2_with (first
          | (at_lookup
             refine wp_seen_look rfl _ _ rfl rfl hS key rfl hU ?_
             rw [decide_eq_false hd])
          | (at_mapUpdate
             refine wp_seen_put rfl _ _ _ rfl rfl hS key rfl rfl hU hmx ?_
             intro w2 hS2 hg2)
          | fail)
        have hb2 := hb.grown hg2 hb.size (fun g e => by cases e; omega)
        have hH2 := hH.kept hg2 (by simp)
        have hown2 := hown.kept hg2 (.inr fun e => by have := (hown.lt _ e).1; omega)
        refine (ringIs_next (l.length : Int) (HR.out.below hb2) hU).mono ?_
        obtain ⟨hs, hhs⟩ : ∃ hs, nextGo (l.length : Int) [] (hostsOf l cp key) = hs := ⟨_, rfl⟩
        rw [hhs]
        rintro e w3 ⟨A3, c3, rfl, ho3, hb3⟩
        go_wp2_with fail
        go_loopw [15, 66] (fun ov qv wi => ∃ q : Nat, q ≤ hs.length ∧ ov = .slice Ao xs.length co ∧ qv = .int .i64 (q : Int) ∧ wi = w3 ∧ Hid (∀ q', q' < q → ∀ s, hs[q']? = some s → most ≤ f s)) (fun _ qv _ => hs.length - (intOf qv).toNat)
        case atStart => exact ⟨0, Nat.zero_le _, rfl, rfl, rfl, Lib.hid fun q' h => absurd h (by omega)⟩
        case round =>
          obtain ⟨q, hq, rfl, rfl, rfl, hall⟩ := hrel
          by_cases hql : q < hs.length
          · obtain ⟨ad3, rfl, hc3⟩ := str_at (Reads.of_own ho3) hql
            have hql2 : (q : Int) < hs.length := by omega
            have hmem : hs[q] ∈ l := by
              obtain ⟨t, ht, htm⟩ := next_from (many := (l.length : Int)) (hostsOf l cp key) []
              rw [hhs, List.nil_append] at ht
              exact hostsOf_mem (htm _ (ht ▸ List.getElem_mem hql))
            have hsz := HI.out.s _ hmem
            have gq : hs[q]? = some hs[q] := List.getElem?_eq_getElem hql
            have hH3 := hH2.below hb3
            have hq1 : q + 1 ≤ hs.length := hql
            have hsm : hs.length ≤ 2 ^ 63 - 1 := by obtain ⟨_, _, _, _, _, h⟩ := own_slice ho3; exact h
            by_cases hfm : f hs[q] < most
            · obtain ⟨j, hj, hidx, hPO2, hinv2, hfi⟩ := place_step hnd h0 rfl g1 hd hinv.out hPO.out hhs gq hmem hall.out hfm
              have tm : decide ((f hs[q] : Int) < (most : Int)) = true := by simp; omega
              have hf2 : f hs[q] + 1 ≤ 1000000 := by omega
              have HIX : Hid (∀ W, Below w.heap.size w W → Calls Tryd.prog 66 #[.slice A l.length c, .string hs[q]] W fun e w' => e = .returned (.int .i64 (j : Int)) ∧ W = w') :=
                Lib.hid fun W hW => (index_strings A c W.heap.size l hs[q] W (HI.out.below hW).r hlm).mono fun e w' ⟨h, h'⟩ => ⟨by rw [h, hidx], h'⟩
              have HPO2 := Lib.hid hPO2
              have HV2 := Lib.hid hinv2
              have hS3 := hS2.below hb3
              have hown3 := own_below hown2 hb3
              have hb03 := below_two hb2 hb3
              clear hPO2 hinv2 hidx
              generalize hs[q] = x at *
              go_wp2_with (first
                | (at_lookup
                   refine wp_has_look rfl _ _ rfl rfl hH3 x rfl hsz ?_)
                | (at_mapUpdate
                   go_must (refine wp_has_put rfl _ _ _ rfl rfl hH3 x rfl (f x + 1) (by go_num) hsz hf2 hmx ?_)
                   intro w4 hH4 hg4)
                | fail)
              have hS4 := hS3.kept hg4 (by simp)
              have hown4 := hown3.kept hg4 (.inr fun e => by have := (hown3.lt _ e).1; omega)
              have hb4 := hb03.grown hg4 hb03.size (fun g e => by cases e; omega)
              refine (HIX.out _ (below_two hb1 hb4)).mono ?_
              rintro e w5 ⟨rfl, rfl⟩
              go_wp2_with (at_builtin
                           go_must (refine wpList_append_own _ rfl _ _ 25 rfl (w1.heap.size + 2) 3 i0 (.int .i64 0) 1 8 Tryd.underlying25 hi0 hz0 hz1 hz2 rfl (by decide) _ xs.length (numsV xs) rfl (hown4.alloc _) ⟨w4.heap.size, 0, none⟩ 1 1 [.int .i64 (j : Int)] rfl rfl (cell_one_new _ _ _) (by simp [Value.oneCell']) (by simp only [maxLen]; omega) (by omega) (by have := hS4.lt; simp; omega) ?_)
                           intro v6 w6 hown6 hg6 _)
              have hH6 := (hH4.kept (World.grownBy_alloc _ (.cells #[.int .i64 (j : Int)] 3) none) (by simp)).kept hg6 (fun e => by have := (hown4.lt _ e.symm).1; omega)
              have hS6 := (hS4.kept (World.grownBy_alloc _ (.cells #[.int .i64 (j : Int)] 3) none) (by simp)).kept hg6 (fun e => by have := (hown4.lt _ e.symm).1; omega)
              have hb6 := (hb4.alloc hb4.size (.cells #[.int .i64 (j : Int)] 3)).grown hg6 (by have := hb4.size; simp; omega) (fun g e => by have := (hown4.lt _ e).1; omega)
              go_roundw
              case rel => exact ⟨xs.length + 1, xs ++ [j], _, key :: S, by omega, by go_num, by simpa [numsV] using hown6, by simp, HPO2, HV2, hH6, hS6, hb6⟩
              case measure => simp [intOf]; omega
            · have tm : decide ((f hs[q] : Int) < (most : Int)) = false := by simp; omega
              generalize hs[q] = x at *
              go_wp2_with (at_lookup
                           go_must (refine wp_has_look rfl _ _ rfl rfl hH3 x rfl hsz ?_))
              go_roundw
              case rel => exact ⟨q + 1, hq1, rfl, by go_num, trivial, Lib.hid fun q' hq' s hs' => by
                rcases Nat.lt_succ_iff_lt_or_eq.1 hq' with h | rfl
                · exact hall.out q' h s hs'
                · rw [gq] at hs'
                  obtain rfl := Option.some.inj hs'
                  omega⟩
              case measure => simp [intOf]; omega
          · exact (place_stuck hc1 hinv.out hhs (by omega) hall.out (HROOM.out xs (by omega))).elim
    · have hxl : xs.length = keys.length := by omega
      have hnk : keys.Nodup := by have := hinv.out.1; rwa [hxl, List.take_length] at this
      have HF : Hid (PlaceGood l cp most keys w (.returned (.tuple #[.slice Ao xs.length co, .nilIface])) wr) := Lib.hid ⟨xs, Ao, co, rfl, hown.mono (by have := hb1.size; omega), hxl, hPO.out, hnk, below_two hb1 hb⟩
      clear hinv hnk hro hown hH hS hxl
      go_wp2
      go_ret2
      exact .inr HF.out
end Go.Proofs.YtbbbnnooaaelmaaDoor
