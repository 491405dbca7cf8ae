/-
  The reference's less and NextOf.
-/
import Derived.Test.YtbbbnnooaaelmaaDoorRefRing
import Derived.Test.YtbbbnnooaaelmaaDoorCycPlain
import Derived.Test.YtbbbnnooaaelmaaDoorRingRead
import Derived.Test.YtbbbnnooaaelmaaDoorRefHosts
import Derived.Test.YtbbbnnooaaelmaaDoorLists
import Derived.Test.YtbbbnnooaaelmaaDoorFillPlain
namespace Go.Proofs.YtbbbnnooaaelmaaDoor
open Go.RowKit Go.Sort

theorem RefR.ringAt {w : World} {B rp : Nat} {s : List Pt} {sv : Value} (h : RefR w B rp s sv) (h0 : 0 < s.length) (hl : s.length ≤ 1000) : ∃ g cap, RingAt w rp g cap s := by
  obtain ⟨g, cap, hsv, _⟩ := h.own.form h0
  subst hsv
  refine ⟨g, cap, h.blk.cell 0, fun k hk => ?_, hl⟩
  have e0 : (flatP s)[k * 2]? = some (.int .u64 (s[k].at_ : Int)) := by
    rw [flatP_get, show k * 2 / 2 = k by omega, show k * 2 % 2 = 0 by omega, List.getElem?_eq_getElem hk]; rfl
  have e1 : (flatP s)[k * 2 + 1]? = some (.string s[k].host) := by
    rw [flatP_get, show (k * 2 + 1) / 2 = k by omega, show (k * 2 + 1) % 2 = 1 by omega, List.getElem?_eq_getElem hk]; rfl
  exact ⟨(h.own.cellAt (k * 2) (by omega)).trans e0, (h.own.cellAt (k * 2 + 1) (by omega)).trans e1⟩
def LessIs (b : Bool) (w : World) (e : Ending) (w' : World) : Prop := e = .returned (.bool b) ∧ Below w.heap.size w w'
theorem less_ways (t x y : Nat) (z : Bool) (hx : Bool) (h : hx = if decide (x < t) != decide (y < t) then decide (y < t) else if x != y then decide (x < y) else z) :
    (decide (x < t) = true ∧ decide (y < t) = false ∧ hx = false) ∨ (decide (x < t) = false ∧ decide (y < t) = true ∧ hx = true) ∨ ((∃ b, decide (x < t) = b ∧ decide (y < t) = b) ∧ ((((x : Int) != (y : Int)) = true ∧ hx = decide (x < y)) ∨ (((x : Int) != (y : Int)) = false ∧ hx = z))) := by
  have e : ((x : Int) != (y : Int)) = (x != y) := by
    rw [Bool.eq_iff_iff]
    simp only [bne_iff_ne, ne_eq]
    omega
  rw [e]
  cases h1 : decide (x < t) <;> cases h2 : decide (y < t) <;> cases h3 : (x != y) <;> rw [h1, h2, h3] at h <;> simp at h <;> simp [h]
set_option maxRecDepth 100000 in
set_option maxHeartbeats 2000000 in
theorem less_any (t : Nat) (a b : Pt) (w : World) : Calls Tryd.prog 79 #[.int .u64 (t : Int), .agg #[.int .u64 (a.at_ : Int), .string a.host], .agg #[.int .u64 (b.at_ : Int), .string b.host]] w (LessIs (ltC t a b) w) := by
  have hw := less_ways t a.at_ b.at_ (ltB a.host b.host) (ltC t a b) rfl
  have hz : Op.bytesLess a.host.toList b.host.toList = ltB a.host b.host := rfl
  have hb0 : Below w.heap.size w ((w.alloc (.cells #[.int .u64 (a.at_ : Int), .string a.host] 121)).alloc (.cells #[.int .u64 (b.at_ : Int), .string b.host] 121)) := ((Below.refl _ _).alloc (Nat.le_refl _) _).alloc (by simp) _
  generalize ltC t a b = hx at *
  generalize ltB a.host b.host = z at *
  obtain ⟨x, xh⟩ := a
  obtain ⟨y, yh⟩ := b
  dsimp only at *
  rcases hw with ⟨h1, h2, rfl⟩ | ⟨h1, h2, rfl⟩ | ⟨⟨q, h1, h2⟩, ⟨h3, rfl⟩ | ⟨h3, rfl⟩⟩
  all_goals
    go_enter Tryd.func79, Tryd.ntmps79
    go_wp2
    go_ret
    exact ⟨by simp [*], hb0⟩
def lenV : Value → Nat
  | .slice _ n _ => n
  | _ => 0
set_option maxRecDepth 100000 in
set_option maxHeartbeats 4000000 in
theorem nextOf_any (rp g cap key : Nat) (many : Int) (L C : List Pt) (w : World) (hR : RingAt w rp g cap L) (hk : U64 key) (hp : C.Perm L) (hs : C.Pairwise fun a b => ltC (Mx.turn key) b a = false) :
    Calls Tryd.prog 37 #[.pointer (some ⟨rp, 0, none⟩), .int .u64 (key : Int), .int .i64 many] w (TextsPost (nextGo many [] (C.map (·.host))) w) := by
  have HT := Lib.hid (turnOf_any key w hk)
  unfold NumIs at HT
  have HLess := Lib.hid (fun (a b : Pt) W => less_any (Mx.turn key) a b W)
  have HNone := Lib.hid (fun (out : List ByteArray) (b : Int) (h : BestIs out (Mx.turn key) L L.length b) (hb : b = -1) (hm : ¬ many ≤ out.length) => (show nextGo many out (C.map (·.host)) = out from by
    refine next_none hm fun y hy => ?_
    obtain ⟨p, hpC, rfl⟩ := List.mem_map.1 hy
    obtain ⟨i, hi, rfl⟩ := List.getElem_of_mem (hp.mem_iff.1 hpC)
    rcases h with ⟨_, h⟩ | ⟨j, q, hj, _⟩
    · exact h i _ hi (List.getElem?_eq_getElem hi)
    · omega))
  have HBest := Lib.hid (fun (out : List ByteArray) (j : Nat) (q : Pt) (hq : L[j]? = some q) (h : BestIs out (Mx.turn key) L L.length (j : Int)) (hm : ¬ many ≤ out.length) => (show has out q.host = false ∧ q.host ∈ C.map (·.host) ∧ nextGo many out (C.map (·.host)) = nextGo many (out ++ [q.host]) (C.map (·.host)) from by
    rcases h with ⟨h, _⟩ | ⟨j', q', hj, _, hq', he, h⟩
    · omega
    · obtain rfl : j = j' := by omega
      rw [hq] at hq'
      obtain rfl := Option.some.inj hq'
      obtain ⟨hjl, rfl⟩ := List.getElem?_eq_some_iff.1 hq
      have hm1 := List.getElem_mem hjl
      exact ⟨he, List.mem_map.2 ⟨_, hp.mem_iff.2 hm1, rfl⟩, next_best hp hs hm hm1 he fun r hr => by
        obtain ⟨i, hi, rfl⟩ := List.getElem_of_mem hr
        exact h i _ hi (List.getElem?_eq_getElem hi)⟩))
  have hlH : (C.map (·.host)).length = L.length := by rw [List.length_map, hp.length_eq]
  have HOut := Lib.hid (fun (out : List ByteArray) (h1 : out.Nodup) (h2 : ∀ x ∈ out, x ∈ C.map (·.host)) => (show out.length ≤ L.length from by rw [← hlH]; exact nodup_len h1 h2))
  have hl1000 := hR.l
  have HR := Lib.hid hR
  obtain ⟨i0, hi0, hz0, hz1, hz2⟩ := info_parts info_string
  clear hR hp hs hk hlH
  generalize C.map (·.host) = H at *
  generalize Mx.turn key = t at *
  go_enter Tryd.func37, Tryd.ntmps37
  go_wp2_with fail
  refine HT.out.mono ?_
  rintro e w1 ⟨rfl, rfl⟩
  go_wp2_with fail
  go_loopw [8] (fun ov wr => ∃ out : List ByteArray, wr.ownsRow w.heap.size 9 1 ov out.length (strV out) ∧ Hid (nextGo many out H = nextGo many [] H) ∧ Hid (out.Nodup ∧ ∀ x ∈ out, x ∈ H) ∧ Below w.heap.size w wr) (fun ov _ => L.length + 1 - lenV ov)
  case atStart => exact ⟨[], by simp [strV, own_none], Lib.hid rfl, Lib.hid ⟨by simp, fun x h => by cases h⟩, Below.refl _ _⟩
  case round =>
    obtain ⟨out, hown, hgo, hset, hb⟩ := hrel
    have hlen := HOut.out out hset.out.1 hset.out.2
    obtain ⟨Ao, co, hov, hro, _, _⟩ := own_slice hown
    subst hov
    by_cases hm : (out.length : Int) < many
    · have hm2 : ¬ many ≤ out.length := by omega
      go_wp2_with fail
      obtain ⟨wo, rfl⟩ : ∃ wo : World, wo = wr := ⟨_, rfl⟩
      go_loopw [9, 10] (fun bv kv wi => ∃ (k : Nat) (b : Int), k ≤ L.length ∧ bv = .int .i64 b ∧ kv = .int .i64 (k : Int) ∧ Hid (BestIs out t L k b) ∧ Below wo.heap.size wo wi) (fun _ kv _ => L.length - (intOf kv).toNat)
      case atStart => exact ⟨0, -1, Nat.zero_le _, rfl, rfl, Lib.hid (BestIs.zero _ _ _), Below.refl _ _⟩
      case round =>
        obtain ⟨k, b, hk, rfl, rfl, hbest, hbo⟩ := hrel
        have hRA := HR.out.below (below_two hb hbo)
        have cr := hRA.r
        by_cases hkl : k < L.length
        · have hkl2 : (k : Int) < L.length := by omega
          obtain ⟨p0, p1⟩ := hRA.p k hkl
          have hpk : L[k]? = some L[k] := List.getElem?_eq_getElem hkl
          have hk1 : k + 1 ≤ L.length := hkl
          have HIX := Lib.hid (index_any Ao co wr.heap.size out L[k].host wr ((hro.below hbo).more hbo.size) (by unfold maxLen; omega))
          unfold IdxPost at HIX
          have hidx := idx_nonneg out L[k].host
          have HP := Lib.hid (fun j (hj : j < L.length) => (⟨(hRA.p j hj).1, (hRA.p j hj).2⟩ : wr.cell? ⟨g, j * 2, none⟩ = some (.int .u64 (L[j].at_ : Int)) ∧ wr.cell? ⟨g, j * 2 + 1, none⟩ = some (.string L[j].host)))
          have HRA := Lib.hid hRA
          clear hRA
          cases hh : has out L[k].host with
          | true =>
            rw [hh] at hidx
            have HB := Lib.hid (hbest.out.skip hpk hh)
            generalize L[k] = p at *
            obtain ⟨pa, ph⟩ := p
            dsimp only at *
            generalize idx out ph = ix at *
            have q1 : decide (ix ≥ 0) = true := hidx
            clear hpk hh
            go_wp2_with fail
            refine HIX.out.mono ?_
            rintro e w3 ⟨rfl, rfl⟩
            go_wp2
            go_roundw
            case rel => exact ⟨k + 1, b, hk1, rfl, by go_num, HB, hbo⟩
            case measure => simp [intOf]; omega
          | false =>
            rw [hh] at hidx
            have q1 : decide (idx out L[k].host ≥ 0) = false := hidx
            rcases hbest.out with ⟨rfl, hb1⟩ | ⟨j, q, rfl, hjk, hq, he, hb1⟩
            · have HB := Lib.hid (hbest.out.first hpk hh)
              generalize L[k] = p at *
              obtain ⟨pa, ph⟩ := p
              dsimp only at *
              generalize idx out ph = ix at *
              clear hpk hh hb1
              go_wp2_with fail
              refine HIX.out.mono ?_
              rintro e w3 ⟨rfl, rfl⟩
              go_wp2
              go_quiet (fail)
              go_wp2
              go_roundw
              case rel => exact ⟨k + 1, (k : Int), hk1, rfl, by go_num, HB, below_drewN hbo _⟩
              case measure => simp [intOf]; omega
            · obtain ⟨hjl, hjq⟩ := List.getElem?_eq_some_iff.1 hq
              obtain ⟨r0, r1⟩ := HP.out j hjl
              rw [hjq] at r0 r1
              have hjl2 : (j : Int) < L.length := by omega
              have q2 : decide ((j : Int) < 0) = false := by simp
              have HL := Lib.hid (HLess.out L[k] q wr.drew)
              have HBt := Lib.hid (fun (h : ltC t L[k] q = true) => hbest.out.turn hq hpk hh h)
              have HBs := Lib.hid (fun (h : ltC t L[k] q = false) => hbest.out.stay hq hpk h)
              unfold LessIs at HL
              generalize hlt : ltC t L[k] q = lt at *
              have HQ := Lib.hid hq
              have HC5 : Hid (∀ W', Below wr.heap.size wr W' → W'.cell? ⟨rp, 0, none⟩ = some (.slice (some ⟨g, 0, none⟩) L.length cap) ∧ W'.cell? ⟨g, k * 2, none⟩ = some (.int .u64 (L[k].at_ : Int)) ∧ W'.cell? ⟨g, k * 2 + 1, none⟩ = some (.string L[k].host) ∧
                  W'.cell? ⟨g, j * 2, none⟩ = some (.int .u64 (q.at_ : Int)) ∧ W'.cell? ⟨g, j * 2 + 1, none⟩ = some (.string q.host)) := Lib.hid fun W' hW => by
                have R := HRA.out.below hW
                have e1 := R.p j hjl
                rw [hjq] at e1
                exact ⟨R.r, (R.p k hkl).1, (R.p k hkl).2, e1.1, e1.2⟩
              clear hpk hh hb1 he hq hjq hlt hbest
              generalize L[k] = p at *
              obtain ⟨pa, ph⟩ := p
              obtain ⟨qa, qh⟩ := q
              dsimp only at *
              generalize idx out ph = ix at *
              go_wp2_with fail
              refine HIX.out.mono ?_
              rintro e w3 ⟨rfl, rfl⟩
              go_wp2_with fail
              go_region_held3 (fun w' => w'.cell? ⟨rp, 0, none⟩ = some (.slice (some ⟨g, 0, none⟩) L.length cap) ∧ w'.cell? ⟨g, k * 2, none⟩ = some (.int .u64 (pa : Int)) ∧ w'.cell? ⟨g, k * 2 + 1, none⟩ = some (.string ph) ∧ w'.cell? ⟨g, j * 2, none⟩ = some (.int .u64 (qa : Int)) ∧ w'.cell? ⟨g, j * 2 + 1, none⟩ = some (.string qh)) (first | exact ⟨cr, p0, p1, r0, r1⟩ | exact HC5.out _ (below_undrew hb5) | go_keep)
                ((go_at_call 79; refine HL.out.mono ?_; rintro e w5 ⟨rfl, hb5⟩))
              have hb5' := below_two hbo (below_undrew hb5)
              cases lt with
              | true =>
                have HB := Lib.hid (HBt.out rfl)
                go_wp2
                go_roundw
                case rel => exact ⟨k + 1, (k : Int), hk1, rfl, by go_num, HB, hb5'⟩
                case measure => simp [intOf]; omega
              | false =>
                have HB := Lib.hid (HBs.out rfl)
                go_wp2
                go_roundw
                case rel => exact ⟨k + 1, (j : Int), hk1, rfl, by go_num, HB, hb5'⟩
                case measure => simp [intOf]; omega
        · obtain rfl : k = L.length := by omega
          have hge : ¬ (L.length : Int) < L.length := by omega
          have hbw := below_two hb hbo
          rcases hbest.out with ⟨rfl, _⟩ | ⟨j, q, rfl, hjk, hq, he, hb1⟩
          · have HE : Hid (nextGo many [] H = out) := Lib.hid (by rw [← hgo.out]; exact HNone.out out (-1) hbest.out rfl hm2)
            have hownr := own_below hown hbo
            have HPst : Hid (TextsPost (nextGo many [] H) w (.returned (.slice Ao out.length co)) wr) := Lib.hid (by rw [HE.out]; exact ⟨Ao, co, rfl, hownr, hbw⟩)
            clear hbest
            go_wp2
            go_ret
            exact HPst.out
          · obtain ⟨g1, g2, g3⟩ := HBest.out out j q hq hbest.out hm2
            obtain ⟨hjl, hjq⟩ := List.getElem?_eq_some_iff.1 hq
            obtain ⟨_, r1⟩ := hRA.p j hjl
            rw [hjq] at r1
            have hjl2 : (j : Int) < L.length := by omega
            have q2 : decide ((j : Int) < 0) = false := by simp
            have HGo : Hid (nextGo many (out ++ [q.host]) H = nextGo many [] H) := Lib.hid (by rw [← g3]; exact hgo.out)
            have HSet : Hid ((out ++ [q.host]).Nodup ∧ ∀ x ∈ out ++ [q.host], x ∈ H) := Lib.hid ⟨List.nodup_append.2 ⟨hset.out.1, by simp, fun a ha b hb => by
              obtain rfl : b = q.host := by simpa using hb
              rintro rfl
              rw [has_iff.2 ha] at he; cases he⟩, fun x hx => by
              rcases List.mem_append.1 hx with hx | hx
              · exact hset.out.2 x hx
              · obtain rfl : x = q.host := by simpa using hx
                exact g2⟩
            have hlen2 := HOut.out _ HSet.out.1 HSet.out.2
            rw [List.length_append] at hlen2
            simp only [List.length_cons, List.length_nil] at hlen2
            have hownr := own_below hown hbo
            clear hbest hq hjq he hb1 g1 g2 g3 hRA
            generalize q.host = qh at *
            go_wp2_with (at_builtin
                         go_must (refine wpList_append_own _ rfl _ _ 22 rfl w.heap.size 9 i0 (.string ⟨#[]⟩) 1 16 Tryd.underlying22 hi0 hz0 hz1 hz2 rfl (by decide) _ _ _ rfl (hownr.alloc _) ⟨wr.heap.size, 0, none⟩ 1 1 [.string qh] rfl rfl (cell_one_new _ _ _) (by simp [Value.oneCell']) (by simp only [maxLen]; omega) (by omega) (size_alloc1 hbw) ?_)
                         intro v' w7 hown7 hgrow _)
            have hb7 := below_app1 hbw hownr hgrow
            obtain ⟨A7, c7, hv7, _⟩ := own_slice hown7
            subst hv7
            go_roundw
            case rel => exact ⟨out ++ [qh], by simpa [strV] using hown7, HGo, HSet, hb7⟩
            case measure => simp [lenV]; omega
    · have hm2 : many ≤ out.length := by omega
      have HE : Hid (nextGo many [] H = out) := Lib.hid (by rw [← hgo.out]; exact nextGo_stop hm2 _)
      have HPst : Hid (TextsPost (nextGo many [] H) w (.returned (.slice Ao out.length co)) wr) := Lib.hid (by rw [HE.out]; exact ⟨Ao, co, rfl, hown, hb⟩)
      go_wp2
      go_ret
      exact HPst.out
end Go.Proofs.YtbbbnnooaaelmaaDoor
