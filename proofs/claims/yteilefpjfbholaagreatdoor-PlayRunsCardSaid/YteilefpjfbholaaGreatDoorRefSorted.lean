/-
  The reference's SortedOf: texts in order.
-/
import Derived.Test.YteilefpjfbholaaGreatDoorSorted
import Derived.Test.YteilefpjfbholaaGreatDoorInsPlain
import Derived.Test.YteilefpjfbholaaGreatDoorLists
namespace Go.Proofs.YteilefpjfbholaaGreatDoor
open Go.RowKit Go.Sort

def pS (x y : ByteArray) : Bool := ltB y x
def insS (l : List ByteArray) : List ByteArray := insAll pS l
theorem insS_len (l : List ByteArray) : (insS l).length = l.length := (insAll_perm pS l).length_eq
theorem insS_sort (l : List ByteArray) : insS l = sortB l := by
  refine IsSortB.unique (l := l) ⟨insAll_perm pS l, ?_⟩ (isSort_sortB l)
  exact insAll_sorted (lt := ltB) (fun _ _ _ h1 h2 => ltB_ntrans h1 h2) (fun x y h => ltB_asymm h) (fun x y h => h) l
theorem insS_next {l : List ByteArray} {i : Nat} (h : i < l.length) : insS (l.take (i + 1)) = insP (pS l[i]) l[i] (insS (l.take i)) := by
  unfold insS
  rw [List.take_succ_eq_append_getElem h, insAll_snoc]

set_option maxRecDepth 100000 in
set_option maxHeartbeats 4000000 in
theorem sortedOf_any (A : Option Addr) (c : Nat) (l : List ByteArray) (w : World) (hr : Reads w w.heap.size 1 A l.length (strV l)) (hl : l.length ≤ 30) : Calls Tryz.prog 63 #[.slice A l.length c] w (TextsPost (sortB l) w) := by
  obtain ⟨i0, hi0, hz0, hz1, hz2⟩ := info_parts info_string
  have HP : Hid (∀ v w', w'.ownsRow w.heap.size 9 1 v (insS l).length (strV (insS l)) → Below w.heap.size w w' → TextsPost (sortB l) w (.returned v) w') := Lib.hid fun v w' h1 h2 => by
    rw [insS_sort] at h1
    exact textsPost_of h1 h2
  have HR := Lib.hid hr
  clear hr
  go_enter Tryz.func63, Tryz.ntmps63
  go_wp2_with fail
  go_loopw [3, 4] (fun ov iv wr => ∃ i : Nat, i ≤ l.length ∧ iv = .int .i64 (i : Int) ∧ wr.ownsRow w.heap.size 9 1 ov (insS (l.take i)).length (strV (insS (l.take i))) ∧ Below w.heap.size w wr) (fun _ iv _ => l.length - (intOf iv).toNat)
  case atStart => exact ⟨0, Nat.zero_le _, rfl, by simp [insS, insAll, strV, own_none], Below.refl _ _⟩
  case round =>
    obtain ⟨i, hi, rfl, hown, hb⟩ := hrel
    by_cases hlt : i < l.length
    · have hlt2 : (i : Int) < l.length := by omega
      obtain ⟨adl, rfl, hSl⟩ := strAt_of ((HR.out.below hb).more hb.size) hlt
      have hol := insS_len (l.take i)
      rw [List.length_take, Nat.min_eq_left hi] at hol
      have hnx := insS_next hlt
      have HSl := Lib.hid hSl
      generalize l[i] = x at *
      generalize insS (l.take i) = o at *
      have HNX := Lib.hid hnx
      have hol2 : o.length ≤ 30 := by omega
      have HOL := Lib.hid hol
      clear hnx hol hSl
      have cx := HSl.out wr (Below.refl _ _)
      obtain ⟨Ao, co, hov, hro, hoc, _⟩ := own_slice hown
      subst hov
      go_wp2_with fail
      go_loopw [5] (fun kv wi => ∃ k m : Nat, k ≤ o.length ∧ kv = .int .i64 (k : Int) ∧ wi = wr.drewN m ∧ Hid (∀ y ∈ o.take k, pS x y = true)) (fun kv _ => o.length - (intOf kv).toNat)
      case atStart => exact ⟨0, 0, Nat.zero_le _, rfl, rfl, Lib.hid (by simp)⟩
      case round =>
        obtain ⟨k, m, hk, rfl, rfl, hall⟩ := hrel
        by_cases hgo : ∃ h : k < o.length, pS x o[k] = true
        · obtain ⟨hko, hp⟩ := hgo
          obtain ⟨ado, rfl, hco⟩ := str_at hro hko
          have hko2 : (k : Int) < o.length := by omega
          have HA := Lib.hid (all_take_succ hko hall.out hp)
          have q1 : Op.bytesLess o[k].toList x.toList = true := hp
          clear hp
          go_wp2
          go_quiet (fail)
          go_wp2
          go_roundw
          case rel => exact ⟨k + 1, _, by omega, by go_num, rfl, HA⟩
          case measure => simp [intOf]; omega
        · have HIns : Hid (insP (pS x) x o = o.take k ++ x :: o.drop k) := Lib.hid (insP_at hk hall.out fun y hy => by
            obtain ⟨hko, rfl⟩ := List.getElem?_eq_some_iff.1 hy
            rw [← Bool.not_eq_true]
            exact fun hp => hgo ⟨hko, hp⟩)
          have HO1 := Lib.hid (fun u (hu : u ∈ (strV o).take (k * 1)) => str_one u (List.mem_of_mem_take hu))
          have HO2 := Lib.hid (fun u (hu : u ∈ (strV o).drop (k * 1)) => str_one u (List.mem_of_mem_drop hu))
          have HFin : Hid (∀ (b : Nat) (v : Value) (W : World), w.heap.size ≤ b → W.ownsRow b 9 1 v (k + 1 + (o.length - k)) ((strV o).take (k * 1) ++ [.string x] ++ (strV o).drop (k * 1)) → W.ownsRow w.heap.size 9 1 v (insS (l.take (i + 1))).length (strV (insS (l.take (i + 1))))) := Lib.hid fun b v W h1 h2 => by
            have h3 := h2.mono h1
            rw [HNX.out, HIns.out]
            have e1 : (o.take k ++ x :: o.drop k).length = k + 1 + (o.length - k) := by simp; omega
            have e2 : strV (o.take k ++ x :: o.drop k) = (strV o).take (k * 1) ++ [.string x] ++ (strV o).drop (k * 1) := by simp [strV, List.map_take, List.map_drop]
            rw [e1, e2]; exact h3
          have hkc : (k : Int) ≤ co := by omega
          have hkn : (k : Int) ≤ o.length := by omega
          have hway : ((decide (k < o.length) = true ∧ (k : Int) < o.length) ∧ ∃ (ado : Addr) (y : ByteArray), Ao = some ado ∧ wr.cell? (ado.add k) = some (.string y) ∧ Op.bytesLess y.toList x.toList = false) ∨ (decide (k < o.length) = false ∧ ¬ ((k : Int) < o.length)) := by
            by_cases hko : k < o.length
            · obtain ⟨ado, hA, hco⟩ := str_at hro hko
              refine .inl ⟨⟨by simp; omega, by omega⟩, ado, o[k], hA, hco, ?_⟩
              rw [← Bool.not_eq_true]
              exact fun hp => hgo ⟨hko, hp⟩
            · exact .inr ⟨by simp; omega, by omega⟩
          clear hgo hall
          cases hAo : Ao with
          | none =>
            subst hAo
            have ho0 : o = [] := by
              rcases hown.2 with ⟨_, h0⟩ | ⟨g, cap, cur, hv, _⟩
              · exact List.eq_nil_of_length_eq_zero h0
              · injection hv with h1; cases h1
            have hco0 : co = 0 := by
              rcases hown.2 with ⟨hv, _⟩ | ⟨g, cap, cur, hv, _⟩
              · injection hv
              · injection hv with h1; cases h1
            subst ho0
            subst hco0
            obtain rfl : k = 0 := by simpa using hk
            rcases hway with ⟨_, ado', y, hA, _⟩ | ⟨d1, d2⟩
            · cases hA
            · skip
              go_wp2
              go_quiet (fail)
              have hb2 := below_drewN (below_drewN (Below.refl wr.heap.size wr) m) nq
              have hb0 := below_two hb hb2
              have hro2 : Reads ((wr.drewN m).drewN nq) ((wr.drewN m).drewN nq).heap.size 1 none 0 (strV []) := hro
              generalize (wr.drewN m).drewN nq = wd at *
              have HRO := Lib.hid hro2
              have HR1 : Hid (∀ W, Below wd.heap.size wd W → Reads W W.heap.size 1 none 0 ((strV []).take (0 * 1))) := Lib.hid fun W hW => ((HRO.out.below hW).more hW.size).take2 (Nat.le_refl 0)
              have HR2 : Hid (∀ W, Below wd.heap.size wd W → Reads W W.heap.size 1 none (0 - 0) ((strV []).drop (0 * 1))) := Lib.hid fun W hW => Reads.none_
              have HFb := Lib.hid hb0.size
              clear hro2 hb0
              go_wp2_with (first
                | (at_builtin
                   refine wpList_append_any _ rfl (.tmp 30) (.tmp 33) _ rfl wd.heap.size 9 i0 _ 1 16 Tryz.underlying24 hi0 hz0 hz1 hz2 rfl (by omega) (.slice none 0 0) 0 [] rfl (own_none _ _ _) wd.heap.size none 0 0 _ rfl (HR1.out _ (Below.refl _ _)) HO1.out (by simp only [maxLen]; omega) (by omega) (Nat.le_refl _) ?_
                   intro v1 w3 hown3 hg3 _
                   simp only [Nat.zero_add, List.nil_append] at hown3
                   have hb3 := (Below.refl wd.heap.size wd).grown hg3 (Nat.le_refl _) (by simp [Value.ownBlock])
                   have HO3 := Lib.hid hown3
                   have cx3 := HSl.out w3 (below_two hb2 hb3)
                   clear hown3 hg3)
                | (at_builtin
                   refine wpList_append_own _ rfl (.tmp 35) (.tmp 40) 24 rfl wd.heap.size 9 i0 (.string ⟨#[]⟩) 1 16 Tryz.underlying24 hi0 hz0 hz1 hz2 rfl (by decide) _ _ _ rfl (HO3.out.alloc _) ⟨w3.heap.size, 0, none⟩ 1 1 [.string x] rfl rfl (cell_one_new _ _ _) (by simp [Value.oneCell']) (by simp only [maxLen]; omega) (by omega) (size_alloc1 hb3) ?_
                   intro v2 w4 hown4 hg4 _
                   have hb4 := below_app1 hb3 HO3.out hg4
                   have HO4 := Lib.hid hown4
                   clear hown4 hg4)
                | (at_builtin
                   go_must (refine wpList_append_any _ rfl (.tmp 42) (.tmp 45) _ rfl wd.heap.size 9 i0 _ 1 16 Tryz.underlying24 hi0 hz0 hz1 hz2 rfl (by omega) _ (0 + 1) _ rfl HO4.out w4.heap.size _ (0 - 0) (0 - 0) _ rfl (HR2.out _ hb4) HO2.out (by simp only [maxLen]; omega) (by omega) hb4.size ?_)
                   intro v3 w5 hown5 hg5 _
                   have hb5 := below_app hb4 HO4.out hg5
                   have HO5 := Lib.hid (HFin.out _ v3 w5 HFb.out hown5)
                   clear hown5 hg5)
                | fail)
              all_goals
                have hbf := below_two (below_two hb hb2) hb5
                go_roundw
                case rel => exact ⟨i + 1, by omega, by go_num, HO5.out, hbf⟩
                case measure => simp [intOf]; omega
          | some ado =>
            subst hAo
            rcases hway with ⟨⟨d1, d2⟩, ado', y, hA, cy, q1⟩ | ⟨d1, d2⟩
            · obtain rfl := Option.some.inj hA
              go_wp2
              go_quiet (fail)
              have hb2 := below_drewN (below_drewN (Below.refl wr.heap.size wr) m) nq
              have hb0 := below_two hb hb2
              have hro2 : Reads ((wr.drewN m).drewN nq) ((wr.drewN m).drewN nq).heap.size 1 (some ado) o.length (strV o) := hro
              generalize (wr.drewN m).drewN nq = wd at *
              have HRO := Lib.hid hro2
              have HR1 : Hid (∀ W, Below wd.heap.size wd W → Reads W W.heap.size 1 (some ado) k ((strV o).take (k * 1))) := Lib.hid fun W hW => ((HRO.out.below hW).more hW.size).take2 hk
              have HR2 : Hid (∀ W, Below wd.heap.size wd W → Reads W W.heap.size 1 (some (ado.add k)) (o.length - k) ((strV o).drop (k * 1))) := Lib.hid fun W hW => by
                have := ((HRO.out.below hW).more hW.size).cut (k := k) hk hoc
                rw [if_neg (by omega)] at this
                simpa using this
              have HFb := Lib.hid hb0.size
              clear hro2 hb0
              go_wp2_with (first
                | (at_builtin
                   refine wpList_append_any _ rfl (.tmp 30) (.tmp 33) _ rfl wd.heap.size 9 i0 _ 1 16 Tryz.underlying24 hi0 hz0 hz1 hz2 rfl (by omega) (.slice none 0 0) 0 [] rfl (own_none _ _ _) wd.heap.size (some ado) k co _ rfl (HR1.out _ (Below.refl _ _)) HO1.out (by simp only [maxLen]; omega) (by omega) (Nat.le_refl _) ?_
                   intro v1 w3 hown3 hg3 _
                   simp only [Nat.zero_add, List.nil_append] at hown3
                   have hb3 := (Below.refl wd.heap.size wd).grown hg3 (Nat.le_refl _) (by simp [Value.ownBlock])
                   have HO3 := Lib.hid hown3
                   have cx3 := HSl.out w3 (below_two hb2 hb3)
                   clear hown3 hg3)
                | (at_builtin
                   refine wpList_append_own _ rfl (.tmp 35) (.tmp 40) 24 rfl wd.heap.size 9 i0 (.string ⟨#[]⟩) 1 16 Tryz.underlying24 hi0 hz0 hz1 hz2 rfl (by decide) _ _ _ rfl (HO3.out.alloc _) ⟨w3.heap.size, 0, none⟩ 1 1 [.string x] rfl rfl (cell_one_new _ _ _) (by simp [Value.oneCell']) (by simp only [maxLen]; omega) (by omega) (size_alloc1 hb3) ?_
                   intro v2 w4 hown4 hg4 _
                   have hb4 := below_app1 hb3 HO3.out hg4
                   have HO4 := Lib.hid hown4
                   clear hown4 hg4)
                | (at_builtin
                   go_must (refine wpList_append_any _ rfl (.tmp 42) (.tmp 45) _ rfl wd.heap.size 9 i0 _ 1 16 Tryz.underlying24 hi0 hz0 hz1 hz2 rfl (by omega) _ (k + 1) _ rfl HO4.out w4.heap.size _ (o.length - k) (co - k) _ rfl (HR2.out _ hb4) HO2.out (by simp only [maxLen]; omega) (by omega) hb4.size ?_)
                   intro v3 w5 hown5 hg5 _
                   have hb5 := below_app hb4 HO4.out hg5
                   have HO5 := Lib.hid (HFin.out _ v3 w5 HFb.out hown5)
                   clear hown5 hg5)
                | fail)
              all_goals
                have hbf := below_two (below_two hb hb2) hb5
                go_roundw
                case rel => exact ⟨i + 1, by omega, by go_num, HO5.out, hbf⟩
                case measure => simp [intOf]; omega
            · go_wp2
              go_quiet (fail)
              have hb2 := below_drewN (below_drewN (Below.refl wr.heap.size wr) m) nq
              have hb0 := below_two hb hb2
              have hro2 : Reads ((wr.drewN m).drewN nq) ((wr.drewN m).drewN nq).heap.size 1 (some ado) o.length (strV o) := hro
              generalize (wr.drewN m).drewN nq = wd at *
              have HRO := Lib.hid hro2
              have HR1 : Hid (∀ W, Below wd.heap.size wd W → Reads W W.heap.size 1 (some ado) k ((strV o).take (k * 1))) := Lib.hid fun W hW => ((HRO.out.below hW).more hW.size).take2 hk
              have HR2 : Hid (∀ W, Below wd.heap.size wd W → Reads W W.heap.size 1 (if co = k then some ado else some (ado.add k)) (o.length - k) ((strV o).drop (k * 1))) := Lib.hid fun W hW => by
                have := ((HRO.out.below hW).more hW.size).cut (k := k) hk hoc
                simpa using this
              have HFb := Lib.hid hb0.size
              clear hro2 hb0
              go_wp2_with (first
                | (at_builtin
                   refine wpList_append_any _ rfl (.tmp 30) (.tmp 33) _ rfl wd.heap.size 9 i0 _ 1 16 Tryz.underlying24 hi0 hz0 hz1 hz2 rfl (by omega) (.slice none 0 0) 0 [] rfl (own_none _ _ _) wd.heap.size (some ado) k co _ rfl (HR1.out _ (Below.refl _ _)) HO1.out (by simp only [maxLen]; omega) (by omega) (Nat.le_refl _) ?_
                   intro v1 w3 hown3 hg3 _
                   simp only [Nat.zero_add, List.nil_append] at hown3
                   have hb3 := (Below.refl wd.heap.size wd).grown hg3 (Nat.le_refl _) (by simp [Value.ownBlock])
                   have HO3 := Lib.hid hown3
                   have cx3 := HSl.out w3 (below_two hb2 hb3)
                   clear hown3 hg3)
                | (at_builtin
                   refine wpList_append_own _ rfl (.tmp 35) (.tmp 40) 24 rfl wd.heap.size 9 i0 (.string ⟨#[]⟩) 1 16 Tryz.underlying24 hi0 hz0 hz1 hz2 rfl (by decide) _ _ _ rfl (HO3.out.alloc _) ⟨w3.heap.size, 0, none⟩ 1 1 [.string x] rfl rfl (cell_one_new _ _ _) (by simp [Value.oneCell']) (by simp only [maxLen]; omega) (by omega) (size_alloc1 hb3) ?_
                   intro v2 w4 hown4 hg4 _
                   have hb4 := below_app1 hb3 HO3.out hg4
                   have HO4 := Lib.hid hown4
                   clear hown4 hg4)
                | (at_builtin
                   go_must (refine wpList_append_any _ rfl (.tmp 42) (.tmp 45) _ rfl wd.heap.size 9 i0 _ 1 16 Tryz.underlying24 hi0 hz0 hz1 hz2 rfl (by omega) _ (k + 1) _ rfl HO4.out w4.heap.size _ (o.length - k) (co - k) _ rfl (HR2.out _ hb4) HO2.out (by simp only [maxLen]; omega) (by omega) hb4.size ?_)
                   intro v3 w5 hown5 hg5 _
                   have hb5 := below_app hb4 HO4.out hg5
                   have HO5 := Lib.hid (HFin.out _ v3 w5 HFb.out hown5)
                   clear hown5 hg5)
                | fail)
              all_goals
                have hbf := below_two (below_two hb hb2) hb5
                go_roundw
                case rel => exact ⟨i + 1, by omega, by go_num, HO5.out, hbf⟩
                case measure => simp [intOf]; omega
    · have hlt2 : ¬ ((i : Int) < l.length) := by omega
      have hil : i = l.length := by omega
      have HT : Hid (l.take i = l) := Lib.hid (by rw [hil, List.take_length])
      rw [HT.out] at hown
      have HO := Lib.hid (HP.out _ _ hown hb)
      clear hil hown
      go_wp2
      go_ret
      exact HO.out
end Go.Proofs.YteilefpjfbholaaGreatDoor
