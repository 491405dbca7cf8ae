/-
  Flows are sorted: the closure of List, slices.SortFunc, slices.SortedFunc.
-/
import Derived.Test.YtnmkdmehljkedaaGreatDoorFlowSeq
import Derived.Test.YtnmkdmehljkedaaGreatDoorCmpNum
import Derived.Test.YtnmkdmehljkedaaGreatDoorOwnRows
import Derived.Test.YtnmkdmehljkedaaGreatDoorShelf
import Derived.Shelf.SlSortCmp.WholeK
import Derived.Shelf.SlSortCmp.NoneTotal
namespace Go.Proofs.YtnmkdmehljkedaaGreatDoor
open Go.RowKit Go.Sort Go.Shelf

def cfFl (x y : Fl) : Int := cmpN x.key y.key
def FlGrow (v : Int) (W : World) (e : Ending) (w' : World) : Prop := e = .returned (.int .i64 v) ∧ ∃ q os', w' = grow (W.drewN q) os'
set_option maxHeartbeats 1000000 in
theorem closure_list (x y : Fl) (W : World) : Calls Tryz.prog 40 #[flV x, flV y] W (FlGrow (cfFl x y) W) := by
  have HC := fun W' => Lib.hid (cmp_u64 x.key y.key W')
  unfold cfFl
  unfold IntQ at HC
  unfold flV
  generalize cmpN x.key y.key = c at *
  go_enter Tryz.func40, Tryz.ntmps40
  go_wp2_with fail
  refine (HC _).out.mono ?_
  rintro e w1 ⟨rfl, rfl⟩
  go_wp2
  go_ret
  exact ⟨rfl, 0, _, by rw [alloc_eq_grow, alloc_eq_grow, grow_grow]; rfl⟩
theorem lt_cfFl (x y : Fl) : ltOf cfFl x y = decide (x.key < y.key) := by
  unfold ltOf cfFl cmpN
  by_cases h1 : x.key < y.key
  · simp [h1]
  · by_cases h2 : y.key < x.key <;> simp [h1, h2]
theorem swo_fl : SWO (ltOf cfFl) where
  irrefl x := by rw [lt_cfFl]; simp
  trans x y z h1 h2 := by rw [lt_cfFl] at *; simp at *; omega
  ntrans x y z h1 h2 := by rw [lt_cfFl] at *; simp at *; omega
theorem flsC_at (l : List Fl) (j : Nat) : (flsC l)[j]? = (l[j / 3]?).bind fun x => (flC x)[j % 3]? := by
  by_cases h : j / 3 < l.length
  · obtain ⟨h0, h1, h2⟩ := flsC_get h
    rw [List.getElem?_eq_getElem h]
    have e : j = j / 3 * 3 + j % 3 := by omega
    have h3 : j % 3 = 0 ∨ j % 3 = 1 ∨ j % 3 = 2 := by omega
    rcases h3 with h3 | h3 | h3
    · rw [h3] at e ⊢
      rw [Nat.add_zero] at e
      rw [← e] at h0
      rw [h0]; rfl
    · rw [h3] at e ⊢
      rw [← e] at h1
      rw [h1]; rfl
    · rw [h3] at e ⊢
      rw [← e] at h2
      rw [h2]; rfl
  · rw [List.getElem?_eq_none (show (flsC l).length ≤ j by rw [flsC_length]; omega), List.getElem?_eq_none (show l.length ≤ j / 3 by omega)]
    rfl
instance : Inhabited Fl := ⟨flZ⟩
theorem flatK_fl (l : List Fl) : flatK flC 3 l.toArray = (flsC l).toArray := by
  apply Array.ext
  · simp [flsC_length]
  · intro i h1 h2
    have hi : i < l.length * 3 := by simpa using h1
    have hd : i / 3 < l.length := by omega
    have hg := flsC_at l i
    rw [List.getElem?_eq_getElem hd] at hg
    have hm : i % 3 < (flC l[i / 3]).length := by simp [flC]; omega
    simp only [Option.bind_some, List.getElem?_eq_getElem hm] at hg
    have h3 : i < (flsC l).length := by rw [flsC_length]; exact hi
    rw [List.getElem?_eq_getElem h3] at hg
    have hg' := Option.some.inj hg
    simp only [flatK, Array.getElem_map, Array.getElem_range, List.getElem_toArray]
    rw [hg']
    have e1 : l.toArray[i / 3]! = l[i / 3] := by simp [hd]
    rw [e1, getElem!_pos (flC l[i / 3]) (i % 3) hm]
theorem flatK_fla (d : Array Fl) : flatK flC 3 d = (flsC d.toList).toArray := by
  have := flatK_fl d.toList
  simpa using this
def FlSorted (B g n cap : Nat) (L : List Fl) (w : World) (e : Ending) (w' : World) : Prop :=
  e = .returned (.tuple #[]) ∧ w'.ownsRow B 80 3 (.slice (some ⟨g, 0, none⟩) n cap) n (flsC L) ∧ w.grownBy w' (some g)
theorem sort_flows {B g n cap : Nat} {ys L : List Fl} (w : World) (ho : w.ownsRow B 80 3 (.slice (some ⟨g, 0, none⟩) n cap) n (flsC ys)) (hn : n < 4611686018427387904) (hp : ys.Perm L) (hr : Rise L) :
    Calls Tryz.prog 58 #[.slice (some ⟨g, 0, none⟩) n cap, .func (.func 40) #[] #[]] w (FlSorted B g n cap L w) := by
  have hl : ys.length = n := by have := ho.1; rw [flsC_length] at this; omega
  subst hl
  have eg : ∀ args w, (callFunc 40 args).run Tryz.prog w = .ok (.enter 40 args) w := enters_of Tryz.func40 (by kernel_rfl) rfl
  have hcmp : CmpLays Tryz.prog 40 #[] flC 3 cfFl g 0 ys.toArray.size w := fun _ _ _ _ x y => closure_list x y _
  have hH : HoldsK flC 3 w g 0 ys.toArray := by
    unfold HoldsK
    rw [flatK_fl]
    exact own_holds ho
  have hcon := AnyQ.slices_SortFunc Tryz.sortFlow 3 Tryz.isAgg80 Tryz.sizeOf80 flC (fun _ => rfl) (fun x v hv => by simp [flC] at hv; rcases hv with rfl | rfl | rfl <;> rfl) cfFl swo_fl 40 #[] g 0 cap ys.toArray w eg hcmp hH (ho.lt g rfl).2 (by simpa using hn)
  change Calls Tryz.prog 58 _ _ _ at hcon
  refine (by simpa using hcon : Calls Tryz.prog 58 #[.slice (some ⟨g, 0, none⟩) ys.length cap, .func (.func 40) #[] #[]] w _).mono ?_
  rintro e w' ⟨rfl, d', hpd, hs, n, os, rfl⟩
  have hsz : d'.size = ys.length := by simpa using hpd.1
  have hperm : d'.toList.Perm ys := by
    have := hpd.2.2
    simp at this
    rwa [List.take_of_length_le (by simp [hsz])] at this
  have hsort : d'.toList.Pairwise fun a b => ¬ b.key < a.key := by
    rw [List.pairwise_iff_getElem]
    intro i j hi hj hij
    have := hs i j (Nat.zero_le _) hij (by simpa [hsz] using hj)
    rw [lt_cfFl] at this
    simp only [Array.length_toList] at hi hj
    rw [getElem!_pos d' j hj, getElem!_pos d' i hi] at this
    simpa using this
  have hpL := hperm.trans hp
  have hrise : Rise d'.toList := by
    have hnd : d'.toList.Nodup := hpL.nodup_iff.2 (nodup_of_rise hr)
    refine (hsort.and hnd).imp_of_mem fun {a b} ha hb h => ?_
    have : a.key ≠ b.key := fun e => h.2 (hr.inj (hpL.mem_iff.1 ha) (hpL.mem_iff.1 hb) e)
    omega
  have hEq : d'.toList = L := rise_unique hrise hr hpL
  rw [← hEq]
  have := own_put (ys := flsC d'.toList) ho (by rw [flsC_length, flsC_length, hperm.length_eq]) n os
  unfold sortWorldK putRowK
  rw [flatK_fla]
  exact ⟨rfl, this⟩
def FlsPost (L : List Fl) (w : World) (e : Ending) (w' : World) : Prop := ∃ v, e = .returned v ∧ w'.ownsRow w.heap.size 80 3 v L.length (flsC L) ∧ Below w.heap.size w w'
theorem own_none_of {w : World} {B n cap : Nat} {e : TypeId} {size : Nat} {xs : List Value} (h : w.ownsRow B e size (.slice none n cap) n xs) : n = 0 ∧ cap = 0 := by
  rcases h.2 with ⟨hv, _⟩ | ⟨g, c, cur, hv, _⟩
  · injection hv with _ h1 h2; exact ⟨h1, h2⟩
  · injection hv with h1; cases h1
theorem own_zero_of {w : World} {B n cap : Nat} {g : Addr} {e : TypeId} {size : Nat} {xs : List Value} (h : w.ownsRow B e size (.slice (some g) n cap) n xs) : g = ⟨g.block, 0, none⟩ := by
  rcases h.2 with ⟨hv, _⟩ | ⟨g', c, cur, hv, _⟩
  · cases hv
  · injection hv with h1; injection h1 with h1; rw [h1]
theorem sort_none (w : World) : Calls Tryz.prog 58 #[.slice none 0 0, .func (.func 40) #[] #[]] w fun e w' => e = .returned (.tuple #[]) ∧ w = w' := by
  have h := AnyF.slices_SortFunc_none Tryz.sortFlow none 0 (.func (.func 40) #[] #[]) w
  change Calls Tryz.prog 58 _ _ _ at h
  exact h.mono fun e w' ⟨h1, h2⟩ => ⟨h1, h2.symm⟩
set_option maxHeartbeats 1000000 in
theorem sortedFlows_any (Bm b : Nat) (L : List Fl) (hlen : L.length ≤ 1000) (w : World) (hBm : Bm < w.heap.size) (hc : w.cell? ⟨Bm, 0, none⟩ = some (.map (some b))) (hM : FlMap w b L) :
    Calls Tryz.prog 38 #[.func (.func 59) #[] #[.pointer (some ⟨Bm, 0, none⟩)], .func (.func 40) #[] #[]] w (FlsPost L w) := by
  have HC := Lib.hid (flCollect_any Bm b L hlen w hBm hc hM)
  have hr := Lib.hid hM.rise
  clear hc hM hBm
  go_enter Tryz.func38, Tryz.ntmps38
  go_wp2_with fail
  refine HC.out.mono ?_
  rintro e w1 ⟨v, ys, rfl, hp, ho, hb⟩
  have HP := Lib.hid hp
  have HO := Lib.hid ho
  have hyl := hp.length_eq
  obtain ⟨A, cap, rfl, _⟩ := own_slice ho
  clear ho hp
  cases A with
  | none =>
    obtain ⟨h0, rfl⟩ := own_none_of HO.out
    have hL : L = [] := List.eq_nil_of_length_eq_zero (by omega)
    subst hL
    have hy : ys = [] := List.eq_nil_of_length_eq_zero h0
    subst hy
    clear hyl h0
    go_wp2_with fail
    refine (sort_none _).mono ?_
    rintro e w2 ⟨rfl, rfl⟩
    go_wp2
    go_ret
    exact ⟨_, rfl, HO.out, hb⟩
  | some g =>
    obtain ⟨gb, hgb⟩ : ∃ gb : Nat, g = ⟨gb, 0, none⟩ := ⟨_, own_zero_of HO.out⟩
    subst hgb
    have HSF := Lib.hid (sort_flows (L := L) w1 HO.out (by omega) HP.out hr.out)
    have HLN := Lib.hid (fun (w2 : World) (hg : w1.grownBy w2 (some gb)) => (hb.grown hg hb.size fun k hk => by cases hk; exact (HO.out.lt gb rfl).1 : Below w.heap.size w w2))
    unfold FlSorted at HSF
    rw [hyl] at HSF
    go_wp2_with fail
    refine HSF.out.mono ?_
    rintro e w2 ⟨rfl, ho2, hg2⟩
    have hb2 := HLN.out w2 hg2
    clear hyl
    go_wp2
    go_ret
    exact ⟨_, rfl, ho2, hb2⟩
end Go.Proofs.YtnmkdmehljkedaaGreatDoor
