/-
  table.Make where hosts and size are right.
-/
import Derived.Test.YtbbbnnooaaelmaaDoorTabMap
import Derived.Test.YtbbbnnooaaelmaaDoorSize
import Derived.Test.YtbbbnnooaaelmaaDoorRepeat
import Derived.Test.YtbbbnnooaaelmaaDoorSorted
import Derived.Deep.LoopGhost
import Derived.Deep.CutBlock
import Derived.Deep.DeepCutAuto
namespace Go.Proofs.YtbbbnnooaaelmaaDoor
open Go.RowKit Go.Maps

def tableOf (l : List ByteArray) (n : Nat) : List Value := outV l (sortB l) (table (sortB l) n)
def MakeGood (l : List ByteArray) (n : Nat) (w : World) (e : Ending) (w' : World) : Prop :=
  ∃ g, e = .returned (.tuple #[.slice (some ⟨g, 0, none⟩) n n, .nilIface]) ∧ Blk w' g 3 (tableOf l n).toArray ∧ w.heap.size ≤ g ∧ Below w.heap.size w w'
def PtrLink (names : List ByteArray) (f : ByteArray → Option Nat) (gs : Nat → Nat) (k : Nat) : Prop := ∀ j, j < k → f (nmAt names j) = some (gs j)
theorem nmAt_eq {names : List ByteArray} {k : Nat} (hk : k < names.length) : nmAt names k = names[k] := by
  unfold nmAt; rw [List.getD_eq_getElem?_getD, List.getElem?_eq_getElem hk]; rfl
def Taken (T : List Int) (p : Nat) : Prop := ¬ T.getD p 0 < 0
instance (T : List Int) (p : Nat) : Decidable (Taken T p) := by unfold Taken; infer_instance
theorem PtrIs.lt {b n : Nat} {f : ByteArray → Option Nat} {w : World} (h : PtrIs b n f w) : b < w.heap.size := by
  obtain ⟨D, ho, _⟩ := h; exact ho.lt
theorem PtrLink.more {names : List ByteArray} {f : ByteArray → Option Nat} {gs : Nat → Nat} {k g : Nat} (h : PtrLink names f gs k) (hn : names.Nodup) (hk : k < names.length) :
    PtrLink names (fun x => if x = names[k] then some g else f x) (fun x => if x = k then g else gs x) (k + 1) := by
  intro j hj
  by_cases h1 : j = k
  · subst h1
    simp only [if_pos, nmAt_eq hk]
  · have hne : ¬ nmAt names j = names[k] := by
      rw [nmAt_eq (by omega)]
      exact List.pairwise_iff_getElem.1 hn j k (by omega) hk (by omega)
    simp only [if_neg hne, if_neg h1]
    exact h j (by omega)

theorem mkst_next {W w1 : World} {l names : List ByteArray} {n b ob : Nat} {f : ByteArray → Option Nat} {gs cs : Nat → Nat} {T : List Int} (h : MkSt W w1 l names n b ob f gs cs T) {j : Nat} (hj : j < names.length) (hn : 2 ≤ n) (hn5 : n ≤ 503) :
    ∃ (p : Nat) (W' : World), p < n ∧ Hid (p = rowAt (nmAt names j) n (cs j)) ∧ Hid (MkSt W' w1 l names n b ob f gs (fun x => if x = j then cs j + 1 else cs x) T) ∧
      Hid (Calls Tryd.prog 65 #[.pointer (some ⟨gs j, 0, none⟩), .int .i64 (n : Int)] W fun e w' => e = .returned (.int .i64 (p : Int)) ∧ W' = w') := by
  have hB := h.rows.blk j hj
  have hrl := rowAt_lt (nmAt names j) (cs j) hn
  have hsk := skipOf_lt (nmAt names j) hn
  have hN := next_row (gs j) (rowAt (nmAt names j) n (cs j)) (skipOf (nmAt names j) n) n W (by omega) (by omega) hn hn5 (hB.cell 0) (hB.cell 1) (hB.frozen 0)
  unfold NextPost at hN
  rw [← rowAt_succ] at hN
  exact ⟨_, _, hrl, Lib.hid rfl, Lib.hid (h.next hj), Lib.hid (hN.mono fun e w' ⟨h1, h2⟩ => ⟨h1, h2.symm⟩)⟩
theorem mkst_load {W w1 : World} {l names : List ByteArray} {n b ob t p : Nat} {f : ByteArray → Option Nat} {gs cs : Nat → Nat} (h : MkSt W w1 l names n b ob f gs cs (tab names n t)) (hT : TabOK names.length n t (tab names n t)) (hs : ∀ x ∈ names, x ∈ l) (hp : p < n) :
    ∃ sv : Int, W.cell? ⟨ob, p, none⟩ = some (.int .i64 sv) ∧ W.frozen? ⟨ob, p, none⟩ = false ∧ decide (sv ≥ 0) = decide (Taken (tab names n t) p) := by
  have hl2 : p < (tab names n t).length := by rw [hT.len]; exact hp
  refine ⟨_, (h.out.cell p).trans (outV_get hl2), h.out.frozen p, ?_⟩
  unfold Taken
  refine slot_free (m := names.length) ?_ rfl hs
  rw [List.getD_eq_getElem?_getD, List.getElem?_eq_getElem hl2]
  exact hT.lt _ (List.getElem_mem hl2)
set_option maxRecDepth 100000 in
set_option maxHeartbeats 8000000 in
theorem make_ok (ea : Nat → Addr) (A : Option Addr) (c : Nat) (l : List ByteArray) (n : Nat) (w : World) (hE : Errs3 ea w) (hZ : ErrsZ ea w) (hr : Reads w w.heap.size 1 A l.length (strV l)) (hlc : l.length ≤ c) (hl : l.length ≤ maxLen) (hs : ∀ s ∈ l, s.size ≤ maxLen) (h0 : 0 < l.length) (ho : hostsFault l = none) (hn : 2 ≤ n) (hn5 : n ≤ 503) (hd : noDiv n) :
    Calls Tryd.prog 14 #[.slice A l.length c, .int .i64 (n : Int)] w (MakeGood l n w) := by
  obtain ⟨h12, hnm, hnd⟩ := hostsFault_none.1 ho
  have hmm := @run_makeMap Tryd.prog
  have hsl := sortB_length l
  have HS : Hid (Calls Tryd.prog 29 #[.slice A l.length c] w fun e w' => ∃ A' cap, e = .returned (.tuple #[.slice A' (sortB l).length cap, .nilIface]) ∧ w'.ownsRow w.heap.size 9 1 (.slice A' (sortB l).length cap) (sortB l).length (strV (sortB l)) ∧ Below w.heap.size w w') :=
    Lib.hid ((mixSorted_ok ea A c l w hE hr hlc hl hs ho).mono fun e w' ⟨A', cap, he, h2, hb⟩ => ⟨A', cap, by rw [hsl]; exact he, by rw [hsl]; exact h2, hb⟩)
  have HZ : Hid (∀ W, Below w.heap.size w W → Calls Tryd.prog 62 #[.int .i64 (n : Int)] W fun e w' => e = .returned .nilIface ∧ W = w') := Lib.hid fun W hW => by
    have := size_any ea (n : Int) W (hZ.below hW)
    unfold SizePost at this
    rw [show sizeFault (n : Int) = none by unfold sizeFault; rw [if_neg (by omega), if_pos (by simpa using hd)]] at this
    exact this
  have HIX : Hid (∀ x ∈ l, ∀ W, Below w.heap.size w W → Calls Tryd.prog 66 #[.slice A l.length c, .string x] W fun e w' => e = .returned (.int .i64 (idx l x)) ∧ W = w') :=
    Lib.hid fun x _ W hW => index_strings A c W.heap.size l x W ((hr.below hW).more hW.size) hl
  have hperm := (isSort_sortB l).1
  have hsnd : (sortB l).Nodup := hperm.nodup_iff.2 hnd
  have HMem := Lib.hid (fun x (hx : x ∈ sortB l) => (hperm.mem_iff.1 hx : x ∈ l))
  have HSz := Lib.hid (fun x (hx : x ∈ sortB l) => hs x (hperm.mem_iff.1 hx))
  have HT : Hid (∀ g e w', e = .returned (.tuple #[.slice (some ⟨g, 0, none⟩) n n, .nilIface]) → Blk w' g 3 (outV l (sortB l) (tab (sortB l) n n)).toArray → w.heap.size ≤ g → Below w.heap.size w w' → MakeGood l n w e w') := Lib.hid fun g e w' h1 h2 h3 h4 => ⟨g, h1, h2, h3, h4⟩
  have hm0 : 0 < (sortB l).length := by omega
  have hm12 : (sortB l).length ≤ 12 := by omega
  generalize sortB l = names at *
  have HTab := Lib.hid (fun t (ht : t ≤ n) => tab_ok names hm0 hn hd t ht)
  have HFF := Lib.hid (fun s t (ht : t < n) => firstFree_spec (s := s) hn hd (tab_ok names hm0 hn hd t (by omega)).len (by rw [(tab_ok names hm0 hn hd t (by omega)).free]; omega))
  have HND := Lib.hid hsnd
  have z0 : ((l.length : Int) == 0) = false := beq_eq_false_iff_ne.2 (by omega)
  have z1 : ¬ l = [] := fun e => by simp [e] at h0
  have HD := Lib.hid hd
  clear hE hZ hr hs ho hnm hnd hperm hsnd hsl hd
  go_enter Tryd.func14, Tryd.ntmps14
  go_wp2_with fail
  refine HS.out.mono ?_
  rintro e w1 ⟨A1, c1, rfl, ho1, hb1⟩
  have HR1 := Lib.hid (Reads.of_own ho1)
  clear ho1
  go_wp2_with fail
  refine (HZ.out _ hb1).mono ?_
  rintro e w2 ⟨rfl, rfl⟩
  go_wp2_with fail
  have hM0 := PtrIs.made w1
  have hbM : Below w1.heap.size w1 (w1.alloc (.map #[] 0)) := (Below.refl _ _).alloc (Nat.le_refl _) _
  go_loopg [38] names.length (fun g kv wr => ∃ (k : Nat) (f : ByteArray → Option Nat) (gs cs : Nat → Nat), k + g = names.length ∧ kv = .int .i64 (k : Int) ∧ PtrIs w1.heap.size k f wr ∧ Hid (PtrLink names f gs k) ∧ Hid (RowsIs wr (w1.heap.size + 1) names n k gs cs) ∧ Hid (∀ j, j < k → cs j = 0) ∧ Below w1.heap.size w1 wr)
  case atStart => exact ⟨0, _, fun _ => 0, fun _ => 0, by omega, rfl, hM0, Lib.hid fun j h => absurd h (by omega), Lib.hid (RowsIs.none_ _ _ _ _ _ _), Lib.hid fun j h => absurd h (by omega), hbM⟩
  case round =>
    obtain ⟨k, f, gs, cs, hkg, rfl, hM, hL, hR, hcs, hb⟩ := hrel
    by_cases hlt : k < names.length
    · have hlt2 : (k : Int) < names.length := by omega
      obtain ⟨ad, rfl, hS⟩ := strAt_of ((HR1.out.below hb).more hb.size) hlt
      have hsz := HSz.out _ (List.getElem_mem hlt)
      have c0 := hS wr (Below.refl _ _)
      have HRow := Lib.hid (fun W => rowOf_any names[k] n W hsz hn hn5)
      unfold RowOfPost at HRow
      have HLM := Lib.hid (fun g => hL.out.more (g := g) HND.out hlt)
      have HEq := Lib.hid (nmAt_eq hlt)
      generalize names[k] = x at *
      clear hS
      go_wp2_with fail
      refine (HRow.out _).mono ?_
      rintro e w3 ⟨rfl, hb3⟩
      have hR3 := hR.out.below hb3
      have hM3 := hM.below hb3
      have hb13 := below_two hb hb3
      have hgs : ∀ j, j < k → gs j < w3.heap.size := fun j hj => Nat.lt_of_lt_of_le (hR.out.blk j hj).lt hb3.size
      have hBn := Blk.new w3 92 (rowV x n 0)
      have hM4 := hM3.kept (World.grownBy_alloc w3 (.cells (rowV x n 0) 92) none) (by simp)
      have hR4 := hR3.kept (World.grownBy_alloc w3 (.cells (rowV x n 0) 92) none) (by simp)
      have hb14 := hb13.alloc hb13.size (.cells (rowV x n 0) 92)
      have hk12 : k < maxLen := by unfold maxLen; omega
      have HR4 := Lib.hid hR4
      have HGs := Lib.hid hgs
      have HBn := Lib.hid hBn
      have HB14 := Lib.hid hb14
      have hb1lt : w1.heap.size < w3.heap.size := by have := hM3.lt; omega
      clear hR hR3 hM hM3 hR4 hgs hBn hb14 hb3 hb13
      unfold rowV at hM4
      go_wp2_with (first
        | (at_mapUpdate
           go_must (refine wp_ptr_put rfl _ _ _ rfl rfl hM4 x rfl w3.heap.size rfl hsz hk12 ?_)
           intro w4 hM5 hg4)
        | fail)
      have hR5 := HR4.out.kept hg4 (fun g e => by cases e; omega)
      have hB5 := HBn.out.grown hg4 (fun e => by injection e with e; omega)
      have hb5 := HB14.out.grown hg4 (by have := HB14.out.size; exact this) (fun g e => by cases e; exact Nat.le_refl _)
      rw [← HEq.out] at hB5
      have hR6 := hR5.more (g := w3.heap.size) (by omega) (fun j hj => by have := HGs.out j hj; omega) hB5
      have HR6 := Lib.hid hR6
      have HC0 : Hid (∀ j, j < k + 1 → (fun y => if y = k then 0 else cs y) j = 0) := Lib.hid fun j hj => by
        by_cases h1 : j = k
        · simp [h1]
        · simp only [if_neg h1]; exact hcs.out j (by omega)
      have HL6 := Lib.hid (HLM.out w3.heap.size)
      clear hR5 hB5 hR6 hcs hL
      go_roundg (names.length - (k + 1))
      case rel => exact ⟨k + 1, _, _, _, by omega, by go_num, hM5, HL6, HR6, HC0, hb5⟩
      case measure => omega
    · obtain rfl : k = names.length := by omega
      have hge : ¬ (names.length : Int) < names.length := by omega
      have hR0 := hR.out
      have hbl := hb.alloc hb.size (.cells #[.int .i64 (-1)] 3)
      have hc0 : (wr.alloc (.cells #[.int .i64 (-1)] 3)).cell? ⟨wr.heap.size, 0, none⟩ = some (.int .i64 (-1)) := (Blk.new wr _ _).cell 0
      have HRep := Lib.hid (repeat_any wr.heap.size n (wr.alloc (.cells #[.int .i64 (-1)] 3)) (by omega) (by omega) (by simp) hc0)
      unfold RepPost at HRep
      have hba : Below wr.heap.size wr (wr.alloc (.cells #[.int .i64 (-1)] 3)) := (Below.refl _ _).alloc (Nat.le_refl _) _
      have HPst : Hid (∀ ob w5, Blk w5 ob 3 (List.replicate n (Value.int .i64 (-1))).toArray → (wr.alloc (.cells #[.int .i64 (-1)] 3)).heap.size ≤ ob → Below (wr.alloc (.cells #[.int .i64 (-1)] 3)).heap.size (wr.alloc (.cells #[.int .i64 (-1)] 3)) w5 →
          MkSt w5 w1 l names n w1.heap.size ob f gs (fun _ => 0) (tab names n 0) ∧ Below w1.heap.size w1 w5) := Lib.hid fun ob w5 h1 h2 h3 => by
        have hbx := below_two hba h3
        have hR5 := hR0.below hbx
        have e : (wr.alloc (.cells #[.int .i64 (-1)] 3)).heap.size = wr.heap.size + 1 := by simp
        have hml := hM.lt
        refine ⟨⟨hM.below hbx, ⟨hR5.inj, hR5.base, fun j hj => ?_⟩, by rw [outV_start]; exact h1, below_two hb hbx, fun j hj => ?_, by omega⟩, below_two hb hbx⟩
        · have := hR5.blk j hj
          rwa [hcs.out j hj] at this
        · have := (hR0.blk j hj).lt
          omega
      have HL := Lib.hid hL.out
      clear hR hR0 hbl hc0 hba hM hcs hL hb
      go_wp2_with fail
      refine HRep.out.mono ?_
      rintro e w5 ⟨ob, rfl, hB5, hob, hb5⟩
      obtain ⟨hSt, hb15⟩ := HPst.out ob w5 hB5 hob hb5
      have HSt := Lib.hid hSt
      clear hSt hB5 hob hb5
      go_wp2_with fail
      go_loopg [14] n (fun g lv wr => ∃ (t : Nat) (cs : Nat → Nat), g + t = n ∧ lv = .int .i64 ((n - t : Nat) : Int) ∧ Hid (t < n → t % names.length = 0) ∧ Hid (MkSt wr w1 l names n w1.heap.size ob f gs cs (tab names n t)) ∧ Hid (Passed names n (tab names n t) cs))
      case atStart => exact ⟨0, _, by omega, by simp, Lib.hid fun _ => Nat.zero_mod _, HSt, Lib.hid (Passed.start _ _ _)⟩
      case round =>
        obtain ⟨t0, cs, hg, rfl, ht0, hS0, hP0⟩ := hrel
        by_cases hlt : t0 < n
        · have hlt2 : ((n - t0 : Nat) : Int) > 0 := by omega
          have b53 : decide (0 < n - t0) = true := by simp; omega
          have b53b : decide (t0 < n) = true := by simp; omega
          go_wp2_with fail
          obtain ⟨wo, rfl⟩ : ∃ wo : World, wo = wr := ⟨_, rfl⟩
          obtain ⟨g0, rfl⟩ : ∃ g0 : Nat, g0 = gk := ⟨_, rfl⟩
          go_loopg [14, 56] names.length (fun g lv kv wi => ∃ (k t : Nat) (cs : Nat → Nat), g + k = names.length ∧ t ≤ n ∧ t0 ≤ t ∧ Hid (0 < k → t0 < t) ∧ kv = .int .i64 (k : Int) ∧ lv = .int .i64 ((n - t : Nat) : Int) ∧ Hid (t < n → t % names.length = k % names.length) ∧ Hid (MkSt wi w1 l names n w1.heap.size ob f gs cs (tab names n t)) ∧ Hid (Passed names n (tab names n t) cs))
          case atStart => exact ⟨0, t0, cs, by omega, by omega, Nat.le_refl _, Lib.hid fun h => absurd h (by omega), rfl, rfl, Lib.hid fun h => by rw [ht0.out h, Nat.zero_mod], hS0, hP0⟩
          case round =>
            obtain ⟨k, t, cs, hgk, htn, ht0t, hprog, rfl, rfl, hmod, hS, hP⟩ := hrel
            by_cases hkl : k < names.length
            · have hkl2 : (k : Int) < names.length := by omega
              obtain ⟨ad, rfl, hSA⟩ := strAt_of ((HR1.out.below hS.out.low).more hS.out.low.size) hkl
              have hsz := HSz.out _ (List.getElem_mem hkl)
              have hmem := HMem.out _ (List.getElem_mem hkl)
              have HEq := Lib.hid (nmAt_eq hkl)
              have cs0 := hSA wr (Below.refl _ _)
              by_cases htlt : t < n
              · have z14 : (((n - t : Nat) : Int) == 0) = false := beq_eq_false_iff_ne.2 (by omega)
                have z14b : ¬ (n - t = 0) := by omega
                have hmodk : t % names.length = k := by
                  have := hmod.out htlt
                  rwa [Nat.mod_eq_of_lt hkl] at this
                obtain ⟨hff1, hff2, hff3⟩ := HFF.out (nmAt names k) t htlt
                have hPass := hP.out
                obtain ⟨hcn, hpass⟩ := hPass k hkl
                have hckn : cs k < n := by
                  rcases Nat.lt_or_ge (firstFree (nmAt names k) n (tab names n t)) (cs k) with h | h
                  · exact absurd hff2 (hpass _ h)
                  · omega
                have hlk := HL.out k hkl
                have HTk := Lib.hid (HTab.out t (by omega))
                obtain ⟨ix, hix⟩ : ∃ ix : Int, ix = idx l names[k] := ⟨_, rfl⟩
                have HIX2 : Hid (∀ W, Below w.heap.size w W → Calls Tryd.prog 66 #[.slice A l.length c, .string names[k]] W fun e w' => e = .returned (.int .i64 ix) ∧ W = w') := Lib.hid (by rw [hix]; exact HIX.out _ hmem)
                have HIxE : Hid (idx l (nmAt names k) = ix) := Lib.hid (by rw [hix, HEq.out])
                have HPass : Hid (∀ i, i < cs k → Taken (tab names n t) (rowAt (nmAt names k) n i)) := Lib.hid hpass
                have HFF2 : Hid (¬ Taken (tab names n t) (rowAt (nmAt names k) n (firstFree (nmAt names k) n (tab names n t)))) := Lib.hid fun h => h hff2
                have HFF1 := Lib.hid hff1
                have HFA := Lib.hid (fun c (h1 : c < n) (h2 : ∀ i, i < c → Taken (tab names n t) (rowAt (nmAt names k) n i)) (h3 : ¬ Taken (tab names n t) (rowAt (nmAt names k) n c)) => firstFree_at (s := nmAt names k) (n := n) (i := c) (out := tab names n t) h1 h2 (Classical.not_not.1 h3))
                have HPs := Lib.hid (fun c (h1 : c < n) (h2 : firstFree (nmAt names k) n (tab names n t) = c) (h3 : ∀ i, i < c → Taken (tab names n t) (rowAt (nmAt names k) n i)) => (show Passed names n (tab names n (t + 1)) (fun x => if x = k then c + 1 else cs x) from by
                  have := Passed.turn (t := t) (c := c) hn hP.out h1 (by rw [hmodk]; exact h2) (by rw [hmodk]; exact h3)
                  rwa [hmodk] at this))
                have HTN := Lib.hid (fun c (h2 : firstFree (nmAt names k) n (tab names n t) = c) => (show tab names n (t + 1) = (tab names n t).set (rowAt (nmAt names k) n c) ((k : Nat) : Int) from by
                  have := tab_next (names := names) (n := n) (t := t) (c := c) (by rw [hmodk]; exact h2)
                  rwa [hmodk] at this))
                have hptr := hS.out.ptr
                rw [HEq.out] at hlk
                obtain ⟨p0, w6, hp0, hpe0, HS1, HX1⟩ := mkst_next hS.out hkl hn hn5
                have HMod := Lib.hid hmodk
                have HCk := Lib.hid hckn
                clear hSA hff1 hff2 hff3 hPass hpass hP hmem hS hix hcn hckn hmodk hmod
                generalize names[k] = x at *
                go_wp2_with (first
                  | (at_lookup
                     go_must (refine wp_ptr_look rfl _ _ rfl rfl hptr x rfl hsz (gs k) hlk ?_))
                  | fail)
                refine HX1.out.mono ?_
                rintro e w7 ⟨rfl, rfl⟩
                go_upto_block 6 with fail
                obtain ⟨wq, rfl⟩ : ∃ wq : World, wq = wr := ⟨_, rfl⟩
                obtain ⟨g1, rfl⟩ : ∃ g1 : Nat, g1 = gk := ⟨_, rfl⟩
                go_cut [17] (fun s17 wx => ∃ c p : Nat, c < n ∧ p < n ∧ s17 = .int .i64 (p : Int) ∧ Hid (p = rowAt (nmAt names k) n c) ∧ Hid (MkSt wx w1 l names n w1.heap.size ob f gs (fun x => if x = k then c + 1 else cs x) (tab names n t)) ∧ Hid (∀ i, i < c → Taken (tab names n t) (rowAt (nmAt names k) n i)) ∧ Hid (¬ Taken (tab names n t) (rowAt (nmAt names k) n c)))
                case first =>
                  go_wp2_with fail
                  go_loopg [17] (n - cs k) (fun g kv wi => ∃ c p : Nat, g + c = n ∧ c < n ∧ p < n ∧ kv = .int .i64 (p : Int) ∧ Hid (p = rowAt (nmAt names k) n c) ∧ Hid (MkSt wi w1 l names n w1.heap.size ob f gs (fun x => if x = k then c + 1 else cs x) (tab names n t)) ∧ Hid (∀ i, i < c → Taken (tab names n t) (rowAt (nmAt names k) n i)))
                  case atStart => exact ⟨cs k, p0, by have := HCk.out; omega, HCk.out, hp0, rfl, hpe0, HS1, HPass⟩
                  case round =>
                    obtain ⟨c', p, hgc, hcn', hpn, rfl, hpe, hS2, hall⟩ := hrel
                    obtain ⟨sv, hcell, _, hfr⟩ := mkst_load hS2.out HTk.out HMem.out hpn
                    have hrc2 : (p : Int) < n := Int.ofNat_lt.2 hpn
                    have hptr2 := hS2.out.ptr
                    by_cases hfree : Taken (tab names n t) p
                    case neg =>
                      rw [decide_eq_false hfree] at hfr
                      have HFr : Hid (¬ Taken (tab names n t) (rowAt (nmAt names k) n c')) := Lib.hid (by rw [← hpe.out]; exact hfree)
                      clear hfree hptr2
                      go_wp2_with fail
                      go_meet
                      exact ⟨c', p, hcn', hpn, rfl, hpe, hS2, hall, HFr⟩
                    case pos =>
                      rw [decide_eq_true hfree] at hfr
                      have hfree2 : Taken (tab names n t) (rowAt (nmAt names k) n c') := by rw [← hpe.out]; exact hfree
                      have hlt3 : c' + 1 < n := by
                        have h1 := HFF1.out
                        rcases Nat.lt_trichotomy c' (firstFree (nmAt names k) n (tab names n t)) with h | h | h
                        · omega
                        · exact absurd (by rw [← h]; exact hfree2) HFF2.out
                        · exact absurd (hall.out _ h) HFF2.out
                      have HA2 : Hid (∀ i, i < c' + 1 → Taken (tab names n t) (rowAt (nmAt names k) n i)) := Lib.hid fun i hi => by
                        rcases Nat.lt_succ_iff_lt_or_eq.1 hi with h | rfl
                        · exact hall.out i h
                        · exact hfree2
                      obtain ⟨p2, w8, hp2, hpe2, HS3, HX2⟩ := mkst_next hS2.out hkl hn hn5
                      have HPe2 : Hid (p2 = rowAt (nmAt names k) n (c' + 1)) := Lib.hid (by have := hpe2.out; simpa using this)
                      have HS4 : Hid (MkSt w8 w1 l names n w1.heap.size ob f gs (fun x => if x = k then c' + 1 + 1 else cs x) (tab names n t)) := Lib.hid (by
                        have h3 := HS3.out
                        have hfun : (fun x => if x = k then (fun x => if x = k then c' + 1 else cs x) k + 1 else (fun x => if x = k then c' + 1 else cs x) x) = (fun x => if x = k then c' + 1 + 1 else cs x) := by
                          funext x
                          by_cases hxk : x = k
                          · simp [hxk]
                          · simp [hxk]
                        rwa [hfun] at h3)
                      clear hall hfree hfree2 hS2 HS3 hpe2
                      go_wp2_with (first
                        | (at_lookup
                           go_must (refine wp_ptr_look rfl _ _ rfl rfl hptr2 x rfl hsz (gs k) hlk ?_))
                        | fail)
                      refine HX2.out.mono ?_
                      rintro e w9 ⟨rfl, rfl⟩
                      go_wp2_with fail
                      go_roundg (n - (c' + 1))
                      case rel => exact ⟨c' + 1, p2, by omega, hlt3, hp2, rfl, HPe2, HS4, HA2⟩
                      case measure => omega
                case rest =>
                  obtain ⟨c', p, hcn', hpn, rfl, hpe, hS2, hall, hfree⟩ := hcut
                  obtain ⟨sv, hcell, hfrz, _⟩ := mkst_load hS2.out HTk.out HMem.out hpn
                  have hrc2 : (p : Int) < n := Int.ofNat_lt.2 hpn
                  have hffc := HFA.out c' hcn' hall.out hfree.out
                  have HP2 := Lib.hid (HPs.out c' hcn' hffc hall.out)
                  have HS3 : Hid (MkSt (wc.setCell ⟨ob, p, none⟩ (.int .i64 ix)) w1 l names n w1.heap.size ob f gs (fun x => if x = k then c' + 1 else cs x) (tab names n (t + 1))) := Lib.hid (by
                    rw [HTN.out c' hffc, ← hpe.out, ← HIxE.out]
                    exact hS2.out.put p k)
                  have HIX3 := Lib.hid (HIX2.out wc (below_two hb1 hS2.out.low))
                  have hmod2 : Hid (t + 1 < n → (t + 1) % names.length = (k + 1) % names.length) := Lib.hid fun _ => by rw [← HMod.out, Nat.mod_add_mod]
                  have HLf : Hid (((n - t : Nat) : Int) - 1 = ((n - (t + 1) : Nat) : Int)) := Lib.hid (by omega)
                  clear hall hfree hffc hS2 hpe
                  go_wp2_with fail
                  refine HIX3.out.mono ?_
                  rintro e w8 ⟨rfl, rfl⟩
                  go_wp2_with fail
                  go_roundg (names.length - (k + 1))
                  case rel => exact ⟨k + 1, t + 1, _, by omega, by omega, by omega, Lib.hid fun _ => by omega, by go_num, by first | rfl | (rw [HLf.out]) | go_num, hmod2, HS3, HP2⟩
                  case measure => omega
              · obtain rfl : t = n := by omega
                have z14 : (((t - t : Nat) : Int) == 0) = true := beq_iff_eq.2 (by omega)
                clear hSA
                generalize names[k] = x at *
                go_wp2_with fail
                go_roundg 0
                case rel => exact ⟨t, cs, by omega, rfl, Lib.hid fun h => absurd h (by omega), hS, hP⟩
                case measure => omega
            · obtain rfl : k = names.length := by omega
              have hge3 : ¬ (names.length : Int) < names.length := by omega
              go_wp2_with fail
              go_roundg (n - t)
              case rel => exact ⟨t, cs, by omega, rfl, Lib.hid fun h => by rw [hmod.out h, Nat.mod_self], hS, hP⟩
              case measure => have := hprog.out (by omega); omega
        · obtain rfl : t0 = n := by omega
          have hge2 : ¬ ((t0 - t0 : Nat) : Int) > 0 := by omega
          have HF := Lib.hid (HT.out ob _ wr rfl hS0.out.out (by have := hS0.out.hob; have := hb1.size; omega) (below_two hb1 hS0.out.low))
          go_wp2
          go_ret2
          exact HF.out
end Go.Proofs.YtbbbnnooaaelmaaDoor
