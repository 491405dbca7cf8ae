/-
  The reference's TableFault.
  The reference's tables: RowOf, TableFault, TableOf.
  The reference's TableOf where hosts and size are right.
  The walk of the reference's TableOf.
-/
import Derived.Test.YteilefpjfbholaaGreatDoorRefSome
import Derived.Test.YteilefpjfbholaaGreatDoorTables
import Derived.Test.YteilefpjfbholaaGreatDoorRefNumber
import Derived.Test.YteilefpjfbholaaGreatDoorRefSorted
import Derived.Deep.LoopGhost
import Derived.Deep.RegionHeld3
import Derived.Test.YteilefpjfbholaaGreatDoorRefFault
import Derived.Test.YteilefpjfbholaaGreatDoorLists
namespace Go.Proofs.YteilefpjfbholaaGreatDoor
open Go.RowKit

theorem own_away {w : World} {b size n : Nat} {e : TypeId} {v : Value} {xs : List Value} (h : w.ownsRow b e size v n xs) {p : Addr} (hp : p.block < b) (u : Value) : (w.setCell p u).ownsRow b e size v n xs :=
  h.kept (only_setCell (World.grownBy.refl w _) (.inl rfl) u) (.inr fun e => by have := (h.lt _ e).1; omega)
theorem tableFault_some (l : List ByteArray) (n : Int) : tableFault l n = match someFault l with | some f => some f | none => sizeFault n := by
  unfold tableFault someFault
  by_cases h : l.length = 0
  · rw [if_pos h, if_pos h]
  · rw [if_neg h, if_neg h]
    cases hostsFault l <;> rfl
theorem sizeFault_bare {n : Int} {f : Flt} (h : sizeFault n = some f) : f.place = none := by
  unfold sizeFault at h
  split at h
  · obtain rfl := Option.some.inj h; rfl
  · split at h
    · cases h
    · obtain rfl := Option.some.inj h; rfl
set_option maxRecDepth 100000 in
set_option maxHeartbeats 2000000 in
theorem tableFault_ref (A : Option Addr) (c B : Nat) (l : List ByteArray) (n : Int) (w : World) (hr : Reads w B 1 A l.length (strV l)) (hB : B ≤ w.heap.size) (hl : l.length ≤ maxLen) (hs : ∀ s ∈ l, s.size ≤ maxLen) :
    Calls Tryz.prog 34 #[.slice A l.length c, .int .i64 n] w (FaultPost (tableFault l n) w) := by
  have hb0 : Below w.heap.size w (w.alloc (.cells #[.int .i64 0, .int .i64 0] 87)) := (Below.refl _ _).alloc (Nat.le_refl _) _
  have HH := Lib.hid (someFault_ref A c B l (w.alloc (.cells #[.int .i64 0, .int .i64 0] 87)) (hr.alloc hB _) (by simp; omega) hl hs)
  have HB0 := Lib.hid hb0
  have HN0 := Lib.hid (Blk.new w 87 #[.int .i64 0, .int .i64 0])
  have HFE := Lib.hid (tableFault_some l n)
  clear hr hB hb0
  cases ho : someFault l with
  | some f =>
    rw [ho] at HH HFE
    have hc := someFault_code ho
    have HF : Hid (tableFault l n = some f) := Lib.hid HFE.out
    have hz : ((fCode (some f) : Int) == 0) = false := beq_eq_false_iff_ne.2 (by show (f.code : Int) ≠ 0; omega)
    unfold FaultPost at HH
    clear ho hc HFE
    obtain ⟨fc, hfc⟩ : ∃ fc : Int, (fCode (some f) : Int) = fc := ⟨_, rfl⟩
    obtain ⟨fa, hfa⟩ : ∃ fa : Int, fAt (some f) = fa := ⟨_, rfl⟩
    have HV : Hid (retFault (some f) = .agg #[.int .i64 fc, .int .i64 fa]) := Lib.hid (by unfold retFault; rw [hfc, hfa])
    rw [hfc] at HH hz
    rw [hfa] at HH
    clear hfc hfa
    go_enter Tryz.func34, Tryz.ntmps34
    go_wp2_with fail
    refine HH.out.mono ?_
    rintro e w1 ⟨rfl, hb1⟩
    have hB1 := HN0.out.below hb1 HN0.out.lt
    have c0 := hB1.cell 0
    have c1 := hB1.cell 1
    have f0 := hB1.frozen 0
    have f1 := hB1.frozen 1
    have hz1 : w.heap.size < w1.heap.size := hB1.lt
    have HB := Lib.hid (HB0.out.trans (hb1.mono HB0.out.size))
    clear hB1 hb1
    simp at c0 c1
    go_wp2
    refine bodyPost_ret (v := .agg #[.int .i64 fc, .int .i64 fa]) (by simp [results, Tryz.results34, go_sem, c0, c1, hz1]) rfl (faultPost_of HF.out (by rw [HV.out]) ?_)
    exact Below.alloc ((HB.out.setCell (p := ⟨w.heap.size, 0, none⟩) (Nat.le_refl _) _).setCell (p := ⟨w.heap.size, 1, none⟩) (Nat.le_refl _) _) (by have := HB.out.size; simpa [World.setCell] using this) _
  | none =>
    rw [ho] at HH HFE
    unfold FaultPost at HH
    have HSE := Lib.hid (fun W => sizeError_any n W)
    cases hsf : sizeFault n with
    | none =>
      have HF : Hid (tableFault l n = none) := Lib.hid (by rw [HFE.out]; exact hsf)
      have HSC : Hid (∀ W, Calls Tryz.prog 62 #[.int .i64 n] W fun e w' => e = .returned (.int .i64 0) ∧ W = w') := Lib.hid fun W => by
        have := HSE.out W
        unfold sizeCode at this
        rw [hsf] at this
        exact this
      clear ho hsf HFE HSE
      go_enter Tryz.func34, Tryz.ntmps34
      go_wp2_with fail
      refine HH.out.mono ?_
      rintro e w1 ⟨rfl, hb1⟩
      have hB1 := HN0.out.below hb1 HN0.out.lt
      have c0 := hB1.cell 0
      have c1 := hB1.cell 1
      have f0 := hB1.frozen 0
      have f1 := hB1.frozen 1
      have hz1 : w.heap.size < w1.heap.size := hB1.lt
      have HB := Lib.hid (HB0.out.trans (hb1.mono HB0.out.size))
      clear hB1 hb1
      simp at c0 c1
      go_wp2_with fail
      refine (HSC.out _).mono ?_
      rintro e w2 ⟨rfl, rfl⟩
      go_wp2
      refine bodyPost_ret (v := retFault none) (by simp [results, Tryz.results34, go_sem, retFault, fCode, fAt, c0, c1, hz1]) rfl (faultPost_of HF.out rfl ?_)
      exact Below.alloc ((HB.out.setCell (p := ⟨w.heap.size, 0, none⟩) (Nat.le_refl _) _).setCell (p := ⟨w.heap.size, 1, none⟩) (Nat.le_refl _) _) (by have := HB.out.size; simpa [World.setCell] using this) _
    | some f =>
      have HF : Hid (tableFault l n = some f) := Lib.hid (by rw [HFE.out]; exact hsf)
      have hcode := sizeFault_code hsf
      have hpl := sizeFault_bare hsf
      obtain ⟨fc, hfc⟩ : ∃ fc : Int, (f.code : Int) = fc := ⟨_, rfl⟩
      have hfp : (0 : Int) < fc := by omega
      have HV : Hid (retFault (some f) = .agg #[.int .i64 fc, .int .i64 (-1)]) := Lib.hid (by unfold retFault fCode fAt; simp only; rw [hpl, hfc])
      have HSC : Hid (∀ W, Calls Tryz.prog 62 #[.int .i64 n] W fun e w' => e = .returned (.int .i64 fc) ∧ W = w') := Lib.hid fun W => by
        have := HSE.out W
        unfold sizeCode at this
        rw [hsf] at this
        rw [← hfc]
        exact this
      clear ho hsf HFE HSE hcode hpl hfc
      go_enter Tryz.func34, Tryz.ntmps34
      go_wp2_with fail
      refine HH.out.mono ?_
      rintro e w1 ⟨rfl, hb1⟩
      have hB1 := HN0.out.below hb1 HN0.out.lt
      have HB1 := Lib.hid (HB0.out.trans (hb1.mono HB0.out.size))
      have HX := Lib.hid (hB1.alloc (.cells #[.int .i64 0, .int .i64 (-1)] 87))
      clear hB1 hb1
      go_wp2_with fail
      refine (HSC.out _).mono ?_
      rintro e w2 ⟨rfl, rfl⟩
      go_wp2_with fail
      refine (bare_any _ _).mono ?_
      rintro e w2 ⟨rfl, hb2⟩
      have hB2 := HX.out.below hb2 HX.out.lt
      have c0 := hB2.cell 0
      have c1 := hB2.cell 1
      have f0 := hB2.frozen 0
      have f1 := hB2.frozen 1
      have hz1 : w.heap.size < w2.heap.size := hB2.lt
      have hba := HB1.out.alloc HB1.out.size (.cells #[.int .i64 0, .int .i64 (-1)] 87)
      have HB := Lib.hid (hba.trans (hb2.mono hba.size))
      clear hB2 hb2 hba
      simp at c0 c1
      go_wp2
      refine bodyPost_ret (v := .agg #[.int .i64 fc, .int .i64 (-1)]) (by simp [results, Tryz.results34, go_sem, c0, c1]) rfl (faultPost_of HF.out (by rw [HV.out]) ?_)
      exact (HB.out.setCell (p := ⟨w.heap.size, 0, none⟩) (Nat.le_refl _) _).setCell (p := ⟨w.heap.size, 1, none⟩) (Nat.le_refl _) _
end Go.Proofs.YteilefpjfbholaaGreatDoor

namespace Go.Proofs.YteilefpjfbholaaGreatDoor
open Go.RowKit

def rowL (s : ByteArray) (n : Nat) : List Nat := (List.range n).map (rowAt s n)
theorem rowL_take (s : ByteArray) {n j : Nat} (hj : j < n) : (rowL s n).take (j + 1) = (rowL s n).take j ++ [rowAt s n j] := by
  have hl : j < (rowL s n).length := by simpa [rowL] using hj
  rw [List.take_succ_eq_append_getElem hl]
  congr 2
  simp [rowL]
theorem rowL_length (s : ByteArray) (n : Nat) : (rowL s n).length = n := by simp [rowL]
def NumsPost (xs : List Nat) (w : World) (e : Ending) (w' : World) : Prop := ∃ A cap, e = .returned (.slice A xs.length cap) ∧ w'.ownsRow w.heap.size 3 1 (.slice A xs.length cap) xs.length (numsV xs) ∧ Below w.heap.size w w'
set_option maxRecDepth 100000 in
set_option maxHeartbeats 1000000 in
theorem rowOf_ref (s : ByteArray) (n : Nat) (w : World) (hs : s.size ≤ maxLen) (hn : 2 ≤ n) (hn5 : n ≤ 503) : Calls Tryz.prog 64 #[.string s, .int .i64 (n : Int)] w (NumsPost (rowL s n) w) := by
  obtain ⟨i0, hi0, hz0, hz1, hz2⟩ := info_parts info_num
  have H1 : Hid (∀ W, Calls Tryz.prog 108 #[.string s, .int .u64 1] W (NumIs (ofN s 1) W)) := Lib.hid fun W => numberOf_any s 1 W hs (by unfold U64; omega)
  have H2 : Hid (∀ W, Calls Tryz.prog 108 #[.string s, .int .u64 2] W (NumIs (ofN s 2) W)) := Lib.hid fun W => numberOf_any s 2 W hs (by unfold U64; omega)
  unfold NumIs at H1 H2
  have l1 := Nat.mod_lt (ofN s 1) (show 0 < n by omega)
  have l2 := Nat.mod_lt (ofN s 2) (show 0 < n - 1 by omega)
  have HRow : Hid (∀ j : Nat, rowAt s n j = (ofN s 1 % n + j * (ofN s 2 % (n - 1) + 1)) % n) := Lib.hid fun j => by unfold rowAt skipOf; rw [Nat.add_comm 1]
  have HTk := Lib.hid (fun j (hj : j < n) => rowL_take s hj)
  have HLen := Lib.hid (rowL_length s n)
  have HPst : Hid (∀ v w', w'.ownsRow w.heap.size 3 1 v n (numsV (rowL s n)) → Below w.heap.size w w' → NumsPost (rowL s n) w (.returned v) w') := Lib.hid fun v w' h1 h2 => by
    obtain ⟨A, cap, hv, _⟩ := own_slice h1
    subst hv
    have e := rowL_length s n
    unfold NumsPost
    rw [e]
    exact ⟨A, cap, rfl, h1, h2⟩
  have q1b : ¬ n = 0 := by omega
  have q1 : ¬ (n : Int) = 0 := by omega
  have q2 : ((n : Int) - 1) = ((n - 1 : Nat) : Int) := by omega
  have q3 : ¬ ((n - 1 : Nat) : Int) = 0 := by omega
  have q3b : ¬ (n - 1) = 0 := by omega
  have e1 : ((ofN s 1 : Nat) : Int) % (n : Int) = ((ofN s 1 % n : Nat) : Int) := rfl
  have e2 : ((ofN s 2 : Nat) : Int) % ((n - 1 : Nat) : Int) = ((ofN s 2 % (n - 1) : Nat) : Int) := rfl
  have u1 : (ofN s 1 : Int) ≤ 18446744073709551615 := by have := ofN_lt s 1; unfold U64 at this; omega
  have u2 : (ofN s 2 : Int) ≤ 18446744073709551615 := by have := ofN_lt s 2; unfold U64 at this; omega
  generalize ofN s 1 % n = xm at *
  generalize ofN s 2 % (n - 1) = ym at *
  generalize ofN s 1 = x at *
  generalize ofN s 2 = y at *
  generalize n - 1 = n1 at *
  clear u1 u2 hs
  go_enter Tryz.func64, Tryz.ntmps64
  go_wp2_with fail
  refine (H1.out _).mono ?_
  rintro e w1 ⟨rfl, rfl⟩
  go_wp2_with fail
  refine (H2.out _).mono ?_
  rintro e w1 ⟨rfl, rfl⟩
  go_wp2_with fail
  clear e1 e2
  go_loopg [7, 8] n (fun g ov iv wr => ∃ j : Nat, g + j = n ∧ iv = .int .i64 (j : Int) ∧ wr.ownsRow w.heap.size 3 1 ov j (numsV ((rowL s n).take j)) ∧ Below w.heap.size w wr)
  case atStart => exact ⟨0, by omega, rfl, ⟨rfl, .inl ⟨rfl, rfl⟩⟩, Below.refl _ _⟩
  case round =>
    obtain ⟨j, hgj, rfl, hown, hb⟩ := hrel
    obtain ⟨Ao, co, hov, _⟩ := own_slice hown
    subst hov
    by_cases hlt : j < n
    · have hlt2 : (j : Int) < n := by omega
      have hpr : j * (ym + 1) ≤ 503 * 503 := Nat.mul_le_mul (by omega) (by omega)
      have hc : (j : Int) * ((ym : Int) + 1) = ((j * (ym + 1) : Nat) : Int) := by push_cast; rfl
      have hx0 : (0 : Int) ≤ (j : Int) * ((ym : Int) + 1) := by omega
      have hx1 : (j : Int) * ((ym : Int) + 1) ≤ 300000 := by omega
      obtain ⟨p, hp⟩ : ∃ p : Nat, p = rowAt s n j := ⟨_, rfl⟩
      have hpe : ((xm : Int) + (j : Int) * ((ym : Int) + 1)) % (n : Int) = (p : Int) := by
        rw [hp, HRow.out j, hc]; rfl
      have HTj : Hid ((rowL s n).take (j + 1) = (rowL s n).take j ++ [p]) := Lib.hid (by rw [HTk.out j hlt, hp])
      clear hc hp hpr
      generalize hq : (rowL s n).take j = q at *
      clear hq
      go_wp2_with (at_builtin
                   go_must (refine wpList_append_own _ rfl _ _ 51 rfl w.heap.size 3 i0 (.int .i64 0) 1 8 Tryz.underlying51 hi0 hz0 hz1 hz2 rfl (by decide) _ _ _ rfl (hown.alloc _) ⟨wr.heap.size, 0, none⟩ 1 1 [.int .i64 (p : Int)] rfl rfl (cell_one_new _ _ _) (by simp [Value.oneCell']) (by simp only [maxLen]; omega) (by omega) (size_alloc1 hb) ?_)
                   intro v6 w6 hown6 hg6 _)
      have hb6 := below_app1 hb hown hg6
      go_roundg (n - (j + 1))
      case rel => exact ⟨j + 1, by omega, by go_num, by rw [HTj.out]; simpa [numsV] using hown6, hb6⟩
      case measure => omega
    · obtain rfl : j = n := by omega
      have hge : ¬ (j : Int) < j := by omega
      have HF := Lib.hid (HPst.out _ wr (by have h := hown; rwa [List.take_of_length_le (by have := HLen.out; omega)] at h) hb)
      clear hown
      go_wp2
      go_ret
      exact HF.out
end Go.Proofs.YteilefpjfbholaaGreatDoor

namespace Go.Proofs.YteilefpjfbholaaGreatDoor
open Go.RowKit

def atV (m : Nat) (cs : Nat → Nat) : List Value := (List.range m).map fun j => .int .i64 (cs j : Int)
theorem atV_get {m k : Nat} {cs : Nat → Nat} (hk : k < m) : (atV m cs).toArray[k]? = some (.int .i64 (cs k : Int)) := by simp [atV, hk]
theorem atV_set {m k c : Nat} {cs : Nat → Nat} : (atV m cs).toArray.setIfInBounds k (.int .i64 (c : Int)) = (atV m (fun x => if x = k then c else cs x)).toArray := by
  simp only [List.setIfInBounds_toArray]
  congr 1
  apply List.ext_getElem
  · simp [atV]
  · intro i h1 h2
    simp only [atV, List.getElem_set, List.getElem_map, List.getElem_range]
    by_cases h : k = i
    · subst h; simp
    · simp [h, Ne.symm h]
theorem atV_zero (m : Nat) : negV 0 m = atV m (fun _ => 0) := by
  unfold negV atV
  apply List.ext_getElem
  · simp
  · intro i h1 h2
    simp
/-- What TableOf keeps in memory, turn by turn. -/
structure RefSt (w w1 : World) (l names : List ByteArray) (ob ab : Nat) (cs : Nat → Nat) (T : List Int) : Prop where
  out : Blk w ob 3 (outV l names T).toArray
  cnt : Blk w ab 3 (atV names.length cs).toArray
  low : Below w1.heap.size w1 w
  hob : w1.heap.size ≤ ob
  hab : ob < ab
theorem RefSt.below {w w' w1 : World} {l names : List ByteArray} {ob ab : Nat} {cs : Nat → Nat} {T : List Int} (h : RefSt w w1 l names ob ab cs T) (hb : Below w.heap.size w w') : RefSt w' w1 l names ob ab cs T :=
  ⟨h.out.below hb h.out.lt, h.cnt.below hb h.cnt.lt, below_two h.low hb, h.hob, h.hab⟩
theorem RefSt.drew {w w1 : World} {l names : List ByteArray} {ob ab : Nat} {cs : Nat → Nat} {T : List Int} (h : RefSt w w1 l names ob ab cs T) : RefSt w.drew w1 l names ob ab cs T :=
  ⟨h.out.drew, h.cnt.drew, below_drew h.low, h.hob, h.hab⟩
theorem RefSt.put {w w1 : World} {l names : List ByteArray} {ob ab : Nat} {cs : Nat → Nat} {T : List Int} (h : RefSt w w1 l names ob ab cs T) (p j : Nat) :
    RefSt (w.setCell ⟨ob, p, none⟩ (.int .i64 (idx l (nmAt names j)))) w1 l names ob ab cs (T.set p (j : Int)) := by
  have h1 := h.hob
  have h2 := h.hab
  refine ⟨?_, h.cnt.far (by show ab ≠ ob; omega) _, h.low.setCell (p := ⟨ob, p, none⟩) (by show w1.heap.size ≤ ob; omega) _, h.hob, h.hab⟩
  rw [← outV_set]; exact h.out.set_ p _
theorem RefSt.up {w w1 : World} {l names : List ByteArray} {ob ab : Nat} {cs : Nat → Nat} {T : List Int} (h : RefSt w w1 l names ob ab cs T) (k c : Nat) :
    RefSt (w.setCell ⟨ab, k, none⟩ (.int .i64 (c : Int))) w1 l names ob ab (fun x => if x = k then c else cs x) T := by
  have h1 := h.hob
  have h2 := h.hab
  refine ⟨h.out.far (by show ob ≠ ab; omega) _, ?_, h.low.setCell (p := ⟨ab, k, none⟩) (by show w1.heap.size ≤ ab; omega) _, h.hob, h.hab⟩
  rw [← atV_set]; exact h.cnt.set_ k _
theorem RefSt.load {w w1 : World} {l names : List ByteArray} {n ob ab t p : Nat} {cs : Nat → Nat} (h : RefSt w w1 l names ob ab cs (tab names n t)) (hT : TabOK names.length n t (tab names n t)) (hs : ∀ x ∈ names, x ∈ l) (hp : p < n) :
    ∃ sv : Int, w.cell? ⟨ob, p, none⟩ = some (.int .i64 sv) ∧ w.frozen? ⟨ob, p, none⟩ = false ∧ decide (sv ≥ 0) = decide (Taken (tab names n t) p) := by
  have hl2 : p < (tab names n t).length := by rw [hT.len]; exact hp
  refine ⟨_, (h.out.cell p).trans (outV_get hl2), h.out.frozen p, ?_⟩
  unfold Taken
  refine slot_free (m := names.length) ?_ rfl hs
  rw [List.getD_eq_getElem?_getD, List.getElem?_eq_getElem hl2]
  exact hT.lt _ (List.getElem_mem hl2)
theorem RefSt.count {w w1 : World} {l names : List ByteArray} {ob ab k : Nat} {cs : Nat → Nat} {T : List Int} (h : RefSt w w1 l names ob ab cs T) (hk : k < names.length) :
    w.cell? ⟨ab, k, none⟩ = some (.int .i64 (cs k : Int)) ∧ w.frozen? ⟨ab, k, none⟩ = false := ⟨(h.cnt.cell k).trans (atV_get hk), h.cnt.frozen k⟩
def RefTabPost (l : List ByteArray) (n : Nat) (w : World) (e : Ending) (w' : World) : Prop :=
  ∃ g, e = .returned (.slice (some ⟨g, 0, none⟩) n n) ∧ Blk w' g 3 (tableOf l n).toArray ∧ w.heap.size ≤ g ∧ Below w.heap.size w w'
end Go.Proofs.YteilefpjfbholaaGreatDoor

namespace Go.Proofs.YteilefpjfbholaaGreatDoor
open Go.RowKit

theorem row_cell {W : World} {b n cap c : Nat} {A : Option Addr} {s : ByteArray} (h : W.ownsRow b 3 1 (.slice A n cap) n (numsV (rowL s n))) (hc : c < n) (hn : 2 ≤ n) : ∃ (ad : Addr) (p : Nat), A = some ad ∧ p < n ∧ Hid (p = rowAt s n c) ∧ W.cell? (ad.add c) = some (.int .i64 (p : Int)) := by
  have hl := rowL_length s n
  have hr := Reads.of_own h
  obtain ⟨ad, rfl, hS⟩ := numAt_of (l := rowL s n) (k := c) (by rw [hl]; exact hr) (by rw [hl]; exact hc)
  refine ⟨ad, rowAt s n c, rfl, rowAt_lt s c hn, Lib.hid rfl, ?_⟩
  have := hS W (Below.refl _ _)
  rw [this]
  simp [rowL]
theorem negV_zero {k n : Nat} (hk : k < n) : (negV k n).toArray[k]? = some (.int .i64 0) := by
  unfold negV
  rw [List.getElem?_toArray, List.getElem?_append_right (by simp), List.getElem?_replicate, if_pos (by simp; omega)]
theorem setNeg (k n : Nat) (hk : k < n) : (negV k n).toArray.setIfInBounds k (.int .i64 (-1)) = (negV (k + 1) n).toArray := by
  simp only [List.setIfInBounds_toArray]
  congr 1
  apply List.ext_getElem
  · simp [negV]; omega
  · intro i h1 h2
    simp only [negV, List.getElem_set, List.getElem_append, List.getElem_replicate, List.length_replicate]
    by_cases h : k = i
    · subst h; simp
    · by_cases h3 : i < k
      · simp [h, h3]; omega
      · simp [h, h3, show ¬ i < k + 1 by omega]

set_option maxRecDepth 100000 in
set_option maxHeartbeats 2000000 in
theorem tableOf_ref (A : Option Addr) (c : Nat) (l : List ByteArray) (n : Nat) (w : World) (hr : Reads w w.heap.size 1 A l.length (strV l)) (hl : l.length ≤ maxLen) (hs : ∀ s ∈ l, s.size ≤ maxLen) (h0 : 0 < l.length) (ho : hostsFault l = none) (hn : 2 ≤ n) (hn5 : n ≤ 503) (hd : noDiv n) :
    Calls Tryz.prog 37 #[.slice A l.length c, .int .i64 (n : Int)] w (RefTabPost l n w) := by
  obtain ⟨h12, hnm, hnd⟩ := hostsFault_none.1 ho
  have hsl := sortB_length l
  have HS := Lib.hid (sortedOf_any A c l w hr (by omega))
  have HIX : Hid (∀ x, ∀ W, Below w.heap.size w W → Calls Tryz.prog 65 #[.slice A l.length c, .string x] W fun e w' => e = .returned (.int .i64 (idx l x)) ∧ W = w') :=
    Lib.hid fun x W hW => index_any A c W.heap.size l x W ((hr.below hW).more hW.size) hl
  have hperm := (isSort_sortB l).1
  have hsnd : (sortB l).Nodup := hperm.nodup_iff.2 hnd
  have HMem := Lib.hid (fun x (hx : x ∈ sortB l) => (hperm.mem_iff.1 hx : x ∈ l))
  have HSz := Lib.hid (fun x (hx : x ∈ sortB l) => hs x (hperm.mem_iff.1 hx))
  have HT : Hid (∀ g e w', e = .returned (.slice (some ⟨g, 0, none⟩) n n) → Blk w' g 3 (outV l (sortB l) (tab (sortB l) n n)).toArray → w.heap.size ≤ g → Below w.heap.size w w' → RefTabPost l n w e w') := Lib.hid fun g e w' h1 h2 h3 h4 => ⟨g, h1, h2, h3, h4⟩
  unfold TextsPost at HS
  have hm0 : 0 < (sortB l).length := by omega
  have hm12 : (sortB l).length ≤ 12 := by omega
  generalize sortB l = names at *
  have HTab := Lib.hid (fun t (ht : t ≤ n) => tab_ok names hm0 hn hd t ht)
  have HFF := Lib.hid (fun s t (ht : t < n) => firstFree_spec (s := s) hn hd (tab_ok names hm0 hn hd t (by omega)).len (by rw [(tab_ok names hm0 hn hd t (by omega)).free]; omega))
  have hmk := make_zeros n (by omega)
  have hmk2 := make_zeros names.length (by omega)
  have q1 : ¬ (names.length : Int) = 0 := by omega
  have q2 : ¬ names.length = 0 := by omega
  have q2b : ¬ names = [] := fun e => by simp [e] at hm0
  clear hr hs ho hnm hnd hperm hsnd hsl hd
  go_enter Tryz.func37, Tryz.ntmps37
  go_wp2_with fail
  refine HS.out.mono ?_
  rintro e w1 ⟨A1, c1, rfl, ho1, hb1⟩
  have HR1 := Lib.hid (Reads.of_own ho1)
  have hB0 := Blk.new w1 3 (negV 0 n).toArray
  have hb0 : Below w1.heap.size w1 (w1.alloc (.cells (negV 0 n).toArray 3)) := (Below.refl _ _).alloc (Nat.le_refl _) _
  clear ho1
  go_wp2_with fail
  go_loopg [7] n (fun g iv wr => ∃ k : Nat, g + k = n ∧ iv = .int .i64 (k : Int) ∧ Hid (Blk wr w1.heap.size 3 (negV k n).toArray) ∧ Below w1.heap.size w1 wr)
  case atStart => exact ⟨0, by omega, rfl, Lib.hid hB0, hb0⟩
  case round =>
    obtain ⟨k, hgk, rfl, hB, hb⟩ := hrel
    by_cases hlt : k < n
    · have hlt2 : (k : Int) < n := by omega
      have g0 := hB.out.cell k
      have g1 := hB.out.frozen k
      have HB2 : Hid (Blk (wr.setCell ⟨w1.heap.size, k, none⟩ (.int .i64 (-1))) w1.heap.size 3 (negV (k + 1) n).toArray) := Lib.hid (by rw [← setNeg k n hlt]; exact hB.out.set_ k _)
      have hb2 := hb.setCell (p := ⟨w1.heap.size, k, none⟩) (Nat.le_refl _) (.int .i64 (-1))
      rw [negV_zero hlt] at g0
      clear hB hmk hmk2
      go_wp2_with fail
      go_roundg (n - (k + 1))
      case rel => exact ⟨k + 1, by omega, by go_num, HB2, hb2⟩
      case measure => omega
    · obtain rfl : k = n := by omega
      have hge : ¬ (k : Int) < k := by omega
      have HPst : Hid (RefSt (wr.alloc (.cells (negV 0 names.length).toArray 3)) w1 l names w1.heap.size wr.heap.size (fun _ => 0) (tab names k 0)) := Lib.hid (by
        have h1 := hB.out
        have hba : Below wr.heap.size wr (wr.alloc (.cells (negV 0 names.length).toArray 3)) := (Below.refl _ _).alloc (Nat.le_refl _) _
        refine ⟨?_, ?_, below_two hb hba, Nat.le_refl _, h1.lt⟩
        · rw [outV_start]
          have h2 := h1.below hba h1.lt
          rw [show negV k k = List.replicate k (Value.int .i64 (-1)) from by simp [negV]] at h2
          exact h2
        · rw [← atV_zero]; exact Blk.new _ _ _)
      obtain ⟨ab, hab⟩ : ∃ ab : Nat, ab = wr.heap.size := ⟨_, rfl⟩
      rw [← hab] at HPst
      clear hB hmk
      go_wp2_with fail
      rw [← hab]
      clear hmk2 hb hab
      go_loopg [9] k (fun g iv wr => ∃ (t : Nat) (cs : Nat → Nat), g + t = k ∧ iv = .int .i64 (t : Int) ∧ Hid (RefSt wr w1 l names w1.heap.size ab cs (tab names k t)) ∧ Hid (Passed names k (tab names k t) cs))
      case atStart => exact ⟨0, _, by omega, rfl, HPst, Lib.hid (Passed.start _ _ _)⟩
      case round =>
        obtain ⟨t, cs, hg, rfl, hS0, hP0⟩ := hrel
        by_cases hlt : t < k
        · have hlt2 : (t : Int) < k := by omega
          obtain ⟨j, hj⟩ : ∃ j : Nat, j = t % names.length := ⟨_, rfl⟩
          have hjl : j < names.length := by rw [hj]; exact Nat.mod_lt _ hm0
          have hjl2 : (j : Int) < names.length := by omega
          have q3 : (t : Int).tmod (names.length : Int) = (j : Int) := by rw [Int.tmod_eq_emod_of_nonneg (by omega), hj]; rfl
          have q3b : (t : Int) % (names.length : Int) = (j : Int) := by rw [hj]; rfl
          have q3c : IntKind.i64.wrap ((t : Int).tmod (names.length : Int)) = (j : Int) := by rw [q3]; exact IntWalk.i64_in _ (by omega)
          have q3d : IntKind.i64.wrap ((t : Int) % (names.length : Int)) = (j : Int) := by rw [q3b]; exact IntWalk.i64_in _ (by omega)
          obtain ⟨adN, rfl, hSA⟩ := strAt_of HR1.out hjl
          have HSA3 : Hid (∀ W, Below w1.heap.size w1 W → W.cell? (adN.add j) = some (.string names[j])) := Lib.hid hSA
          have c0 := hSA wr hS0.out.low
          have hsz := HSz.out _ (List.getElem_mem hjl)
          have hmem := HMem.out _ (List.getElem_mem hjl)
          have HEq := Lib.hid (nmAt_eq hjl)
          have HRow := Lib.hid (fun W => rowOf_ref names[j] k W hsz hn hn5)
          unfold NumsPost at HRow
          rw [rowL_length] at HRow
          have HJ : Hid (t % names.length = j) := Lib.hid hj.symm
          clear hSA hj
          go_wp2_with fail
          refine (HRow.out _).mono ?_
          rintro e w3 ⟨AR, cR, rfl, hoR, hb3⟩
          have hjt : t % names.length = j := HJ.out
          have HTk := Lib.hid (HTab.out t (by omega))
          have hff := HFF.out (nmAt names j) t hlt
          rw [HEq.out] at hff
          obtain ⟨hff1, hff2, hff3⟩ := hff
          obtain ⟨hcn, hpass⟩ := hP0.out j hjl
          rw [HEq.out] at hpass
          have hckn : cs j < k := by
            rcases Nat.lt_or_ge (firstFree names[j] k (tab names k t)) (cs j) with h | h
            · exact absurd hff2 (hpass _ h)
            · omega
          have HPass : Hid (∀ i, i < cs j → Taken (tab names k t) (rowAt names[j] k i)) := Lib.hid hpass
          have HUp : Hid (∀ c, (∀ i, i < c → Taken (tab names k t) (rowAt names[j] k i)) → Taken (tab names k t) (rowAt names[j] k c) → c + 1 < k) := Lib.hid fun c h1 h2 => by
            rcases Nat.lt_or_ge c (firstFree names[j] k (tab names k t)) with h | h
            · omega
            · exfalso
              rcases Nat.lt_or_eq_of_le h with h3 | h3
              · exact h1 _ h3 hff2
              · rw [h3] at hff2; exact h2 hff2
          have HFA := Lib.hid (fun c (h1 : c < k) (h2 : ∀ i, i < c → Taken (tab names k t) (rowAt names[j] k i)) (h3 : ¬ Taken (tab names k t) (rowAt names[j] k c)) => firstFree_at (s := names[j]) (n := k) (i := c) (out := tab names k t) h1 h2 (Classical.not_not.1 h3))
          have HPs := Lib.hid (fun c (h1 : c < k) (h2 : firstFree names[j] k (tab names k t) = c) (h3 : ∀ i, i < c → Taken (tab names k t) (rowAt names[j] k i)) => (show Passed names k (tab names k (t + 1)) (fun x => if x = j then c else cs x) from by
            have := Passed.turn (t := t) (c := c) hn hP0.out h1 (by rw [hjt, HEq.out]; exact h2) (by rw [hjt, HEq.out]; exact h3)
            rw [hjt] at this
            intro i hi
            have h4 := this i hi
            by_cases h5 : i = j
            · simp only [if_pos h5] at h4 ⊢
              exact ⟨by omega, fun q hq => h4.2 q (by omega)⟩
            · simpa only [if_neg h5] using h4))
          obtain ⟨ix, hix⟩ : ∃ ix : Int, ix = idx l names[j] := ⟨_, rfl⟩
          have HIX2 : Hid (∀ W, Below w.heap.size w W → Calls Tryz.prog 65 #[.slice A l.length c, .string names[j]] W fun e w' => e = .returned (.int .i64 ix) ∧ W = w') := Lib.hid (by rw [hix]; exact HIX.out _)
          have HPut : Hid (∀ W p c cs', RefSt W w1 l names w1.heap.size ab cs' (tab names k t) → firstFree names[j] k (tab names k t) = c → p = rowAt names[j] k c → RefSt (W.setCell ⟨w1.heap.size, p, none⟩ (.int .i64 ix)) w1 l names w1.heap.size ab cs' (tab names k (t + 1))) := Lib.hid fun W p c cs' h1 h2 h3 => by
            have h4 := h1.put p j
            rw [HEq.out, ← hix] at h4
            rw [tab_next (c := c) (by rw [hjt, HEq.out]; exact h2), hjt, HEq.out, ← h3]
            exact h4
          have HS3 : Hid (RefSt w3 w1 l names w1.heap.size ab (fun x => if x = j then cs j else cs x) (tab names k t)) := Lib.hid (by
            rw [show (fun x => if x = j then cs j else cs x) = cs from by funext x; by_cases h : x = j <;> simp [h]]
            exact hS0.out.below hb3)
          have habw : ab < wr.heap.size := hS0.out.cnt.lt
          obtain ⟨adR, _, hAR, _, _, _⟩ := row_cell hoR hckn hn
          have HCell : Hid (∀ (W : World) (c : Nat), c < k → W.ownsRow wr.heap.size 3 1 (.slice AR k cR) k (numsV (rowL names[j] k)) → ∃ p : Nat, p < k ∧ Hid (p = rowAt names[j] k c) ∧ W.cell? (adR.add c) = some (.int .i64 (p : Int))) := Lib.hid fun W c h1 h2 => by
            obtain ⟨ad', p, hA', hp, he, hc⟩ := row_cell h2 h1 hn
            rw [hAR] at hA'
            obtain rfl := Option.some.inj hA'
            exact ⟨p, hp, he, hc⟩
          have HO3 := Lib.hid hoR
          have HCk := Lib.hid hckn
          have HW13 : Hid (Below w1.heap.size w1 w3) := Lib.hid HS3.out.low
          clear hff1 hff2 hff3 hcn hpass hckn hix hoR hS0 hP0 c0 q3 q3b q3c q3d hmem hsz hjt
          generalize names[j] = x at *
          subst hAR
          go_wp2_with fail
          obtain ⟨wo, rfl⟩ : ∃ wo : World, wo = wr := ⟨_, rfl⟩
          obtain ⟨g0, rfl⟩ : ∃ g0 : Nat, g0 = gk := ⟨_, rfl⟩
          go_loopg [] (k - cs j) (fun g wi => ∃ c : Nat, g + c = k ∧ c < k ∧ Hid (RefSt wi w1 l names w1.heap.size ab (fun x => if x = j then c else cs x) (tab names k t)) ∧ Hid (wi.ownsRow wo.heap.size 3 1 (.slice (some adR) k cR) k (numsV (rowL x k))) ∧ Hid (∀ i, i < c → Taken (tab names k t) (rowAt x k i)))
          case atStart => exact ⟨cs j, by have := HCk.out; omega, HCk.out, HS3, HO3, HPass⟩
          case round =>
            obtain ⟨c, hgc, hck, hS, hO, hall⟩ := hrel
            obtain ⟨d0, d1⟩ := hS.out.count hjl
            simp only [if_pos] at d0
            obtain ⟨p, hp, hpe, d2⟩ := HCell.out wr c hck hO.out
            obtain ⟨sv, d3, d4, hfr⟩ := hS.out.load HTk.out HMem.out hp
            have hp2 : (p : Int) < k := by omega
            have hck2 : (c : Int) < k := by omega
            by_cases hfree : Taken (tab names k t) p
            case pos =>
              rw [decide_eq_true hfree] at hfr
              have hup := HUp.out c hall.out (by rw [← hpe.out]; exact hfree)
              have HAll : Hid (∀ i, i < c + 1 → Taken (tab names k t) (rowAt x k i)) := Lib.hid fun i hi => by
                rcases Nat.lt_succ_iff_lt_or_eq.1 hi with h | rfl
                · exact hall.out i h
                · rw [← hpe.out]; exact hfree
              have HS2 : Hid (RefSt (wr.setCell ⟨ab, j, none⟩ (.int .i64 ((c + 1 : Nat) : Int))) w1 l names w1.heap.size ab (fun x => if x = j then c + 1 else cs x) (tab names k t)) := Lib.hid (by
                have := hS.out.up j (c + 1)
                rwa [show (fun y => if y = j then c + 1 else (fun x => if x = j then c else cs x) y) = (fun x => if x = j then c + 1 else cs x) from by funext y; by_cases h : y = j <;> simp [h]] at this)
              have HO2 := Lib.hid (own_away hO.out (p := ⟨ab, j, none⟩) habw (.int .i64 ((c + 1 : Nat) : Int)))
              have HB2 : Hid (Below w.heap.size w wr) := Lib.hid (below_two hb1 hS.out.low)
              clear hfree
              go_wp2_with fail
              go_roundg (k - (c + 1))
              case rel => exact ⟨c + 1, by omega, by omega, HS2, HO2, HAll⟩
              case measure => omega
            case neg =>
              rw [decide_eq_false hfree] at hfr
              have HB2 : Hid (Below w.heap.size w wr) := Lib.hid (below_two hb1 hS.out.low)
              have d5 := HSA3.out wr hS.out.low
              have HFr : Hid (¬ Taken (tab names k t) (rowAt x k c)) := Lib.hid (by rw [← hpe.out]; exact hfree)
              have HFe := Lib.hid (HFA.out c hck hall.out HFr.out)
              have HPt := Lib.hid (HPut.out wr.drew p c _ hS.out.drew HFe.out hpe.out)
              have HPs2 := Lib.hid (HPs.out c hck HFe.out hall.out)
              have e0 : (wr.setCell ⟨w1.heap.size, p, none⟩ (.int .i64 ix)).drew.cell? ⟨ab, j, none⟩ = some (.int .i64 (c : Int)) := by
                have h := (HPt.out.count hjl).1
                simp only [if_pos] at h
                exact h
              have e1 : (wr.setCell ⟨w1.heap.size, p, none⟩ (.int .i64 ix)).drew.cell? (adR.add c) = some (.int .i64 (p : Int)) := by
                obtain ⟨p', _, he, hc⟩ := HCell.out (wr.setCell ⟨w1.heap.size, p, none⟩ (.int .i64 ix)) c hck (own_away hO.out (Nat.lt_trans hS.out.hab habw) _)
                rw [he.out.trans hpe.out.symm] at hc
                exact hc
              have e2 : (wr.setCell ⟨w1.heap.size, p, none⟩ (.int .i64 ix)).drew.cell? (adN.add j) = some (.string x) := HSA3.out _ HPt.out.low
              clear hfree
              go_wp2_with fail
              go_region_held3 (fun w' => w'.cell? ⟨ab, j, none⟩ = some (.int .i64 (c : Int)) ∧ w'.cell? (adR.add c) = some (.int .i64 (p : Int)) ∧ w'.cell? (adN.add j) = some (.string x)) (first | exact ⟨d0, d2, d5⟩ | exact ⟨e0, e1, e2⟩ | go_keep)
                ((go_at_call 65; refine (HIX2.out _ (below_drew HB2.out)).mono ?_; rintro e w8 ⟨rfl, rfl⟩))
              go_wp2_with fail
              go_roundg (k - (t + 1))
              case rel => exact ⟨t + 1, _, by omega, by go_num, HPt, HPs2⟩
              case measure => omega
        · obtain rfl : t = k := by omega
          have hge3 : ¬ (t : Int) < t := by omega
          have HF := Lib.hid (HT.out w1.heap.size _ wr rfl hS0.out.out (by exact hb1.size) (below_two hb1 hS0.out.low))
          clear hS0 hP0
          go_wp2
          go_ret
          exact HF.out
end Go.Proofs.YteilefpjfbholaaGreatDoor
