/-
  A balance's fresh host of a key.
-/
import Derived.Test.YtnmkdmehljkedaaGreatDoorDelStr
import Derived.BigQuiet
import Derived.Deep.QuietTactic
namespace Go.Proofs.YtnmkdmehljkedaaGreatDoor
open Go.RowKit

/-- The hosts that are open. -/
def openOf (s : BS) : List ByteArray := (ups s.st).filter fun x => !s.dr x
theorem ups_sub (st : List St) : (ups st).Sublist (hosts st) := by
  unfold ups hosts
  exact (List.filter_sublist).map _
theorem openOf_sub (s : BS) : (openOf s).Sublist (hosts s.st) := List.filter_sublist.trans (ups_sub s.st)
theorem name_size {x : ByteArray} (h : isName x = true) : x.size ≤ 12 := by
  unfold isName at h
  simp only [Bool.and_eq_true, decide_eq_true_eq] at h
  have := h.1.1.1.2
  rwa [nums_length] at this
theorem hosts_fit {l : List ByteArray} (h : hostsFault l = none) : l.length ≤ 12 ∧ (∀ s ∈ l, s.size ≤ maxLen) := by
  obtain ⟨h1, h2, _⟩ := hostsFault_none.1 h
  exact ⟨h1, fun s hs => by have := name_size (h2 s hs); unfold maxLen; omega⟩
theorem sub_fault {l o : List ByteArray} (h : hostsFault l = none) (hs : o.Sublist l) : hostsFault o = none := by
  obtain ⟨h1, h2, h3⟩ := hostsFault_none.1 h
  exact hostsFault_none.2 ⟨Nat.le_trans hs.length_le h1, fun s hm => h2 s (hs.subset hm), h3.sublist hs⟩
theorem sub_table {l o : List ByteArray} {n : Nat} (h : tableFault l (n : Int) = none) (hs : o.Sublist l) (h0 : 0 < o.length) : tableFault o (n : Int) = none := by
  obtain ⟨_, h2, _⟩ := tableFault_none h
  unfold tableFault at h ⊢
  split at h
  · cases h
  · rw [h2] at h
    rw [if_neg (by omega), sub_fault h2 hs]
    exact h
set_option maxHeartbeats 1000000 in
theorem delStr_nil (fv : Value) (w : World) : Calls Tryz.prog 31 #[.slice none 0 0, fv] w fun e w' => e = .returned (.slice none 0 0) ∧ w = w' := by
  have HI : Hid (∀ W, Calls Tryz.prog 49 #[.slice none 0 0, fv] W fun e w' => e = .returned (.int .i64 (-1)) ∧ W = w') := Lib.hid fun W => by
    go_enter Tryz.func49, Tryz.ntmps49
    go_wp2
    go_loop [8] (fun iv => iv = .int .i64 0) (fun _ => 0)
    case atStart => rfl
    case round =>
      subst hrel
      go_wp2
      go_ret
      exact ⟨rfl, rfl⟩
  go_enter Tryz.func31, Tryz.ntmps31
  go_wp2_with fail
  refine (HI.out _).mono ?_
  rintro e w1 ⟨rfl, rfl⟩
  go_wp2
  go_ret
  exact ⟨rfl, rfl⟩
def FreshPost (ea : Nat → Addr) (l : List ByteArray) (n k : Nat) (w : World) (e : Ending) (w' : World) : Prop :=
  Below w.heap.size w w' ∧ ((l = [] ∧ e = .returned (.tuple #[.string ⟨#[]⟩, errB ea 5])) ∨ (l ≠ [] ∧ e = .returned (.tuple #[.string (hostAt l n (Mx.turn k % n)), .nilIface])))
/-- slices.DeleteFunc of the hosts that are up, whatever they are. -/
theorem delOpen_any {w w1 w2 : World} {lo bx : Nat} {p : BPl} {c : BCfg} {s : BS} {A : Option Addr} {cap : Nat} (h : BalAt w lo p c s) (hO : BOk c) (hb : Below w.heap.size w w1) (hx : w1.cell? ⟨bx, 0, none⟩ = some (.pointer (some ⟨p.bp, 0, none⟩))) (hbx : w.heap.size ≤ bx) (ho : w2.ownsRow w1.heap.size 9 1 (.slice A (ups s.st).length cap) (ups s.st).length (strV (ups s.st))) (hb2 : Below w1.heap.size w1 w2) :
    Calls Tryz.prog 31 #[.slice A (ups s.st).length cap, .func (.func 32) #[] #[.pointer (some ⟨bx, 0, none⟩)]] w2 fun e w' => ∃ A' cap', e = .returned (.slice A' (openOf s).length cap') ∧ TxIn w' A' cap' (openOf s) ∧ Below w1.heap.size w1 w' := by
  have hho : hostsFault (openOf s) = none := sub_fault (by rw [h.same]; exact hO.hf) (openOf_sub s)
  obtain ⟨hl12, hos⟩ := hosts_fit hho
  have hus : ∀ x ∈ ups s.st, x.size ≤ maxLen := fun x hx => (hosts_fit hO.hf).2 x (by rw [← h.same]; exact (ups_sub s.st).subset hx)
  have hm : (openOf s).length ≤ maxLen := by unfold maxLen; omega
  have hbx1 := lt_of_cell hx
  have hle := List.length_filter_le (fun x => !s.dr x) (ups s.st)
  rcases ho.2 with ⟨hv, h0⟩ | ⟨g, cap', cur, hv, hg, _⟩
  · injection hv with e1 e2 e3
    subst e1
    have hu0 : ups s.st = [] := List.length_eq_zero_iff.1 h0
    have ho0 : openOf s = [] := by unfold openOf; rw [hu0]; rfl
    rw [hu0, ho0]
    subst e3
    refine (delStr_nil _ w2).mono fun e w' ⟨he, hw⟩ => ⟨none, 0, he, ?_, by rw [← hw]; exact hb2⟩
    exact ⟨Reads.none_, Nat.zero_le _, Nat.zero_le _, fun _ hx => by cases hx⟩
  · injection hv with e1 e2 e3
    subst e1
    subst e3
    have c1 : w2.cell? ⟨bx, 0, none⟩ = some (.pointer (some ⟨p.bp, 0, none⟩)) := (hb2.cell (p := ⟨bx, 0, none⟩) hbx1).trans hx
    have hB2 := (h.below hb).below hb2
    have hbl := h.blk.lt
    have hs1 := hb.size
    have hcap := (own_open ho).2.2.1
    refine (delStr_any w2 ho hus c1 (hB2.blk.cell 4) hB2.d (by omega) (by omega)).mono fun e w' ⟨he, hr, hgr⟩ => ⟨_, _, he, ⟨hr, Nat.le_trans hle hcap, hm, hos⟩, ?_⟩
    exact hb2.trans ((Turn.of_grown (bs := [g]) hgr fun j hj => by cases hj; simp).below (B := w1.heap.size) hb2.size (by simpa using hg))
theorem turn_some (k n : Nat) (hk : U64 k) (hn : 2 ≤ n) : ∃ T j : Nat, Hid (j = Mx.turn k % n) ∧ j < n ∧ U64 T ∧ ((T : Int).tmod (n : Int) = (j : Int)) ∧ ((T : Int) % (n : Int) = (j : Int)) ∧ Hid (∀ w : World, Calls Tryz.prog 33 #[.int .u64 (k : Int)] w fun e w' => e = .returned (.int .u64 (T : Int)) ∧ w = w') :=
  ⟨Mx.turn k, Mx.turn k % n, Lib.hid rfl, Nat.mod_lt _ (by omega), Mx.turn_lt k, by rw [Int.ofNat_tmod], by omega, Lib.hid fun w => turn_any k w hk⟩
set_option maxRecDepth 100000 in
set_option maxHeartbeats 1000000 in
theorem fresh_any (ea : Nat → Addr) {lo : Nat} {p : BPl} {c : BCfg} {s : BS} (k : Nat) (w : World) (hE : ErrsT ea w) (h : BalAt w lo p c s) (hO : BOk c) (hU : U64 k) :
    Calls Tryz.prog 17 #[.pointer (some ⟨p.bp, 0, none⟩), .int .u64 (k : Int)] w (FreshPost ea (openOf s) c.size k w) := by
  have hb0 := (Below.refl w.heap.size w).alloc (Nat.le_refl _) (.cells #[.pointer (some ⟨p.bp, 0, none⟩)] 25)
  have hX := Blk.new w 25 #[.pointer (some ⟨p.bp, 0, none⟩)]
  have h1 := h.below hb0
  obtain ⟨_, _, n, hn, hn2, hn5, hd⟩ := tableFault_none hO.tf
  obtain rfl : c.size = n := by omega
  have hlen : s.st.length ≤ 100 := by
    have := (hosts_fit hO.hf).1
    rw [← h.same, hosts_len] at this
    omega
  have HUp := Lib.hid (up_any _ h1.h hlen)
  have HDel : Hid (∀ A cap w2, w2.ownsRow (w.alloc (.cells #[.pointer (some ⟨p.bp, 0, none⟩)] 25)).heap.size 9 1 (.slice A (ups s.st).length cap) (ups s.st).length (strV (ups s.st)) → Below (w.alloc (.cells #[.pointer (some ⟨p.bp, 0, none⟩)] 25)).heap.size (w.alloc (.cells #[.pointer (some ⟨p.bp, 0, none⟩)] 25)) w2 → Calls Tryz.prog 31 #[.slice A (ups s.st).length cap, .func (.func 32) #[] #[.pointer (some ⟨w.heap.size, 0, none⟩)]] w2 fun e w' => ∃ A' cap', e = .returned (.slice A' (openOf s).length cap') ∧ TxIn w' A' cap' (openOf s) ∧ Below (w.alloc (.cells #[.pointer (some ⟨p.bp, 0, none⟩)] 25)).heap.size (w.alloc (.cells #[.pointer (some ⟨p.bp, 0, none⟩)] 25)) w') := Lib.hid fun A cap w2 ho hb2 => delOpen_any h hO hb0 (hX.cell 0) (Nat.le_refl _) ho hb2
  have c0 : (w.alloc (.cells #[.pointer (some ⟨p.bp, 0, none⟩)] 25)).cell? ⟨p.bp, 0, none⟩ = some (.pointer (some ⟨p.hp, 0, none⟩)) := h1.blk.cell 0
  have cx : (w.alloc (.cells #[.pointer (some ⟨p.bp, 0, none⟩)] 25)).cell? ⟨w.heap.size, 0, none⟩ = some (.pointer (some ⟨p.bp, 0, none⟩)) := hX.cell 0
  have HC : Hid (∀ W, Below (w.alloc (.cells #[.pointer (some ⟨p.bp, 0, none⟩)] 25)).heap.size (w.alloc (.cells #[.pointer (some ⟨p.bp, 0, none⟩)] 25)) W → W.cell? ⟨w.heap.size, 0, none⟩ = some (.pointer (some ⟨p.bp, 0, none⟩)) ∧ W.cell? ⟨p.bp, 2, none⟩ = some (.int .i64 (c.size : Int))) := Lib.hid fun W hW => ⟨(hX.below hW hX.lt).cell 0, (h1.below hW).blk.cell 2⟩
  have HB0 := Lib.hid hb0
  have HEW : Hid (∀ W, Below (w.alloc (.cells #[.pointer (some ⟨p.bp, 0, none⟩)] 25)).heap.size (w.alloc (.cells #[.pointer (some ⟨p.bp, 0, none⟩)] 25)) W → ErrsT ea W) := Lib.hid fun W hW => (hE.below hb0).below hW
  have hsub := openOf_sub s
  rw [h.same] at hsub
  have HMB : Hid (∀ A cap W, openOf s = [] → ErrsT ea W → TxIn W A cap (openOf s) → Calls Tryz.prog 12 #[.slice A (openOf s).length cap, .int .i64 (c.size : Int)] W fun e w' => e = .returned (.tuple #[.slice none 0 0, .iface 159 (.pointer (some (ea (gv 5))))]) ∧ Below W.heap.size W w') := Lib.hid fun A cap W h0 hEw hT => by
    refine (make_bad ea A cap (openOf s) (c.size : Int) ⟨5, none⟩ W hEw hT (by unfold tableFault; rw [h0]; rfl)).mono fun e w' ⟨t, a, he, ⟨ht, ha⟩, hb⟩ => ⟨?_, hb⟩
    subst ht; subst ha
    exact he
  have HMG : Hid (∀ A cap W, openOf s ≠ [] → ErrsT ea W → TxIn W A cap (openOf s) → Calls Tryz.prog 12 #[.slice A (openOf s).length cap, .int .i64 (c.size : Int)] W (MakeGood (openOf s) c.size W)) := Lib.hid fun A cap W h0 hEw hT => make_good ea A cap (openOf s) c.size W hEw hT (sub_table hO.tf hsub (List.length_pos_iff.2 h0))
  have HSL : Hid (openOf s ≠ [] → ∀ j, j < c.size → ∃ q : Nat, (slotsI (openOf s) c.size)[j]? = some (q : Int) ∧ q < (openOf s).length ∧ (openOf s)[q]? = some (hostAt (openOf s) c.size j)) := Lib.hid fun h0 j hj => slots_host (List.length_pos_iff.2 h0) hn2 hd hj
  obtain ⟨T, j, hj, hjn, hTu, hm1, hm2, HT⟩ := turn_some k c.size hU hn2
  have hFP : Hid (∀ e w', Below w.heap.size w w' → ((openOf s = [] ∧ e = .returned (.tuple #[.string ⟨#[]⟩, errB ea 5])) ∨ (openOf s ≠ [] ∧ e = .returned (.tuple #[.string (hostAt (openOf s) c.size j), .nilIface]))) → FreshPost ea (openOf s) c.size k w e w') := Lib.hid fun e w' h1 h2 => ⟨h1, by rw [← hj.out]; exact h2⟩
  have hl12 : (openOf s).length ≤ 12 := Nat.le_trans hsub.length_le (hosts_fit hO.hf).1
  unfold ptr at HUp
  unfold TextsPost at HUp
  clear h h1 hE hO hX hb0 hsub hd hn hj hU hlen
  generalize c.size = n at *
  generalize openOf s = o at *
  generalize ups s.st = u at *
  go_enter Tryz.func17, Tryz.ntmps17
  go_wp2_with fail
  generalize hW1 : w.alloc (.cells #[.pointer (some ⟨p.bp, 0, none⟩)] 25) = W1 at *
  clear hW1
  refine HUp.out.mono ?_
  rintro e w2 ⟨A, cap, rfl, ho2, hb2⟩
  have HD2 := Lib.hid (HDel.out A cap w2 ho2 hb2)
  clear ho2 hb2 HUp HDel c0 cx
  go_wp2_with fail
  refine HD2.out.mono ?_
  rintro e w3 ⟨A', cap', rfl, hT3, hb3⟩
  obtain ⟨d0, d2⟩ := HC.out w3 hb3
  have hE3 := HEW.out w3 hb3
  have HB3 := Lib.hid hb3
  by_cases h0 : o = []
  · have HM := Lib.hid (HMB.out A' cap' w3 h0 hE3 hT3)
    have HF := Lib.hid (fun w' (hb : Below w.heap.size w w') => hFP.out _ w' hb (.inl ⟨h0, rfl⟩))
    clear hT3 hE3 hb3 HMB HMG HSL h0 HD2
    go_wp2_with fail
    refine HM.out.mono ?_
    rintro e w4 ⟨rfl, hb4⟩
    have HB4 := Lib.hid hb4
    clear hb4
    go_wp2
    go_ret2
    exact HF.out _ ((HB0.out.trans (HB3.out.mono HB0.out.size)).trans (HB4.out.mono (Nat.le_trans HB0.out.size HB3.out.size)))
  · have HM := Lib.hid (HMG.out A' cap' w3 h0 hE3 hT3)
    have HF := Lib.hid (fun w' (hb : Below w.heap.size w w') => hFP.out _ w' hb (.inr ⟨h0, rfl⟩))
    obtain ⟨q, hq, hql, hqo⟩ := HSL.out h0 j hjn
    have HR3 := Lib.hid hT3.r
    clear hE3 hb3 HMB HMG HSL h0 HD2 hFP
    unfold MakeGood at HM
    go_wp2_with fail
    refine HM.out.mono ?_
    rintro e w4 ⟨g, rfl, hg4, hgl, hb4⟩
    have hb34 := HB3.out.trans (hb4.mono HB3.out.size)
    obtain ⟨e0, e2⟩ := HC.out w4 hb34
    have ej : w4.cell? ⟨g, j, none⟩ = some (.int .i64 (q : Int)) := by
      rw [hg4.cell j, tableOf_ints]
      simp [hq, intV]
    obtain ⟨ad, u', hA, hadb, hu', hcq⟩ := HR3.out.at_ hql
    subst hA
    have eq_ : w4.cell? (ad.add q) = some (.string (hostAt o n j)) := by
      rw [hb4.cell (by rw [block_of_add]; exact hadb), hcq, ← hu']
      simp [strV, hqo]
    have HB4 := Lib.hid hb34
    have hj2 : (j : Int) < n := by omega
    have hql2 : (q : Int) < o.length := by omega
    have hnz : ¬ (n : Int) = 0 := by omega
    have hwn : IntKind.u64.wrap (n : Int) = (n : Int) := IntWalk.u64_in _ (by omega)
    have hT0 : (0 : Int) ≤ (T : Int) := by omega
    generalize hostAt o n j = ht at *
    clear hg4 hgl hb4 hb34 hq hql hqo hu' hcq hadb HR3 d0 d2 hTu
    go_wp2_with fail
    go_quiet ((go_at_call 33; exact quiet_left (HT.out _)))
    go_wp2
    go_ret2
    exact HF.out _ (below_drewN (HB0.out.trans (HB4.out.mono HB0.out.size)) _)
end Go.Proofs.YtnmkdmehljkedaaGreatDoor
