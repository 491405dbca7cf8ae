/-
  A balance's New, Drain, Flows and Epoch.
-/
import Derived.Test.YtnmkdmehljkedaaGreatDoorPick
namespace Go.Proofs.YtnmkdmehljkedaaGreatDoor
open Go.RowKit

theorem info_str : (Tryz.prog.info? 9).map (fun i => (i.zero, i.size, i.bytes)) = some (some (.string ⟨#[]⟩), 1, 16) := by kernel_rfl
theorem strV_one (l : List ByteArray) : ∀ u ∈ strV l, u.oneCell' = true := by
  intro u hu
  unfold strV at hu
  obtain ⟨s, _, rfl⟩ := List.mem_map.1 hu
  rfl
theorem own_empty (w : World) (e : TypeId) (size : Nat) (B : Nat) (hB : B ≤ w.heap.size) : (w.alloc (.cells #[] e)).ownsRow B e size (.slice (some ⟨w.heap.size, 0, none⟩) 0 0) 0 [] :=
  ⟨by simp, .inr ⟨w.heap.size, 0, #[], rfl, hB, heap_alloc_new w _, Nat.le_refl _, Nat.zero_le _, by simp, by simp⟩⟩
def CloneStr (l : List ByteArray) (w : World) (e : Ending) (w' : World) : Prop := ∃ A cap, e = .returned (.slice A l.length cap) ∧ w'.ownsRow w.heap.size 9 1 (.slice A l.length cap) l.length (strV l) ∧ Below w.heap.size w w'
set_option maxRecDepth 100000 in
set_option maxHeartbeats 1000000 in
theorem clone_any (ad : Addr) (c : Nat) (l : List ByteArray) (w : World) (hr : Reads w w.heap.size 1 (some ad) l.length (strV l)) (hl : l.length ≤ 1000) :
    Calls Tryz.prog 14 #[.slice (some ad) l.length c] w (CloneStr l w) := by
  obtain ⟨i0, hi0, hz0, hz1, hz2⟩ := info_parts info_str
  have HR := Lib.hid (hr.alloc (Nat.le_refl _) (.cells #[] 9))
  have HO := Lib.hid (own_empty w 9 1 w.heap.size (Nat.le_refl _))
  have HN := Lib.hid (strV_one l)
  have HP : Hid (∀ v w1, w1.ownsRow w.heap.size 9 1 v l.length (strV l) → (w.alloc (.cells #[] 9)).grownBy w1 (some w.heap.size) → CloneStr l w (.returned v) w1) := Lib.hid fun v w1 h1 h2 => by
    obtain ⟨A, cap, rfl, _⟩ := own_slice h1
    exact ⟨A, cap, rfl, h1, ((Below.refl _ _).alloc (Nat.le_refl _) _).trans ((Turn.of_grown (bs := [w.heap.size]) h2 fun j hj => by cases hj; simp).below (B := w.heap.size) (by simp) (by simp))⟩
  have heq : ∀ W : World, (binOp .eql 24 (.slice (some ad) l.length c) (.slice none 0 0)).run Tryz.prog W = .ok (.bool false) W := fun W => Lib.run_eql_slice_nil W _ _ (some ad) _ _ _ _ Tryz.underlying24
  clear hr
  go_enter Tryz.func14, Tryz.ntmps14
  go_wp2_with (first
    | (at_builtin
       go_must (refine wpList_append_any _ rfl (.tmp 5) (.tmp 6) _ rfl w.heap.size 9 i0 _ 1 16 Tryz.underlying24 hi0 hz0 hz1 hz2 rfl (by omega) (.slice (some ⟨w.heap.size, 0, none⟩) 0 0) 0 [] rfl HO.out w.heap.size (some ad) l.length c _ rfl HR.out HN.out (by simp only [maxLen]; omega) (by omega) (by simp) ?_)
       intro v1 w1 hown1 hg1 _
       simp only [Nat.zero_add, List.nil_append] at hown1
       have HO1 := Lib.hid (HP.out _ _ hown1 hg1)
       clear hown1 hg1))
  go_ret
  exact HO1.out
/-- A balance that is new. -/
def newS (c : BCfg) : BS := ⟨fresh c.hosts, (0, []), fun _ => false, 0, 0⟩
def NewBal (c : BCfg) (w : World) (e : Ending) (w' : World) : Prop := ∃ p, e = .returned (.tuple #[.pointer (some ⟨p.bp, 0, none⟩), .nilIface]) ∧ BalAt w' w.heap.size p c (newS c) ∧ Below w.heap.size w w'
theorem fresh_looks (l : List ByteArray) : ∀ x ∈ fresh l, x.looks < 10 := by
  intro x hx
  obtain ⟨s, _, rfl⟩ := List.mem_map.1 hx
  show 0 < 10
  omega
theorem fresh_hosts (l : List ByteArray) : hosts (fresh l) = l := by simp [hosts, fresh, Function.comp_def]
set_option maxRecDepth 100000 in
set_option maxHeartbeats 1000000 in
theorem balNew_ok (ea : Nat → Addr) (A : Option Addr) (cp : Nat) (c : BCfg) (w : World) (hE : ErrsB ea w) (hT : TxIn w A cp c.hosts) (hO : BOk c) :
    Calls Tryz.prog 5 #[.slice A c.hosts.length cp, .int .i64 (c.size : Int), .int .i64 (c.time : Int), .int .i64 (c.fall : Int), .int .i64 (c.rise : Int)] w (NewBal c w) := by
  obtain ⟨ad, rfl⟩ : ∃ ad, A = some ad := by obtain ⟨ad, h, _⟩ := hT.r.2 hO.h0; exact ⟨ad, h⟩
  obtain ⟨hl12, hsz⟩ := hosts_fit hO.hf
  have h0 := hO.h0
  have H1 := Lib.hid (new_ok ea (some ad) cp w.heap.size c.hosts c.fall c.rise w hE.t.e3 hT.r (Nat.le_refl _) hT.lc hT.lm hsz hO.hf hl12 hO.f1 hO.f2 hO.r1 hO.r2)
  have H2 : Hid (∀ W, Below w.heap.size w W → Calls Tryz.prog 12 #[.slice (some ad) c.hosts.length cp, .int .i64 (c.size : Int)] W (MakeGood c.hosts c.size W)) := Lib.hid fun W hW => make_good ea _ cp c.hosts c.size W (hE.below hW).t (hT.below hW) hO.tf
  have H3 : Hid (∀ W, Calls Tryz.prog 13 #[.int .i64 (c.time : Int)] W (NewFlows c.time W)) := Lib.hid fun W => newFlows_ok c.time W hO.t1 hO.t2
  have H4 : Hid (∀ W, Below w.heap.size w W → Calls Tryz.prog 14 #[.slice (some ad) c.hosts.length cp] W (CloneStr c.hosts W)) := Lib.hid fun W hW => clone_any ad cp c.hosts W (hT.below hW).r (by omega)
  have HF : Hid (∀ w1 w2 w3 w4 hp sv ps fp mb A' cap', HealthR w1 w.heap.size hp c.fall c.rise (Go.Proofs.YtnmkdmehljkedaaGreatDoor.fresh c.hosts) sv ps → Below w.heap.size w w1 → Below w1.heap.size w1 w2 → FlowsR w3 fp mb c.time 0 [] → w2.heap.size ≤ fp → w2.heap.size ≤ mb → Below w2.heap.size w2 w3 → w4.ownsRow w3.heap.size 9 1 (.slice A' c.hosts.length cap') c.hosts.length (strV c.hosts) → Below w3.heap.size w3 w4 →
      NewBal c w (.returned (.tuple #[.pointer (some ⟨w4.heap.size + 1, 0, none⟩), .nilIface])) ((w4.alloc (.map #[] 0)).alloc (.cells #[.pointer (some ⟨hp, 0, none⟩), .slice A' c.hosts.length cap', .int .i64 (c.size : Int), .pointer (some ⟨fp, 0, none⟩), .map (some w4.heap.size), .int .i64 0] 44))) := Lib.hid fun w1 w2 w3 w4 hp sv ps fp mb A' cap' hH hb1 hb2 hf hfp hmb hb3 hrow hb4 => by
    have b5 := (Below.refl w4.heap.size w4).alloc (Nat.le_refl _) (.map #[] 0)
    have b6 := (Below.refl (w4.alloc (.map #[] 0)).heap.size (w4.alloc (.map #[] 0))).alloc (Nat.le_refl _) (.cells #[.pointer (some ⟨hp, 0, none⟩), .slice A' c.hosts.length cap', .int .i64 (c.size : Int), .pointer (some ⟨fp, 0, none⟩), .map (some w4.heap.size), .int .i64 0] 44)
    have b46 := below_two b5 b6
    have s1 := hb1.size
    have s2 := hb2.size
    have s3 := hb3.size
    have s4 := hb4.size
    have e5 : (w4.alloc (.map #[] 0)).heap.size = w4.heap.size + 1 := by simp
    have hmb4 := hf.map.lt
    refine ⟨⟨w4.heap.size + 1, hp, fp, mb, w4.heap.size, .slice A' c.hosts.length cap', sv, ps⟩, rfl, ⟨?_, own_base (own_below hrow b46) (by omega), (((hH.below hb2).below hb3).below hb4).below b46, (hf.below hb4).below b46, (DrIs.made w4).below b6, ?_, fresh_hosts _, fresh_looks _, ?_, ?_, ?_, ?_⟩, below_two (below_two (below_two (below_two hb1 hb2) hb3) hb4) b46⟩
    · have := Blk.new (w4.alloc (.map #[] 0)) 44 #[.pointer (some ⟨hp, 0, none⟩), .slice A' c.hosts.length cap', .int .i64 (c.size : Int), .pointer (some ⟨fp, 0, none⟩), .map (some w4.heap.size), .int .i64 0]
      rw [e5] at this
      exact this
    · dsimp only; omega
    · dsimp only; omega
    · dsimp only; omega
    · dsimp only; omega
    · dsimp only; omega
  have hne : ¬ (c.hosts.length : Int) = 0 := by omega
  unfold ptr at H1
  unfold MakeGood at H2
  unfold NewFlows at H3
  unfold CloneStr at H4
  have hmm := @run_makeMap Tryz.prog
  clear hE hT hO
  go_enter Tryz.func5, Tryz.ntmps5
  go_wp2_with fail
  refine H1.out.mono ?_
  rintro e w1 ⟨hp, sv, ps, rfl, hH, hb1⟩
  have H2' := Lib.hid (H2.out w1 hb1)
  have HH := Lib.hid hH
  have HB1 := Lib.hid hb1
  clear hH hb1 H1 H2
  go_wp2_with fail
  refine H2'.out.mono ?_
  rintro e w2 ⟨g, rfl, _, _, hb2⟩
  have HB2 := Lib.hid hb2
  clear hb2 H2'
  go_wp2_with fail
  refine (H3.out w2).mono ?_
  rintro e w3 ⟨fp, mb, rfl, hf, hfp, hmb, hb3⟩
  have HFl := Lib.hid hf
  have HFp := Lib.hid hfp
  have HMb := Lib.hid hmb
  have HB3 := Lib.hid hb3
  have H4' := Lib.hid (H4.out w3 (below_two (below_two HB1.out HB2.out) hb3))
  clear hf hfp hmb hb3 H3 H4
  go_wp2_with fail
  refine H4'.out.mono ?_
  rintro e w4 ⟨A', cap', rfl, hrow, hb4⟩
  have HG := Lib.hid (HF.out w1 w2 w3 w4 hp sv ps fp mb A' cap' HH.out HB1.out HB2.out HFl.out HFp.out HMb.out HB3.out hrow hb4)
  clear hrow hb4 HF H4'
  go_wp2
  go_ret2
  exact HG.out
def DrainPost (ea : Nat → Addr) (lo : Nat) (p : BPl) (c : BCfg) (s : BS) (x : ByteArray) (v : Bool) (w : World) (e : Ending) (w' : World) : Prop :=
  (x ∈ c.hosts ∧ e = .returned .nilIface ∧ BalAt w' lo p c { s with dr := fun y => if y = x then v else s.dr y, nd := s.nd + 1 } ∧ Turn [p.db] w w') ∨ (x ∉ c.hosts ∧ e = .returned (errB ea 5) ∧ BalAt w' lo p c s ∧ Below w.heap.size w w')
theorem flowsB_any {lo : Nat} {p : BPl} {c : BCfg} {s : BS} (w : World) (h : BalAt w lo p c s) : Calls Tryz.prog 8 #[.pointer (some ⟨p.bp, 0, none⟩)] w (FlsPost s.fs.2 w) := by
  have HL := Lib.hid (list_any w h.f)
  have c3 : w.cell? ⟨p.bp, 3, none⟩ = some (.pointer (some ⟨p.fp, 0, none⟩)) := h.blk.cell 3
  unfold FlsPost at HL ⊢
  generalize s.fs.2 = L at *
  clear h
  go_enter Tryz.func8, Tryz.ntmps8
  go_wp2_with fail
  refine HL.out.mono ?_
  rintro e w1 ⟨v, rfl, ho, hb⟩
  have HO := Lib.hid ho
  have HB := Lib.hid hb
  clear ho hb
  go_wp2
  go_ret
  exact ⟨v, rfl, HO.out, HB.out⟩
theorem epochB_any {lo : Nat} {p : BPl} {c : BCfg} {s : BS} (w : World) (h : BalAt w lo p c s) : Calls Tryz.prog 9 #[.pointer (some ⟨p.bp, 0, none⟩)] w fun e w' => e = .returned (.int .i64 (s.epoch : Int)) ∧ w = w' := by
  have c5 : w.cell? ⟨p.bp, 5, none⟩ = some (.int .i64 (s.epoch : Int)) := h.blk.cell 5
  clear h
  go_enter Tryz.func9, Tryz.ntmps9
  go_wp2
  go_ret
  exact ⟨rfl, rfl⟩
end Go.Proofs.YtnmkdmehljkedaaGreatDoor
