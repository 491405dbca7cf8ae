/-
  A balance's New, Drain, Flows and Epoch.
  A balance's picks in plain words: a key stays with its host.
  A balance in a law's walk: what stands, and each act.
  A balance's Look.
  The closed fact balanced; the balances that the laws make.
-/
import Derived.Test.YthkfhfldoniolaaGreatDoorPick
import Derived.Test.YthkfhfldoniolaaGreatDoorLists
namespace Go.Proofs.YthkfhfldoniolaaGreatDoor
open Go.RowKit

theorem info_str : (Tryz.prog.info? 9).map (fun i => (i.zero, i.size, i.bytes)) = some (some (.string ⟨#[]⟩), 1, 16) := by kernel_rfl
theorem strV_one (l : List ByteArray) : ∀ u ∈ strV l, u.oneCell' = true := by
  intro u hu
  unfold strV at hu
  obtain ⟨s, _, rfl⟩ := List.mem_map.1 hu
  rfl
theorem own_empty (w : World) (e : TypeId) (size : Nat) (B : Nat) (hB : B ≤ w.heap.size) : (w.alloc (.cells #[] e)).ownsRow B e size (.slice (some ⟨w.heap.size, 0, none⟩) 0 0) 0 [] :=
  ⟨by simp, .inr ⟨w.heap.size, 0, #[], rfl, hB, heap_alloc_new w _, Nat.le_refl _, Nat.zero_le _, by simp, by simp⟩⟩
def CloneStr (l : List ByteArray) (w : World) (e : Ending) (w' : World) : Prop := ∃ A cap, e = .returned (.slice A l.length cap) ∧ w'.ownsRow w.heap.size 9 1 (.slice A l.length cap) l.length (strV l) ∧ Below w.heap.size w w'
set_option maxRecDepth 100000 in
set_option maxHeartbeats 1000000 in
theorem clone_any (ad : Addr) (c : Nat) (l : List ByteArray) (w : World) (hr : Reads w w.heap.size 1 (some ad) l.length (strV l)) (hl : l.length ≤ 1000) :
    Calls Tryz.prog 83 #[.slice (some ad) l.length c] w (CloneStr l w) := by
  obtain ⟨i0, hi0, hz0, hz1, hz2⟩ := info_parts info_str
  have HR := Lib.hid (hr.alloc (Nat.le_refl _) (.cells #[] 9))
  have HO := Lib.hid (own_empty w 9 1 w.heap.size (Nat.le_refl _))
  have HN := Lib.hid (strV_one l)
  have HP : Hid (∀ v w1, w1.ownsRow w.heap.size 9 1 v l.length (strV l) → (w.alloc (.cells #[] 9)).grownBy w1 (some w.heap.size) → CloneStr l w (.returned v) w1) := Lib.hid fun v w1 h1 h2 => by
    obtain ⟨A, cap, rfl, _⟩ := own_slice h1
    exact ⟨A, cap, rfl, h1, ((Below.refl _ _).alloc (Nat.le_refl _) _).trans ((Turn.of_grown (bs := [w.heap.size]) h2 fun j hj => by cases hj; simp).below (B := w.heap.size) (by simp) (by simp))⟩
  have heq : ∀ W : World, (binOp .eql 24 (.slice (some ad) l.length c) (.slice none 0 0)).run Tryz.prog W = .ok (.bool false) W := fun W => Lib.run_eql_slice_nil W _ _ (some ad) _ _ _ _ Tryz.underlying24
  clear hr
  go_enter Tryz.func83, Tryz.ntmps83
  go_wp2_with (first
    | (at_builtin
       go_must (refine wpList_append_any _ rfl (.tmp 5) (.tmp 6) _ rfl w.heap.size 9 i0 _ 1 16 Tryz.underlying24 hi0 hz0 hz1 hz2 rfl (by omega) (.slice (some ⟨w.heap.size, 0, none⟩) 0 0) 0 [] rfl HO.out w.heap.size (some ad) l.length c _ rfl HR.out HN.out (by simp only [maxLen]; omega) (by omega) (by simp) ?_)
       intro v1 w1 hown1 hg1 _
       simp only [Nat.zero_add, List.nil_append] at hown1
       have HO1 := Lib.hid (HP.out _ _ hown1 hg1)
       clear hown1 hg1))
  go_ret
  exact HO1.out
/-- A balance that is new. -/
def newS (c : BCfg) : BS := ⟨fresh c.hosts, (0, []), fun _ => false, 0, 0⟩
def NewBal (c : BCfg) (w : World) (e : Ending) (w' : World) : Prop := ∃ p, e = .returned (.tuple #[.pointer (some ⟨p.bp, 0, none⟩), .nilIface]) ∧ BalAt w' w.heap.size p c (newS c) ∧ Below w.heap.size w w'
theorem fresh_looks (l : List ByteArray) : ∀ x ∈ fresh l, x.looks < 10 := by
  intro x hx
  obtain ⟨s, _, rfl⟩ := List.mem_map.1 hx
  show 0 < 10
  omega
theorem fresh_hosts (l : List ByteArray) : hosts (fresh l) = l := by simp [hosts, fresh, Function.comp_def]
set_option maxRecDepth 100000 in
set_option maxHeartbeats 1000000 in
theorem balNew_ok (ea : Nat → Addr) (A : Option Addr) (cp : Nat) (c : BCfg) (w : World) (hE : ErrsB ea w) (hT : TxIn w A cp c.hosts) (hO : BOk c) :
    Calls Tryz.prog 82 #[.slice A c.hosts.length cp, .int .i64 (c.size : Int), .int .i64 (c.time : Int), .int .i64 (c.fall : Int), .int .i64 (c.rise : Int)] w (NewBal c w) := by
  obtain ⟨ad, rfl⟩ : ∃ ad, A = some ad := by obtain ⟨ad, h, _⟩ := hT.r.2 hO.h0; exact ⟨ad, h⟩
  obtain ⟨hl12, hsz⟩ := hosts_fit hO.hf
  have h0 := hO.h0
  have H1 := Lib.hid (new_ok ea (some ad) cp w.heap.size c.hosts c.fall c.rise w hE.t.e3 hT.r (Nat.le_refl _) hT.lc hT.lm hsz hO.hf hl12 hO.f1 hO.f2 hO.r1 hO.r2)
  have H2 : Hid (∀ W, Below w.heap.size w W → Calls Tryz.prog 73 #[.slice (some ad) c.hosts.length cp, .int .i64 (c.size : Int)] W (MakeGood c.hosts c.size W)) := Lib.hid fun W hW => make_good ea _ cp c.hosts c.size W (hE.below hW).t (hT.below hW) hO.tf
  have H3 : Hid (∀ W, Calls Tryz.prog 133 #[.int .i64 (c.time : Int)] W (NewFlows c.time W)) := Lib.hid fun W => newFlows_ok c.time W hO.t1 hO.t2
  have H4 : Hid (∀ W, Below w.heap.size w W → Calls Tryz.prog 83 #[.slice (some ad) c.hosts.length cp] W (CloneStr c.hosts W)) := Lib.hid fun W hW => clone_any ad cp c.hosts W (hT.below hW).r (by omega)
  have HF : Hid (∀ w1 w2 w3 w4 hp sv ps fp mb A' cap', HealthR w1 w.heap.size hp c.fall c.rise (Go.Proofs.YthkfhfldoniolaaGreatDoor.fresh c.hosts) sv ps → Below w.heap.size w w1 → Below w1.heap.size w1 w2 → FlowsR w3 fp mb c.time 0 [] → w2.heap.size ≤ fp → w2.heap.size ≤ mb → Below w2.heap.size w2 w3 → w4.ownsRow w3.heap.size 9 1 (.slice A' c.hosts.length cap') c.hosts.length (strV c.hosts) → Below w3.heap.size w3 w4 →
      NewBal c w (.returned (.tuple #[.pointer (some ⟨w4.heap.size + 1, 0, none⟩), .nilIface])) ((w4.alloc (.map #[] 0)).alloc (.cells #[.pointer (some ⟨hp, 0, none⟩), .slice A' c.hosts.length cap', .int .i64 (c.size : Int), .pointer (some ⟨fp, 0, none⟩), .map (some w4.heap.size), .int .i64 0] 166))) := Lib.hid fun w1 w2 w3 w4 hp sv ps fp mb A' cap' hH hb1 hb2 hf hfp hmb hb3 hrow hb4 => by
    have b5 := (Below.refl w4.heap.size w4).alloc (Nat.le_refl _) (.map #[] 0)
    have b6 := (Below.refl (w4.alloc (.map #[] 0)).heap.size (w4.alloc (.map #[] 0))).alloc (Nat.le_refl _) (.cells #[.pointer (some ⟨hp, 0, none⟩), .slice A' c.hosts.length cap', .int .i64 (c.size : Int), .pointer (some ⟨fp, 0, none⟩), .map (some w4.heap.size), .int .i64 0] 166)
    have b46 := below_two b5 b6
    have s1 := hb1.size
    have s2 := hb2.size
    have s3 := hb3.size
    have s4 := hb4.size
    have e5 : (w4.alloc (.map #[] 0)).heap.size = w4.heap.size + 1 := by simp
    have hmb4 := hf.map.lt
    refine ⟨⟨w4.heap.size + 1, hp, fp, mb, w4.heap.size, .slice A' c.hosts.length cap', sv, ps⟩, rfl, ⟨?_, own_base (own_below hrow b46) (by omega), (((hH.below hb2).below hb3).below hb4).below b46, (hf.below hb4).below b46, (DrIs.made w4).below b6, ?_, fresh_hosts _, fresh_looks _, ?_, ?_, ?_, ?_⟩, below_two (below_two (below_two (below_two hb1 hb2) hb3) hb4) b46⟩
    · have := Blk.new (w4.alloc (.map #[] 0)) 166 #[.pointer (some ⟨hp, 0, none⟩), .slice A' c.hosts.length cap', .int .i64 (c.size : Int), .pointer (some ⟨fp, 0, none⟩), .map (some w4.heap.size), .int .i64 0]
      rw [e5] at this
      exact this
    · dsimp only; omega
    · dsimp only; omega
    · dsimp only; omega
    · dsimp only; omega
    · dsimp only; omega
  have hne : ¬ (c.hosts.length : Int) = 0 := by omega
  unfold ptr at H1
  unfold MakeGood at H2
  unfold NewFlows at H3
  unfold CloneStr at H4
  have hmm := @run_makeMap Tryz.prog
  clear hE hT hO
  go_enter Tryz.func82, Tryz.ntmps82
  go_wp2_with fail
  refine H1.out.mono ?_
  rintro e w1 ⟨hp, sv, ps, rfl, hH, hb1⟩
  have H2' := Lib.hid (H2.out w1 hb1)
  have HH := Lib.hid hH
  have HB1 := Lib.hid hb1
  clear hH hb1 H1 H2
  go_wp2_with fail
  refine H2'.out.mono ?_
  rintro e w2 ⟨g, rfl, _, _, hb2⟩
  have HB2 := Lib.hid hb2
  clear hb2 H2'
  go_wp2_with fail
  refine (H3.out w2).mono ?_
  rintro e w3 ⟨fp, mb, rfl, hf, hfp, hmb, hb3⟩
  have HFl := Lib.hid hf
  have HFp := Lib.hid hfp
  have HMb := Lib.hid hmb
  have HB3 := Lib.hid hb3
  have H4' := Lib.hid (H4.out w3 (below_two (below_two HB1.out HB2.out) hb3))
  clear hf hfp hmb hb3 H3 H4
  go_wp2_with fail
  refine H4'.out.mono ?_
  rintro e w4 ⟨A', cap', rfl, hrow, hb4⟩
  have HG := Lib.hid (HF.out w1 w2 w3 w4 hp sv ps fp mb A' cap' HH.out HB1.out HB2.out HFl.out HFp.out HMb.out HB3.out hrow hb4)
  clear hrow hb4 HF H4'
  go_wp2
  go_ret2
  exact HG.out
def DrainPost (ea : Nat → Addr) (lo : Nat) (p : BPl) (c : BCfg) (s : BS) (x : ByteArray) (v : Bool) (w : World) (e : Ending) (w' : World) : Prop :=
  (x ∈ c.hosts ∧ e = .returned .nilIface ∧ BalAt w' lo p c { s with dr := fun y => if y = x then v else s.dr y, nd := s.nd + 1 } ∧ Turn [p.db] w w') ∨ (x ∉ c.hosts ∧ e = .returned (errB ea 5) ∧ BalAt w' lo p c s ∧ Below w.heap.size w w')
set_option maxRecDepth 100000 in
set_option maxHeartbeats 1000000 in
theorem drain_any (ea : Nat → Addr) {lo : Nat} {p : BPl} {c : BCfg} {s : BS} (x : ByteArray) (v : Bool) (w : World) (hE : ErrsB ea w) (h : BalAt w lo p c s) (hx : x.size ≤ maxLen) (hn : s.nd < 1000000) :
    Calls Tryz.prog 100 #[.pointer (some ⟨p.bp, 0, none⟩), .string x, .bool v] w (DrainPost ea lo p c s x v w) := by
  obtain ⟨A, cap, hv, hr, hcap, hm⟩ := own_slice h.row
  have c1 : w.cell? ⟨p.bp, 1, none⟩ = some (.slice A c.hosts.length cap) := by rw [← hv]; exact h.blk.cell 1
  have c4 : w.cell? ⟨p.bp, 4, none⟩ = some (.map (some p.db)) := h.blk.cell 4
  have HC := Lib.hid (contains_strings A cap w.heap.size c.hosts x w hr hm)
  have e5 := hE.t.c5
  dsimp only [gv] at e5
  unfold DrainPost
  by_cases hmem : x ∈ c.hosts
  · have hH : has c.hosts x = true := has_iff.2 hmem
    rw [hH] at HC
    obtain ⟨w', hrun, hd', hg⟩ := h.d.put v hx (by unfold maxLen; omega)
    have HP : Hid (BalAt w' lo p c { s with dr := fun y => if y = x then v else s.dr y, nd := s.nd + 1 } ∧ Turn [p.db] w w') := Lib.hid (by
      have ht : Turn [p.db] w w' := Turn.of_grown hg fun j hj => by cases hj; simp
      exact ⟨h.turnD hd' ht, ht⟩)
    have HM := Lib.hid hmem
    clear h hE hd' hg hH hmem hr hv
    go_enter Tryz.func100, Tryz.ntmps100
    go_wp2_with fail
    refine HC.out.mono ?_
    rintro e w1 ⟨rfl, rfl⟩
    go_wp2
    go_ret
    exact .inl ⟨HM.out, rfl, HP.out.1, HP.out.2⟩
  · have hH : has c.hosts x = false := by
      cases hb : has c.hosts x with
      | false => rfl
      | true => exact absurd (has_iff.1 hb) hmem
    rw [hH] at HC
    have HP : Hid (BalAt w lo p c s) := Lib.hid h
    have HM := Lib.hid hmem
    clear h hE hH hmem hr hv
    go_enter Tryz.func100, Tryz.ntmps100
    go_wp2_with fail
    refine HC.out.mono ?_
    rintro e w1 ⟨rfl, rfl⟩
    go_wp2
    go_ret
    exact .inr ⟨HM.out, rfl, HP.out, Below.refl _ _⟩
theorem flowsB_any {lo : Nat} {p : BPl} {c : BCfg} {s : BS} (w : World) (h : BalAt w lo p c s) : Calls Tryz.prog 105 #[.pointer (some ⟨p.bp, 0, none⟩)] w (FlsPost s.fs.2 w) := by
  have HL := Lib.hid (list_any w h.f)
  have c3 : w.cell? ⟨p.bp, 3, none⟩ = some (.pointer (some ⟨p.fp, 0, none⟩)) := h.blk.cell 3
  unfold FlsPost at HL ⊢
  generalize s.fs.2 = L at *
  clear h
  go_enter Tryz.func105, Tryz.ntmps105
  go_wp2_with fail
  refine HL.out.mono ?_
  rintro e w1 ⟨v, rfl, ho, hb⟩
  have HO := Lib.hid ho
  have HB := Lib.hid hb
  clear ho hb
  go_wp2
  go_ret
  exact ⟨v, rfl, HO.out, HB.out⟩
end Go.Proofs.YthkfhfldoniolaaGreatDoor

namespace Go.Proofs.YthkfhfldoniolaaGreatDoor
open Go.RowKit

theorem findF_iff {L : List Fl} (hr : Rise L) {k : Nat} {y : Fl} : findF L k = some y ↔ y ∈ L ∧ y.key = k :=
  ⟨findF_some, fun ⟨h1, h2⟩ => by rw [← h2]; exact findF_mem hr h1⟩
theorem putF_lowB {L : List Fl} {x : Fl} (hl : L.length < 200) : putF L x = insF x (delF x.key L) := by
  have e : roomF L x.key = L := by unfold roomF; rw [if_pos (.inr hl)]
  unfold putF
  rw [e]
theorem rise_put {L : List Fl} (hr : Rise L) (x : Fl) : Rise (putF L x) := by
  unfold putF
  exact (roomF_rise hr _).put
theorem put_same {L : List Fl} (hr : Rise L) (x : Fl) : findF (putF L x) x.key = some x := by
  refine (findF_iff (rise_put hr x)).2 ⟨?_, rfl⟩
  unfold putF
  exact mem_insF.2 (.inl rfl)
theorem put_mem {L : List Fl} {x y : Fl} (hl : L.length < 200) : y ∈ putF L x ↔ y = x ∨ (y ∈ L ∧ y.key ≠ x.key) := by
  rw [putF_lowB hl, mem_insF]
  constructor
  · rintro (h | h)
    · exact .inl h
    · exact .inr ⟨delF_mem h, delF_key h⟩
  · rintro (h | ⟨h1, h2⟩)
    · exact .inl h
    · exact .inr (List.mem_filter.2 ⟨h1, by simpa using h2⟩)
theorem put_other {L : List Fl} (hr : Rise L) {x : Fl} (hl : L.length < 200) {k : Nat} {y : Fl} (hk : k ≠ x.key) (h : findF L k = some y) : findF (putF L x) k = some y := by
  obtain ⟨h1, h2⟩ := findF_some h
  exact (findF_iff (rise_put hr x)).2 ⟨(put_mem hl).2 (.inr ⟨h1, by rw [h2]; exact hk⟩), h2⟩
theorem put_len {L : List Fl} {x : Fl} (hl : L.length < 200) : (putF L x).length ≤ L.length + 1 := by
  rw [putF_lowB hl, insF_length]
  have := List.length_filter_le (fun y => !decide (y.key = x.key)) L
  show (List.filter (fun y => !decide (y.key = x.key)) L).length + 1 ≤ _
  omega
theorem tick_zero {l n : Nat} (h1 : l ≤ n) (h2 : n ≤ 1099511627776) : tickE l (n : Int) = 0 := by
  unfold tickE
  rw [if_neg (by omega), if_neg (by omega)]
/-- What a pick does where some host is open. -/
theorem pickS_step {c : BCfg} {s : BS} {k n : Nat} (h1 : s.fs.1 ≤ n) (h2 : n ≤ 1099511627776) (ho : openOf s ≠ []) (htf : tableFault (openOf s) (c.size : Int) = none) (h0 : 0 < c.size) :
    ∃ (h : ByteArray) (kept : Bool), pickS c s k n = ((h, kept, 0), { s with fs := (n, putF s.fs.2 ⟨k, h, (n : Int) + c.time⟩) }) ∧
      ((kept = true ∧ ∃ y, findF s.fs.2 k = some y ∧ (n : Int) < y.til ∧ y.host = h ∧ upOf s.st h = true) ∨ (kept = false ∧ h ∈ openOf s ∧ ∀ y, findF s.fs.2 k = some y → ¬ ((n : Int) < y.til ∧ upOf s.st y.host = true))) := by
  unfold pickS
  rw [if_pos (tick_zero h1 h2), Int.toNat_natCast]
  cases hk : keptOf s k n with
  | some x =>
    refine ⟨x, true, rfl, .inl ⟨rfl, ?_⟩⟩
    unfold keptOf at hk
    cases hg : getF s.fs.2 k n with
    | none => rw [hg] at hk; cases hk
    | some z =>
      rw [hg] at hk
      dsimp only at hk
      split at hk
      · obtain rfl := Option.some.inj hk
        unfold getF at hg
        cases hf : findF s.fs.2 k with
        | none => rw [hf] at hg; cases hg
        | some y =>
          rw [hf] at hg
          dsimp only at hg
          split at hg
          · cases hg
          · obtain rfl := Option.some.inj hg
            exact ⟨y, rfl, by omega, rfl, ‹_›⟩
      · cases hk
  | none =>
    dsimp only
    rw [if_neg ho]
    refine ⟨_, false, rfl, .inr ⟨rfl, hostAt_mem ho htf (Nat.mod_lt _ h0), fun y hf hy => ?_⟩⟩
    unfold keptOf getF at hk
    rw [hf] at hk
    dsimp only at hk
    rw [if_neg (by omega)] at hk
    dsimp only at hk
    rw [if_pos hy.2] at hk
    cases hk
/-- What stands between picks: those of keys that were picked are there, with their hosts. -/
structure PInv (keys : List Nat) (was : List ByteArray) (Q : Nat → Prop) (n cnt : Nat) (s : BS) : Prop where
  rise : Rise s.fs.2
  len : s.fs.2.length ≤ cnt
  last : s.fs.1 ≤ n
  up : ∀ y ∈ s.fs.2, upOf s.st y.host = true ∧ 20 ≤ y.til
  old : ∀ (j k : Nat) (x : ByteArray), keys[j]? = some k → was[j]? = some x → Q j → ∃ y, findF s.fs.2 k = some y ∧ y.host = x
theorem PInv.step {keys : List Nat} {was : List ByteArray} {Q : Nat → Prop} {n cnt : Nat} {s : BS} {c : BCfg} {k n' : Nat} (h : PInv keys was Q n cnt s) (hc : cnt < 200) (ht : c.time = 20) (hn : n ≤ n') (hn2 : n' < 20) (ho : openOf s ≠ []) (htf : tableFault (openOf s) (c.size : Int) = none) (h0 : 0 < c.size) (hou : ∀ x ∈ openOf s, upOf s.st x = true) :
    ∃ (x : ByteArray) (kept : Bool), pickS c s k n' = ((x, kept, 0), { s with fs := (n', putF s.fs.2 ⟨k, x, (n' : Int) + c.time⟩) }) ∧ PInv keys was Q n' (cnt + 1) { s with fs := (n', putF s.fs.2 ⟨k, x, (n' : Int) + c.time⟩) } ∧
      findF (putF s.fs.2 ⟨k, x, (n' : Int) + c.time⟩) k = some ⟨k, x, (n' : Int) + c.time⟩ ∧ (∀ y, findF s.fs.2 k = some y → kept = true ∧ y.host = x) ∧ (kept = false → x ∈ openOf s) ∧ upOf s.st x = true := by
  obtain ⟨x, kept, hp, hk⟩ := pickS_step (c := c) (s := s) (k := k) (n := n') (Nat.le_trans h.last hn) (by omega) ho htf h0
  have hl : s.fs.2.length < 200 := Nat.lt_of_le_of_lt h.len hc
  have hux : upOf s.st x = true := by
    rcases hk with ⟨_, y, _, _, _, hu⟩ | ⟨_, hm, _⟩
    · exact hu
    · exact hou x hm
  have hin : ∀ y, findF s.fs.2 k = some y → kept = true ∧ y.host = x := fun y hf => by
    obtain ⟨hy, _⟩ := findF_some hf
    obtain ⟨u1, u2⟩ := h.up y hy
    rcases hk with ⟨hkt, y', hf', _, hx, _⟩ | ⟨_, _, hno⟩
    · rw [hf] at hf'
      obtain rfl := Option.some.inj hf'
      exact ⟨hkt, hx⟩
    · exact absurd ⟨by omega, u1⟩ (hno y hf)
  refine ⟨x, kept, hp, ⟨rise_put h.rise _, Nat.le_trans (put_len hl) (Nat.succ_le_succ h.len), Nat.le_refl _, fun y hy => ?_, fun j k' z hkj hwj hQ => ?_⟩, put_same h.rise _, hin, fun hkf => ?_, hux⟩
  · rcases (put_mem hl).1 hy with rfl | ⟨hy, _⟩
    · exact ⟨hux, by dsimp only; rw [ht]; omega⟩
    · exact h.up y hy
  · obtain ⟨y, hf, hz⟩ := h.old j k' z hkj hwj hQ
    by_cases he : k' = k
    · subst he
      exact ⟨_, put_same h.rise _, by rw [← hz]; exact (hin y hf).2.symm⟩
    · exact ⟨y, put_other h.rise hl he hf, hz⟩
  · rcases hk with ⟨hkt, _⟩ | ⟨_, hm, _⟩
    · rw [hkt] at hkf; cases hkf
    · exact hm
/-- One key more is remembered. -/
theorem PInv.more {keys : List Nat} {was : List ByteArray} {Q : Nat → Prop} {n cnt k : Nat} {s : BS} {x : ByteArray} (h : PInv keys was Q n cnt s) (hk : keys[was.length]? = some k) (hf : ∃ y, findF s.fs.2 k = some y ∧ y.host = x) : PInv keys (was ++ [x]) Q n cnt s := by
  refine ⟨h.rise, h.len, h.last, h.up, fun j k' z hkj hwj hQ => ?_⟩
  by_cases hj : j < was.length
  · rw [List.getElem?_append_left hj] at hwj
    exact h.old j k' z hkj hwj hQ
  · rw [List.getElem?_append_right (by omega)] at hwj
    have hj0 : j - was.length = 0 := by
      rcases Nat.eq_zero_or_pos (j - was.length) with h0 | h0
      · exact h0
      · rw [List.getElem?_eq_none (by simp; omega)] at hwj; cases hwj
    rw [hj0] at hwj
    obtain rfl : j = was.length := by omega
    rw [hk] at hkj
    obtain rfl := Option.some.inj hkj
    simp at hwj
    subst hwj
    exact hf
theorem upOf_fresh {l : List ByteArray} {x : ByteArray} (hx : x ∈ l) : upOf (fresh l) x = true := by
  obtain ⟨j, hj, hi, _⟩ := idx_mem hx
  unfold upOf
  rw [fresh_hosts, hi]
  have : (fresh l)[j]? = some ⟨l[j], true, 0⟩ := by simp [fresh, List.getElem?_eq_getElem hj]
  show (match (fresh l)[j]? with | some s => s.up | none => false) = true
  rw [this]
theorem ups_fresh (l : List ByteArray) : ups (fresh l) = l := by
  unfold ups fresh
  rw [List.filter_eq_self.2 (by intro a ha; obtain ⟨s, _, rfl⟩ := List.mem_map.1 ha; rfl)]
  simp [Function.comp_def]
theorem openOf_new (c : BCfg) : openOf (newS c) = c.hosts := by
  unfold openOf newS
  dsimp only
  rw [ups_fresh]
  simp
theorem PInv.new (keys : List Nat) (Q : Nat → Prop) (c : BCfg) : PInv keys [] Q 0 0 (newS c) :=
  ⟨List.Pairwise.nil, Nat.zero_le _, Nat.le_refl _, fun y hy => by simp [newS] at hy, fun j k x _ hx _ => by simp at hx⟩
end Go.Proofs.YthkfhfldoniolaaGreatDoor

namespace Go.Proofs.YthkfhfldoniolaaGreatDoor
open Go.RowKit

/-- All blocks that a balance is read from. -/
def BPl.all (p : BPl) : List Nat := p.bp :: p.hp :: p.fp :: p.mb :: p.db :: (p.ps ++ (p.hv.ownBlock.toList ++ p.sv.ownBlock.toList))
section
variable {ea : Nat → Addr} {w W W' : World} {lo hi : Nat} {p : BPl} {c : BCfg} {s s' : BS} {bs : List Nat}
theorem BalAt.lt (h : BalAt W lo p c s) : ∀ b ∈ p.all, b < W.heap.size := by
  intro b hb
  unfold BPl.all at hb
  simp only [List.mem_cons, List.mem_append, Option.mem_toList] at hb
  rcases hb with rfl | rfl | rfl | rfl | rfl | hb | hb | hb
  · exact h.blk.lt
  · exact h.h.blk.lt
  · exact h.f.blk.lt
  · exact h.f.map.lt
  · exact h.d.lt
  · exact h.h.lt b hb
  · exact (h.row.lt b hb).2
  · exact (h.h.own.lt b hb).2
theorem BalAt.away (h : BalAt W lo p c s) (ht : Turn bs W W') (hd : ∀ b ∈ p.all, b ∉ bs) : BalAt W' lo p c s := by
  unfold BPl.all at hd
  simp only [List.mem_cons, List.mem_append, Option.mem_toList] at hd
  exact ⟨ht.blk h.blk (hd _ (.inl rfl)), ht.own h.row fun g hg => hd g (.inr (.inr (.inr (.inr (.inr (.inr (.inl hg))))))), h.h.turn ht (hd _ (.inr (.inl rfl))) (fun q hq => hd q (.inr (.inr (.inr (.inr (.inr (.inl hq))))))) (fun g hg => hd g (.inr (.inr (.inr (.inr (.inr (.inr (.inr hg)))))))), h.f.turn ht (hd _ (.inr (.inr (.inl rfl)))) (hd _ (.inr (.inr (.inr (.inl rfl))))), h.d.turn ht (hd _ (.inr (.inr (.inr (.inr (.inl rfl)))))), h.ne, h.same, h.lk, h.ab⟩
/-- What stands in a law: a balance, whose blocks lie in front of hi. -/
structure BNow (ea : Nat → Addr) (w W : World) (lo hi : Nat) (p : BPl) (c : BCfg) (s : BS) : Prop where
  b : BalAt W lo p c s
  le : w.heap.size ≤ lo
  hi : ∀ b ∈ p.all, b < hi
  w : Below w.heap.size w W
  e : ErrsB ea W
theorem BNow.below (h : BNow ea w W lo hi p c s) (hb : Below W.heap.size W W') : BNow ea w W' lo hi p c s := ⟨h.b.below hb, h.le, h.hi, below_two h.w hb, h.e.below hb⟩
theorem BNow.turn (h : BNow ea w W lo hi p c s) (hB : BalAt W' lo p c s') (ht : Turn bs W W') (hs : ∀ b ∈ bs, b ∈ p.bs) : BNow ea w W' lo hi p c s' :=
  ⟨hB, h.le, h.hi, h.w.trans (ht.below h.w.size fun b hb => Nat.le_trans h.le (h.b.bsLo b (hs b hb))), h.e.turn h.b ht hs⟩
/-- A row of texts behind hi is written on. -/
theorem BNow.row {B n : Nat} {e : TypeId} {size : Nat} {v : Value} {xs : List Value} (h : BNow ea w W lo hi p c s) (ho : W.ownsRow B e size v n xs) (hB : hi ≤ B) (hw : w.heap.size ≤ B) (he : ErrsB ea W → ErrsB ea W') (hg : W.grownBy W' v.ownBlock) : BNow ea w W' lo hi p c s := by
  have ht : Turn v.ownBlock.toList W W' := Turn.of_grown hg fun g hg => by simpa using hg
  have hlo : ∀ b ∈ v.ownBlock.toList, B ≤ b := fun b hb => (ho.lt b (by simpa using hb)).1
  exact ⟨h.b.away ht fun b hb hm => by have := h.hi b hb; have := hlo b hm; omega, h.le, h.hi, h.w.trans (ht.below h.w.size fun b hb => Nat.le_trans hw (hlo b hb)), he h.e⟩
/-! Acts. -/
def NewAs (ea : Nat → Addr) (w : World) (c : BCfg) (W : World) (e : Ending) (w' : World) : Prop := ∃ p, e = .returned (.tuple #[.pointer (some ⟨p.bp, 0, none⟩), .nilIface]) ∧ BNow ea w w' W.heap.size w'.heap.size p c (newS c) ∧ Below W.heap.size W w'
theorem bn_new {A : Option Addr} {cp : Nat} (hE : ErrsB ea W) (hw : Below w.heap.size w W) (hT : TxIn W A cp c.hosts) (hO : BOk c) :
    Calls Tryz.prog 82 #[.slice A c.hosts.length cp, .int .i64 (c.size : Int), .int .i64 (c.time : Int), .int .i64 (c.fall : Int), .int .i64 (c.rise : Int)] W (NewAs ea w c W) :=
  (balNew_ok ea A cp c W hE hT hO).mono fun _ _ ⟨p, a, b, d⟩ => ⟨p, a, ⟨b, hw.size, b.lt, below_two hw d, hE.below d⟩, d⟩
end
end Go.Proofs.YthkfhfldoniolaaGreatDoor

namespace Go.Proofs.YthkfhfldoniolaaGreatDoor
open Go.RowKit

/-- The states behind a look, and whether the host turned. -/
def lookR1 (c : BCfg) (s : BS) (x : ByteArray) (well : Bool) : List St × Bool := lookAll s.st (idx (hosts s.st) x) fun q => lookSt c.fall c.rise q well
def lookB (c : BCfg) (s : BS) (x : ByteArray) (well : Bool) : (Bool × Nat) × BS :=
  (((lookR1 c s x well).2, remCode (hosts s.st) x), if (lookR1 c s x well).2 = true ∧ well = false then { s with st := (lookR1 c s x well).1, fs := (dropS s.fs x).2 } else { s with st := (lookR1 c s x well).1 })
theorem lookSt_lk {fall rise : Nat} {q : St} {well : Bool} (h1 : fall ≤ 10) (h2 : rise ≤ 10) (hq : q.looks < 10) : (lookSt fall rise q well).1.looks < 10 := by
  unfold lookSt
  split
  · show 0 < 10; omega
  · split
    · split
      · show q.looks + 1 < 10; omega
      · show 0 < 10; omega
    · split
      · show q.looks + 1 < 10; omega
      · show 0 < 10; omega
theorem lookSt_host {fall rise : Nat} {q : St} {well : Bool} : (lookSt fall rise q well).1.host = q.host := by
  unfold lookSt
  split
  · rfl
  · split
    · split <;> rfl
    · split <;> rfl
theorem set_same_host {st : List St} {k : Nat} {q q' : St} (hq : st[k]? = some q) (hh : q'.host = q.host) : hosts (st.set k q') = hosts st := by
  unfold hosts
  rw [List.map_set, hh]
  have hk : k < st.length := (List.getElem?_eq_some_iff.1 hq).1
  have : (st.map (·.host))[k]? = some q.host := by rw [List.getElem?_map, hq]; rfl
  apply List.ext_getElem?
  intro i
  rw [List.getElem?_set]
  split
  · rename_i hi
    subst hi
    rw [this, if_pos (by simpa using hk)]
  · rfl
theorem lookR1_facts {c : BCfg} {s : BS} {x : ByteArray} {well : Bool} (h1 : c.fall ≤ 10) (h2 : c.rise ≤ 10) (hl : ∀ q ∈ s.st, q.looks < 10) : hosts (lookR1 c s x well).1 = hosts s.st ∧ ∀ q ∈ (lookR1 c s x well).1, q.looks < 10 := by
  unfold lookR1 lookAll
  split
  · exact ⟨rfl, hl⟩
  · split
    · rename_i q hq
      refine ⟨set_same_host hq lookSt_host, fun r hr => ?_⟩
      rcases List.mem_or_eq_of_mem_set hr with hr | rfl
      · exact hl r hr
      · exact lookSt_lk h1 h2 (hl q (List.mem_of_getElem? hq))
    · exact ⟨rfl, hl⟩
section
variable {ea : Nat → Addr} {w W W' : World} {lo hi : Nat} {p : BPl} {c : BCfg} {s s' : BS}
theorem BalAt.turnH {st' : List St} (h : BalAt w lo p c s) (hh : HealthR W' lo p.hp c.fall c.rise st' p.sv p.ps) (ht : Turn p.ps w W') (hs : hosts st' = hosts s.st) (hl : ∀ x ∈ st', x.looks < 10) : BalAt W' lo p c { s with st := st' } := by
  obtain ⟨es, cl, hm⟩ := h.f.map.heap
  obtain ⟨es2, cl2, hd⟩ := h.d.heap
  have hn : ∀ {g t cs}, Blk w g t cs → t ≠ 225 → g ∉ p.ps := fun {g t cs} hb hne hg => by
    obtain ⟨x, hx⟩ := h.pbs hg
    exact hb.ne_ hx hne rfl
  have hnm : ∀ {g es cl}, w.heap[g]? = some (.map es cl) → g ∉ p.ps := fun {g es cl} hm hg => by
    obtain ⟨x, hx⟩ := h.pbs hg
    exact blk_not_map hm hx rfl
  refine ⟨ht.blk h.blk (hn h.blk (by decide)), ht.own h.row fun g hg hgp => ?_, hh, h.f.turn ht (hn h.f.blk (by decide)) (hnm hm), h.d.turn ht (hnm hd), h.ne, hs.trans h.same, hl, h.ab⟩
  obtain ⟨x, hx⟩ := h.pbs hgp
  exact own_blk_ne h.row hx (by decide) hg
def LookAs (ea : Nat → Addr) (w : World) (lo hi : Nat) (p : BPl) (c : BCfg) (r : (Bool × Nat) × BS) (W : World) (e : Ending) (w' : World) : Prop :=
  e = .returned (.tuple #[.bool r.1.1, errZ ea r.1.2]) ∧ BNow ea w w' lo hi p c r.2 ∧ Turn p.bs W w'
set_option maxRecDepth 100000 in
set_option maxHeartbeats 1000000 in
theorem bn_look (x : ByteArray) (well : Bool) (h : BNow ea w W lo hi p c s) (hO : BOk c) :
    Calls Tryz.prog 98 #[.pointer (some ⟨p.bp, 0, none⟩), .string x, .bool well] W (LookAs ea w lo hi p c (lookB c s x well) W) := by
  have hlk := h.b.lk
  obtain ⟨hf1, hf2⟩ := lookR1_facts (c := c) (s := s) (x := x) (well := well) hO.f2 hO.r2 hlk
  have HL := Lib.hid (look_op ea x well W h.b.h h.e.t.c5 (fun q hq => Nat.lt_of_lt_of_le (hlk q hq) (by omega)))
  have hps : ∀ b ∈ p.ps, b ∈ p.bs := fun b hb => by unfold BPl.bs; simp [hb]
  have hL1 : Hid (Calls Tryz.prog 152 #[.pointer (some ⟨p.hp, 0, none⟩), .string x, .bool well] W fun e w' => e = .returned (.tuple #[.bool (lookR1 c s x well).2, errZ ea (remCode (hosts s.st) x)]) ∧ BNow ea w w' lo hi p c { s with st := (lookR1 c s x well).1 } ∧ Turn p.bs W w') := Lib.hid (HL.out.mono fun e w' ⟨a, b, t⟩ => by
    refine ⟨?_, h.turn (h.b.turnH b t hf1 hf2) t hps, t.more hps⟩
    rw [a]
    unfold errZ errB remCode
    split <;> rfl)
  have hD1 : Hid (∀ w1, BNow ea w w1 lo hi p c { s with st := (lookR1 c s x well).1 } → Turn p.bs W w1 → Calls Tryz.prog 153 #[.pointer (some ⟨p.fp, 0, none⟩), .string x] w1 fun e w' => ∃ n : Nat, e = .returned (.int .i64 (n : Int)) ∧ BNow ea w w' lo hi p c { s with st := (lookR1 c s x well).1, fs := (dropS s.fs x).2 } ∧ Turn p.bs W w') := Lib.hid fun w1 h1 t1 => by
    refine (drop_all (s := s.fs) x h1.b.f).mono fun e w' ⟨a, b, t⟩ => ⟨_, a, h1.turn (h1.b.turnF b t) t p.fm, t1.then (t.more p.fm)⟩
  have c0 : W.cell? ⟨p.bp, 0, none⟩ = some (.pointer (some ⟨p.hp, 0, none⟩)) := h.b.blk.cell 0
  have HP : Hid (∀ e w', (e = .returned (.tuple #[.bool (lookR1 c s x well).2, errZ ea (remCode (hosts s.st) x)]) ∧ BNow ea w w' lo hi p c (if (lookR1 c s x well).2 = true ∧ well = false then { s with st := (lookR1 c s x well).1, fs := (dropS s.fs x).2 } else { s with st := (lookR1 c s x well).1 }) ∧ Turn p.bs W w') → LookAs ea w lo hi p c (lookB c s x well) W e w') := Lib.hid fun e w' hh => hh
  generalize hLB : lookB c s x well = LB at *
  clear hLB
  generalize lookR1 c s x well = r at *
  generalize errZ ea (remCode (hosts s.st) x) = ev at *
  obtain ⟨st', tb⟩ := r
  dsimp only at hL1 hD1 HP
  clear HL h hf1 hf2 hlk hps
  cases tb <;> cases well
  case true.false =>
    go_enter Tryz.func98, Tryz.ntmps98
    go_wp2_with fail
    refine hL1.out.mono ?_
    rintro e w1 ⟨rfl, hB1, ht1⟩
    have c3 : w1.cell? ⟨p.bp, 3, none⟩ = some (.pointer (some ⟨p.fp, 0, none⟩)) := hB1.b.blk.cell 3
    have HD2 := Lib.hid (hD1.out w1 hB1 ht1)
    clear hB1 ht1 hL1 hD1
    go_wp2_with fail
    refine HD2.out.mono ?_
    rintro e w2 ⟨n, rfl, hB2, ht2⟩
    have HF := Lib.hid (HP.out _ _ ⟨rfl, by rw [if_pos (by simp)]; exact hB2, ht2⟩)
    clear hB2 ht2 HP
    go_wp2
    go_ret2
    exact HF.out
  all_goals
    go_enter Tryz.func98, Tryz.ntmps98
    go_wp2_with fail
    refine hL1.out.mono ?_
    rintro e w1 ⟨rfl, hB1, ht1⟩
    have HF := Lib.hid (HP.out _ _ ⟨rfl, by rw [if_neg (by simp)]; exact hB1, ht1⟩)
    clear hB1 ht1 hL1 hD1 HP
    go_wp2
    go_ret2
    exact HF.out
end
end Go.Proofs.YthkfhfldoniolaaGreatDoor

namespace Go.Proofs.YthkfhfldoniolaaGreatDoor
open Go.RowKit

theorem errsB_of {ea : Nat → Addr} {w : World} {gs : List Nat} (h : ErrsAt w ea gs) (h2 : gv 2 ∈ gs) (h3 : gv 3 ∈ gs) (h4 : gv 4 ∈ gs) (h5 : gv 5 ∈ gs) (h6 : gv 6 ∈ gs) (h8 : gv 8 ∈ gs) : ErrsB ea w :=
  ⟨⟨⟨(h.at_ _ h2).1, (h.at_ _ h4).1, (h.at_ _ h6).1⟩, ⟨(h.at_ _ h2).1, (h.at_ _ h3).1⟩, (h.at_ _ h5).1⟩, ⟨(h.at_ _ h2).1, (h.at_ _ h4).1, (h.at_ _ h8).1⟩⟩
def sA : ByteArray := ⟨#[97]⟩
def sB : ByteArray := ⟨#[98]⟩
def sC : ByteArray := ⟨#[99]⟩
def sD : ByteArray := ⟨#[100]⟩
def c4 : BCfg := ⟨[sA, sB, sC, sD], 31, 20, 1, 1⟩
theorem size_ok {l : List ByteArray} {n : Nat} (hf : hostsFault l = none) (h0 : 0 < l.length) (hs : sizeFault (n : Int) = none) : tableFault l (n : Int) = none := by
  unfold tableFault
  rw [if_neg (by omega), hf]
  exact hs
theorem size_prime {n : Nat} (h1 : 2 ≤ n) (h2 : n ≤ 503) (hd : noDiv n) : sizeFault (n : Int) = none := by
  unfold sizeFault
  rw [if_neg (by omega), if_pos (by simpa using hd)]
theorem txIn_lit {w : World} {l : List ByteArray} (hl : l.length ≤ 12) (hs : ∀ s ∈ l, s.size ≤ maxLen) : TxIn (w.alloc (.cells (strV l).toArray 9)) (some ⟨w.heap.size, 0, none⟩) l.length l := by
  refine ⟨?_, Nat.le_refl _, by unfold maxLen; omega, hs⟩
  have := blk_reads (Blk.new w 9 (strV l).toArray)
  simpa [strV] using this
end Go.Proofs.YthkfhfldoniolaaGreatDoor
