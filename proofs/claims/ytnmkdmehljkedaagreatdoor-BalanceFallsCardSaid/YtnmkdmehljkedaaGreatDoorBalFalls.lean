/-
  The law BalanceFalls: its walk.
-/
import Derived.Test.YtnmkdmehljkedaaGreatDoorBalanced
import Derived.Test.YtnmkdmehljkedaaGreatDoorBalLook
namespace Go.Proofs.YtnmkdmehljkedaaGreatDoor
open Go.RowKit

theorem falls_ways {a : Nat} {k : Int} (h : 60 < a ∨ k < 0 ∨ 3 < k) : decide ((a : Int) > 60) = true ∨ (decide ((a : Int) > 60) = false ∧ decide (k < 0) = true) ∨ (decide ((a : Int) > 60) = false ∧ decide (k < 0) = false ∧ decide (k > 3) = true) := by
  simp only [decide_eq_true_eq, decide_eq_false_iff_not]; omega
set_option maxRecDepth 100000 in
set_option maxHeartbeats 1000000 in
theorem falls_skip (ea : Nat → Addr) (A : Option Addr) (ca a : Nat) (k : Int) (w : World) (hE : ErrsB ea w) (h : 60 < a ∨ k < 0 ∨ 3 < k) :
    Calls Tryz.prog 3 #[.slice A a ca, .int .i64 k] w (True1 w) := by
  have HW := Lib.hid (balanced_any ea w hE)
  have hw := falls_ways h
  clear hE h
  rcases hw with d1 | ⟨d1, d2⟩ | ⟨d1, d2, d3⟩
  all_goals
    go_enter Tryz.func3, Tryz.ntmps3
    go_wp2_with fail
    refine HW.out.mono ?_
    rintro e w1 ⟨rfl, hb1⟩
    go_wp2
    go_ret
    exact ⟨rfl, hb1⟩
/-- What stands in the law's walk. -/
structure Fal (ea : Nat → Addr) (w W : World) (lo hi gh : Nat) (p : BPl) (old : List Nat) (Q : Nat → Prop) (n cnt : Nat) (st0 : List St) (was : List ByteArray) (v : Value) (s : BS) : Prop where
  b : BNow ea w W lo hi p c4 s
  i : PInv old was Q n cnt s
  sst : s.st = st0
  sdr : s.dr = fun _ => false
  row : W.ownsRow hi 9 1 v was.length (strV was)
  blk : Blk W gh 9 (strV c4.hosts).toArray
  gl : gh < lo
  lh : lo ≤ hi
  wh : w.heap.size ≤ hi
  hz : hi ≤ W.heap.size
section
variable {ea : Nat → Addr} {w W W' : World} {lo hi gh : Nat} {p : BPl} {old : List Nat} {Q : Nat → Prop} {n cnt : Nat} {st0 : List St} {was : List ByteArray} {v : Value} {s : BS}
theorem Fal.below (h : Fal ea w W lo hi gh p old Q n cnt st0 was v s) (hb : Below W.heap.size W W') : Fal ea w W' lo hi gh p old Q n cnt st0 was v s :=
  ⟨h.b.below hb, h.i, h.sst, h.sdr, own_below h.row hb, h.blk.below hb h.blk.lt, h.gl, h.lh, h.wh, Nat.le_trans h.hz hb.size⟩
theorem Fal.app {x : ByteArray} {k : Nat} {v' : Value} (h : Fal ea w W lo hi gh p old Q n cnt st0 was v s) (hE : ErrsB ea w) (hk : old[was.length]? = some k) (hf : ∃ y, findF s.fs.2 k = some y ∧ y.host = x) (ho : W'.ownsRow hi 9 1 v' (was.length + 1) (strV was ++ [.string x])) (hg : W.grownBy W' v.ownBlock) : Fal ea w W' lo hi gh p old Q n cnt st0 (was ++ [x]) v' s := by
  refine ⟨h.b.row h.row (Nat.le_refl _) h.wh (fun _ => errs_row hE h.b.w h.row h.wh hg) hg, h.i.more hk hf, h.sst, h.sdr, by simpa [strV] using ho, h.blk.grown hg fun e => ?_, h.gl, h.lh, h.wh, Nat.le_trans h.hz hg.size⟩
  have := (h.row.lt gh e.symm).1
  have := h.gl
  have := h.lh
  omega
theorem Fal.open_ (h : Fal ea w W lo hi gh p old Q n cnt st0 was v s) : openOf s = ups st0 := by
  unfold openOf
  rw [h.sst, h.sdr]
  simp
theorem ups_up {st : List St} {x : ByteArray} (hn : (hosts st).Nodup) (hx : x ∈ ups st) : upOf st x = true := by
  unfold ups at hx
  obtain ⟨q, hq, rfl⟩ := List.mem_map.1 hx
  obtain ⟨hq1, hq2⟩ := List.mem_filter.1 hq
  obtain ⟨i, hi, rfl⟩ := List.mem_iff_getElem.1 hq1
  have hm : st[i].host ∈ hosts st := List.mem_map.2 ⟨_, hq1, rfl⟩
  obtain ⟨j, hj, hji, hjg⟩ := idx_mem hm
  have hj2 : j < st.length := by rw [hosts_len] at hj; exact hj
  have he : j = i := by
    have h1 : (hosts st)[j]'hj = st[i].host := by
      rw [List.getElem?_eq_getElem hj] at hjg
      exact Option.some.inj hjg
    have hi2 : i < (hosts st).length := by rw [hosts_len]; exact hi
    have h2 : (hosts st)[i]'hi2 = st[i].host := hosts_get hi
    rcases Nat.lt_trichotomy j i with h | h | h
    · exact absurd (h1.trans h2.symm) (List.pairwise_iff_getElem.1 hn j i hj hi2 h)
    · exact h
    · exact absurd (h2.trans h1.symm) (List.pairwise_iff_getElem.1 hn i j hi2 hj h)
  subst he
  unfold upOf
  rw [hji]
  show (match st[j]? with | some s => s.up | none => false) = true
  rw [List.getElem?_eq_getElem hj2]
  exact hq2
def FalPost (ea : Nat → Addr) (w : World) (lo hi gh : Nat) (p : BPl) (old : List Nat) (Q : Nat → Prop) (n cnt : Nat) (st0 : List St) (was : List ByteArray) (v : Value) (x : ByteArray) (kept : Bool) (s' : BS) (e : Ending) (w' : World) : Prop :=
  e = .returned (.tuple #[.string x, .bool kept, .nilIface]) ∧ Fal ea w w' lo hi gh p old Q n cnt st0 was v s'
theorem fal_pick (k n' : Nat) (h : Fal ea w W lo hi gh p old Q n cnt st0 was v s) (hc : cnt < 200) (hn : n ≤ n') (hn2 : n' < 20) (ho : ups st0 ≠ []) (hU : U64 k) :
    ∃ (x : ByteArray) (kept : Bool) (s' : BS), Hid (Calls Tryz.prog 6 #[.pointer (some ⟨p.bp, 0, none⟩), .int .u64 (k : Int), .int .i64 (n' : Int)] W (FalPost ea w lo hi gh p old Q n' (cnt + 1) st0 was v x kept s')) ∧
      Hid (∃ y, findF s'.fs.2 k = some y ∧ y.host = x) ∧ Hid (∀ y, findF s.fs.2 k = some y → kept = true ∧ y.host = x) ∧ Hid (upOf st0 x = true) := by
  have hho : hosts st0 = c4.hosts := by rw [← h.sst]; exact h.b.b.same
  have hsub : (ups st0).Sublist c4.hosts := by rw [← hho]; exact ups_sub st0
  have hnd : (hosts st0).Nodup := by rw [hho]; exact (hostsFault_none.1 fault_4).2.2
  have htf := sub_table ok_4.tf hsub (List.length_pos_iff.2 ho)
  obtain ⟨x, kept, hp, hi', hf, hin, hop, hup⟩ := h.i.step (c := c4) (k := k) hc rfl hn hn2 (by rw [h.open_]; exact ho) (by rw [h.open_]; exact htf) (by decide) (fun y hy => by rw [h.open_] at hy; rw [h.sst]; exact ups_up hnd hy)
  refine ⟨x, kept, _, Lib.hid ((bn_pick k n' h.b ok_4 hU hp).mono fun e w' ⟨a, b, t⟩ => ⟨a, b, hi', h.sst, h.sdr, h.b.strs (by decide) h.row t, h.b.blkF (by decide) h.blk t, h.gl, h.lh, h.wh, Nat.le_trans h.hz t.size⟩), Lib.hid ⟨_, hf, rfl⟩, Lib.hid hin, Lib.hid (by rw [← h.sst]; exact hup)⟩
end
/-- A host of four falls: what the look does. -/
theorem fall_facts (k : Nat) (hk : k < 4) : ∃ x : ByteArray, (strV c4.hosts).toArray[k]? = some (.string x) ∧ x.size ≤ maxLen ∧ (lookAll (fresh c4.hosts) (idx (hosts (fresh c4.hosts)) x) fun q => lookSt 1 1 q false).2 = true ∧ remCode (hosts (fresh c4.hosts)) x = 0 ∧
    ups (lookAll (fresh c4.hosts) (idx (hosts (fresh c4.hosts)) x) fun q => lookSt 1 1 q false).1 ≠ [] ∧ upOf (lookAll (fresh c4.hosts) (idx (hosts (fresh c4.hosts)) x) fun q => lookSt 1 1 q false).1 x = false ∧
    ∀ y ∈ c4.hosts, y ≠ x → upOf (lookAll (fresh c4.hosts) (idx (hosts (fresh c4.hosts)) x) fun q => lookSt 1 1 q false).1 y = true := by
  match k, hk with
  | 0, _ => exact ⟨sA, rfl, by decide +kernel, by decide +kernel, by decide +kernel, by decide +kernel, by decide +kernel, by decide +kernel⟩
  | 1, _ => exact ⟨sB, rfl, by decide +kernel, by decide +kernel, by decide +kernel, by decide +kernel, by decide +kernel, by decide +kernel⟩
  | 2, _ => exact ⟨sC, rfl, by decide +kernel, by decide +kernel, by decide +kernel, by decide +kernel, by decide +kernel, by decide +kernel⟩
  | 3, _ => exact ⟨sD, rfl, by decide +kernel, by decide +kernel, by decide +kernel, by decide +kernel, by decide +kernel, by decide +kernel⟩
def FellPost (ea : Nat → Addr) (w : World) (lo hi gh : Nat) (p : BPl) (old : List Nat) (n cnt : Nat) (st0 : List St) (hw : ByteArray) (was : List ByteArray) (v : Value) (e : Ending) (w' : World) : Prop :=
  e = .returned (.tuple #[.bool true, .nilIface]) ∧ ∃ s', Fal ea w w' lo hi gh p old (fun j => was[j]? ≠ some hw) n cnt st0 was v s'
theorem fal_look {ea : Nat → Addr} {w W : World} {lo hi gh : Nat} {p : BPl} {old : List Nat} {n cnt : Nat} {was : List ByteArray} {v : Value} {s : BS} (hw : ByteArray) (h : Fal ea w W lo hi gh p old (fun _ => True) n cnt (fresh c4.hosts) was v s)
    (h1 : (lookAll (fresh c4.hosts) (idx (hosts (fresh c4.hosts)) hw) fun q => lookSt 1 1 q false).2 = true) (h2 : remCode (hosts (fresh c4.hosts)) hw = 0) (h3 : ∀ y ∈ c4.hosts, y ≠ hw → upOf (lookAll (fresh c4.hosts) (idx (hosts (fresh c4.hosts)) hw) fun q => lookSt 1 1 q false).1 y = true) :
    Calls Tryz.prog 7 #[.pointer (some ⟨p.bp, 0, none⟩), .string hw, .bool false] W (FellPost ea w lo hi gh p old n cnt (lookAll (fresh c4.hosts) (idx (hosts (fresh c4.hosts)) hw) fun q => lookSt 1 1 q false).1 hw was v) := by
  refine (bn_look hw false h.b ok_4).mono fun e w' ⟨a, b, t⟩ => ?_
  have hr : lookR1 c4 s hw false = (lookAll (fresh c4.hosts) (idx (hosts (fresh c4.hosts)) hw) fun q => lookSt 1 1 q false) := by unfold lookR1; rw [h.sst]; rfl
  unfold lookB at a b
  dsimp only at a b
  rw [hr, h1] at a b
  rw [h.sst, h2] at a
  rw [if_pos ⟨rfl, rfl⟩] at b
  have hall : ∀ b ∈ p.bs, lo ≤ b ∧ b < hi := fun b hb => ⟨h.b.b.bsLo b hb, h.b.hi b (by unfold BPl.bs at hb; unfold BPl.all; simp only [List.mem_cons, List.mem_append] at hb ⊢; rcases hb with h | h | h | h | h <;> simp [h])⟩
  refine ⟨a, _, b, ⟨h.i.rise.filter _, Nat.le_trans (List.length_filter_le _ _) h.i.len, h.i.last, fun y hy => ?_, fun j k x hkj hwj hQ => ?_⟩, rfl, h.sdr, t.own h.row fun g hg hgm => ?_, t.blk h.blk fun hgm => ?_, h.gl, h.lh, h.wh, Nat.le_trans h.hz t.size⟩
  · obtain ⟨hy1, hy2⟩ := List.mem_filter.1 hy
    obtain ⟨u1, u2⟩ := h.i.up y hy1
    rw [h.sst] at u1
    have hm := upOf_mem u1
    rw [fresh_hosts] at hm
    exact ⟨h3 y.host hm (by simpa using hy2), u2⟩
  · obtain ⟨y, hf, hx⟩ := h.i.old j k x hkj hwj trivial
    obtain ⟨m1, m2⟩ := findF_some hf
    have hne : x ≠ hw := fun e => hQ (by rw [hwj, e])
    exact ⟨y, (findF_iff (h.i.rise.filter _)).2 ⟨List.mem_filter.2 ⟨m1, by simpa [hx] using hne⟩, m2⟩, hx⟩
  · have := (h.row.lt g hg).1
    have := (hall g hgm).2
    omega
  · have := (hall gh hgm).1
    have := h.gl
    omega
theorem row_cell {W : World} {B n cap j : Nat} {A : Option Addr} {e : TypeId} {l : List ByteArray} (ho : W.ownsRow B e 1 (.slice A n cap) n (strV l)) (hj : j < l.length) : ∃ g, A = some ⟨g, 0, none⟩ ∧ W.cell? ⟨g, j, none⟩ = some (.string l[j]) := by
  have hn : l.length = n := by have := ho.1; simpa [strV] using this
  obtain ⟨g, cap', hv, _⟩ := ho.form (by omega)
  injection hv with hA
  subst hA
  have hr := Reads.of_own ho
  obtain ⟨ad, u, hA2, _, hu, hc⟩ := hr.at_ (k := j) (by omega)
  obtain rfl := Option.some.inj hA2
  have e2 : ((⟨g, 0, none⟩ : Addr).add j) = ⟨g, j, none⟩ := by
    by_cases h0 : j = 0
    · subst h0; rfl
    · simp [Addr.add, h0]
  rw [e2] at hc
  refine ⟨g, rfl, ?_⟩
  rw [hc, ← hu]
  simp [strV, hj]
set_option maxRecDepth 100000 in
set_option maxHeartbeats 2000000 in
theorem falls_walk (ea : Nat → Addr) (A : Option Addr) (ca k : Nat) (old : List Nat) (w : World) (hE : ErrsB ea w) (hr : Reads w w.heap.size 1 A old.length (keysV old)) (hu : ∀ k ∈ old, U64 k) (h1 : old.length ≤ 60) (h3 : k ≤ 3) :
    Calls Tryz.prog 3 #[.slice A old.length ca, .int .i64 (k : Int)] w (True1 w) := by
  obtain ⟨i0, hi0, hz0, hz1, hz2⟩ := info_parts info_str
  have HW := Lib.hid (balanced_any ea w hE)
  have d1 : decide ((old.length : Int) > 60) = false := by simp; omega
  have d3 : decide ((k : Int) < 0) = false := by simp
  have d4 : decide ((k : Int) > 3) = false := by simp; omega
  have HE := Lib.hid hE
  have HK := Lib.hid (fun i (hi : i < old.length) => keyAt2_of hr hi)
  have HU := Lib.hid hu
  obtain ⟨hw, hwc, hwz, hf1, hf2, hf3, hf4, hf5⟩ := fall_facts k (by omega)
  have HN : Hid (∀ W, Below w.heap.size w W → Calls Tryz.prog 5 #[.slice (some ⟨W.heap.size, 0, none⟩) 4 4, .int .i64 31, .int .i64 20, .int .i64 1, .int .i64 1] (W.alloc (.cells #[.string ⟨#[97]⟩, .string ⟨#[98]⟩, .string ⟨#[99]⟩, .string ⟨#[100]⟩] 9)) (NewAs ea w c4 (W.alloc (.cells #[.string ⟨#[97]⟩, .string ⟨#[98]⟩, .string ⟨#[99]⟩, .string ⟨#[100]⟩] 9)))) := Lib.hid fun W hW => by
    have hb1 := (Below.refl W.heap.size W).alloc (Nat.le_refl _) (.cells #[.string ⟨#[97]⟩, .string ⟨#[98]⟩, .string ⟨#[99]⟩, .string ⟨#[100]⟩] 9)
    exact bn_new (c := c4) ((HE.out.below hW).below hb1) (below_two hW hb1) (txIn_lit (l := c4.hosts) (by decide) (by decide +kernel)) ok_4
  have HDR : Hid (∀ W lo hi gh p n cnt was v s, Fal ea w W lo hi gh p old (fun _ => True) n cnt (fresh c4.hosts) was v s → Calls Tryz.prog 7 #[.pointer (some ⟨p.bp, 0, none⟩), .string hw, .bool false] W (FellPost ea w lo hi gh p old n cnt (lookAll (fresh c4.hosts) (idx (hosts (fresh c4.hosts)) hw) fun q => lookSt 1 1 q false).1 hw was v)) := Lib.hid fun W lo hi gh p n cnt was v s h => fal_look hw h hf1 hf2 hf5
  have hups : ups (fresh c4.hosts) ≠ [] := by rw [ups_fresh]; decide
  have HUPS := Lib.hid hups
  have HST := Lib.hid hf3
  have HNO := Lib.hid hf4
  clear hf1 hf2 hf3 hf4 hf5 hups
  generalize (lookAll (fresh c4.hosts) (idx (hosts (fresh c4.hosts)) hw) fun q => lookSt 1 1 q false).1 = st1 at *
  have HWW := Lib.hid (fun W lo hi gh p Q n cnt st0 was v s (h : Fal ea w W lo hi gh p old Q n cnt st0 was v s) => (h.blk.cell k).trans hwc)
  have hk4 : (k : Int) < 4 := by omega
  unfold NewAs at HN
  unfold FellPost at HDR
  clear hE hr hu hwz hwc
  go_enter Tryz.func3, Tryz.ntmps3
  go_wp2_with fail
  refine HW.out.mono ?_
  rintro e w1 ⟨rfl, hb1⟩
  have HN1 := Lib.hid (HN.out w1 hb1)
  clear hb1 HN
  go_wp2_with fail
  refine HN1.out.mono ?_
  rintro e w3 ⟨p, rfl, hB3, hb3⟩
  have HD0 : Hid (Fal ea w w3 (w1.alloc (.cells #[.string ⟨#[97]⟩, .string ⟨#[98]⟩, .string ⟨#[99]⟩, .string ⟨#[100]⟩] 9)).heap.size w3.heap.size w1.heap.size p old (fun _ => True) 0 0 (fresh c4.hosts) [] (.slice none 0 0) (newS c4)) := Lib.hid (by
    have hX := Blk.new w1 9 #[.string ⟨#[97]⟩, .string ⟨#[98]⟩, .string ⟨#[99]⟩, .string ⟨#[100]⟩]
    exact ⟨hB3, PInv.new _ _ _, rfl, rfl, World.ownsRow_nil _ _ _ _, hX.below hb3 hX.lt, by simp, hb3.size, hB3.w.size, Nat.le_refl _⟩)
  generalize (w1.alloc (.cells #[.string ⟨#[97]⟩, .string ⟨#[98]⟩, .string ⟨#[99]⟩, .string ⟨#[100]⟩] 9)).heap.size = lo at *
  generalize w3.heap.size = hi at *
  clear hB3 hb3 HN1
  go_wp2_with fail
  generalize w1.heap.size = gh at *
  go_loopw [9, 10] (fun sv iv wr => ∃ (i : Nat) (A' : Option Addr) (cap : Nat) (was : List ByteArray) (s : BS), i ≤ old.length ∧ sv = .slice A' i cap ∧ iv = .int .i64 (i : Int) ∧ Hid (was.length = i) ∧ Hid (Fal ea w wr lo hi gh p old (fun _ => True) 0 i (fresh c4.hosts) was (.slice A' i cap) s)) (fun _ iv _ => old.length + 1 - (intOf iv).toNat)
  case atStart => exact ⟨0, none, 0, [], newS c4, Nat.zero_le _, rfl, rfl, Lib.hid rfl, HD0⟩
  case round =>
    obtain ⟨i, A', cap, was, s, hile, rfl, rfl, hwl, hD⟩ := hrel
    clear HD0
    by_cases hil : i < old.length
    · have hil2 : (i : Int) < old.length := by omega
      obtain ⟨ad, rfl, hck⟩ := HK.out i hil
      have ck := hck wr hD.out.b.w
      have hoi : Hid (old[i]? = some old[i]) := Lib.hid (List.getElem?_eq_getElem hil)
      obtain ⟨x, kept, s', HP, HF, _, _⟩ := fal_pick old[i] 0 hD.out (by omega) (Nat.le_refl _) (by omega) HUPS.out (HU.out _ (List.getElem_mem hil))
      generalize old[i] = key at *
      unfold FalPost at HP
      clear hD hck
      go_wp2_with fail
      refine HP.out.mono ?_
      rintro e w4 ⟨rfl, hD4⟩
      have hb5 := (Below.refl w4.heap.size w4).alloc (Nat.le_refl _) (.cells #[.string x] 9)
      have HD5 := Lib.hid (hD4.below hb5)
      have HRW : Hid ((w4.alloc (.cells #[.string x] 9)).ownsRow hi 9 1 (.slice A' i cap) i (strV was)) := Lib.hid (by have := (hD4.below hb5).row; rw [hwl.out] at this; exact this)
      have HNW : Hid (Reads (w4.alloc (.cells #[.string x] 9)) (w4.alloc (.cells #[.string x] 9)).heap.size 1 (some ⟨w4.heap.size, 0, none⟩) 1 [.string x]) := Lib.hid (blk_reads (Blk.new w4 9 [Value.string x].toArray))
      have HSZ : Hid (hi ≤ (w4.alloc (.cells #[.string x] 9)).heap.size) := Lib.hid HD5.out.hz
      have HAP : Hid (∀ v' W', W'.ownsRow hi 9 1 v' (i + 1) (strV was ++ [.string x]) → (w4.alloc (.cells #[.string x] 9)).grownBy W' (Value.slice A' i cap).ownBlock → ∃ A2 cap2, v' = .slice A2 (i + 1) cap2 ∧ Hid ((was ++ [x]).length = i + 1) ∧ Hid (Fal ea w W' lo hi gh p old (fun _ => True) 0 (i + 1) (fresh c4.hosts) (was ++ [x]) (.slice A2 (i + 1) cap2) s')) := Lib.hid fun v' W' h1 h2 => by
        obtain ⟨A2, cap2, rfl, _⟩ := own_slice h1
        refine ⟨A2, cap2, rfl, Lib.hid (by simp [hwl.out]), Lib.hid (HD5.out.app HE.out (by rw [hwl.out]; exact hoi.out) HF.out (by rw [hwl.out]; exact h1) h2)⟩
      clear hD4 hb5 HP HF hwl hoi
      go_wp2_with (first
        | (at_builtin
           go_must (refine wpList_append_any _ rfl (.tmp 66) (.tmp 68) _ rfl hi 9 i0 _ 1 16 Tryz.underlying24 hi0 hz0 hz1 hz2 rfl (by omega) (.slice A' i cap) i (strV was) rfl HRW.out _ (some ⟨w4.heap.size, 0, none⟩) 1 1 [.string x] rfl HNW.out (by simp [Value.oneCell']) (by simp only [maxLen]; omega) (by omega) HSZ.out ?_)
           intro v1 w5 hown1 hg1 _
           obtain ⟨A2, cap2, hv2, HL2, HD2⟩ := HAP.out _ _ hown1 hg1
           subst hv2
           clear hown1 hg1))
      go_roundw
      case rel => exact ⟨i + 1, A2, cap2, was ++ [x], s', by omega, rfl, by go_num, HL2, HD2⟩
      case measure => simp [intOf]; omega
    · obtain rfl : i = old.length := by omega
      have hge : ¬ (old.length : Int) < old.length := by omega
      have ckw := HWW.out _ _ _ _ _ _ _ _ _ _ _ _ hD.out
      have HDR1 := Lib.hid (HDR.out _ _ _ _ _ _ _ _ _ _ hD.out)
      clear hD HDR
      go_wp2_with fail
      refine HDR1.out.mono ?_
      rintro e w4 ⟨rfl, s4, hD4⟩
      have HD4 := Lib.hid hD4
      clear hD4 HDR1 ckw
      go_wp2_with fail
      go_loopw [15] (fun jv wr => ∃ (j n : Nat) (s : BS), j ≤ old.length ∧ n ≤ 1 ∧ jv = .int .i64 (j : Int) ∧ Hid (Fal ea w wr lo hi gh p old (fun j => was[j]? ≠ some hw) n (old.length + j) st1 was (.slice A' old.length cap) s)) (fun jv _ => old.length + 1 - (intOf jv).toNat)
      case atStart => exact ⟨0, 0, s4, Nat.zero_le _, by omega, rfl, HD4⟩
      case round =>
        obtain ⟨j, n, s5, hjl, hn1, rfl, hD5⟩ := hrel
        clear HD4
        generalize wr = wr0 at *
        by_cases hjf : j < old.length
        · have hjf2 : (j : Int) < old.length := by omega
          obtain ⟨ad, rfl, hck⟩ := HK.out j hjf
          have ck := hck _ hD5.out.b.w
          have hwm : j < was.length := by rw [hwl.out]; exact hjf
          obtain ⟨x, kept, s6, HP, _, HIN, HUP⟩ := fal_pick old[j] 1 hD5.out (by omega) hn1 (by omega) HST.out (HU.out _ (List.getElem_mem hjf))
          have hxw : x ≠ hw := fun e => by have := HUP.out; rw [e, HNO.out] at this; cases this
          have hx1 : (x.toList == hw.toList) = false := by rw [str_eq]; simpa using hxw
          have hcase : was[j] = hw ∨ (was[j] ≠ hw ∧ x = was[j]) := by
            by_cases he : was[j] = hw
            · exact .inl he
            · obtain ⟨y, hy1, hy2⟩ := hD5.out.i.old j old[j] was[j] (List.getElem?_eq_getElem hjf) (List.getElem?_eq_getElem hwm) (by rw [List.getElem?_eq_getElem hwm]; simpa using he)
              exact .inr ⟨he, by rw [← (HIN.out y hy1).2, hy2]⟩
          have HRC : Hid (∀ W n cnt s, Fal ea w W lo hi gh p old (fun j => was[j]? ≠ some hw) n cnt st1 was (.slice A' old.length cap) s → ∃ g, A' = some ⟨g, 0, none⟩ ∧ W.cell? ⟨g, j, none⟩ = some (.string was[j])) := Lib.hid fun W n cnt s h => row_cell (by have := h.row; rw [hwl.out] at this; exact this) hwm
          generalize was[j] = y at *
          generalize old[j] = key at *
          unfold FalPost at HP
          clear hD5 hck HIN HUP hxw hwm
          rcases hcase with rfl | ⟨hyw, rfl⟩
          · go_wp2_with fail
            refine HP.out.mono ?_
            rintro e w5 ⟨rfl, hD6⟩
            obtain ⟨g, rfl, ckx⟩ := HRC.out _ _ _ _ hD6
            have ckw := HWW.out _ _ _ _ _ _ _ _ _ _ _ _ hD6
            have HD6 := Lib.hid hD6
            clear hD6 HP HRC
            go_wp2
            go_quiet (fail)
            go_wp2
            go_roundw
            case rel => exact ⟨j + 1, 1, s6, by omega, by omega, by go_num, Lib.hid (HD6.out.below (below_drewN (Below.refl _ _) _))⟩
            case measure => simp [intOf]; omega
          · have hx2 : (x.toList != hw.toList) = true := by rw [bne, hx1]; rfl
            clear hyw
            go_wp2_with fail
            refine HP.out.mono ?_
            rintro e w5 ⟨rfl, hD6⟩
            obtain ⟨g, rfl, ckx⟩ := HRC.out _ _ _ _ hD6
            have ckw := HWW.out _ _ _ _ _ _ _ _ _ _ _ _ hD6
            have HD6 := Lib.hid hD6
            clear hD6 HP HRC
            go_wp2
            go_quiet (fail)
            go_wp2
            go_roundw
            case rel => exact ⟨j + 1, 1, s6, by omega, by omega, by go_num, Lib.hid (HD6.out.below (below_drewN (Below.refl _ _) _))⟩
            case measure => simp [intOf]; omega
        · obtain rfl : j = old.length := by omega
          have hge2 : ¬ (old.length : Int) < old.length := by omega
          have HB := Lib.hid hD5.out.b.w
          clear hD5
          go_wp2
          go_ret
          exact ⟨rfl, HB.out⟩
theorem falls_any (ea : Nat → Addr) (A : Option Addr) (ca : Nat) (k : Int) (l : List Int) (w : World) (hE : ErrsB ea w) (R : Reads w w.heap.size 1 A l.length (l.map (Value.int .u64))) (wf : ∀ n ∈ l, (Lit.int .u64 n).wf = true) :
    Calls Tryz.prog 3 #[.slice A l.length ca, .int .i64 k] w (True1 w) := by
  obtain ⟨old, he, hr, hu⟩ := keys_arg R wf
  rw [he]
  by_cases h : 60 < old.length ∨ k < 0 ∨ 3 < k
  · exact falls_skip ea A ca old.length k w hE h
  · obtain ⟨j, rfl⟩ := Int.eq_ofNat_of_zero_le (by omega : 0 ≤ k)
    exact falls_walk ea A ca j old w hE hr hu (by omega) (by omega)
end Go.Proofs.YtnmkdmehljkedaaGreatDoor
