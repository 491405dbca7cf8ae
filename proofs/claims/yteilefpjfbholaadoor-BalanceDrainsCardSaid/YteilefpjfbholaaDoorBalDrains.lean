/-
  The law BalanceDrains: its walk.
-/
import Derived.Test.YteilefpjfbholaaDoorBalanced
namespace Go.Proofs.YteilefpjfbholaaDoor
open Go.RowKit

/-- The closed parts of a law over keys. -/
theorem drains_ways {a b : Nat} {k : Int} (h : 60 < a ∨ 60 < b ∨ k < 0 ∨ 3 < k) : decide ((a : Int) > 60) = true ∨ (decide ((a : Int) > 60) = false ∧ decide ((b : Int) > 60) = true) ∨ (decide ((a : Int) > 60) = false ∧ decide ((b : Int) > 60) = false ∧ decide (k < 0) = true) ∨ (decide ((a : Int) > 60) = false ∧ decide ((b : Int) > 60) = false ∧ decide (k < 0) = false ∧ decide (k > 3) = true) := by
  simp only [decide_eq_true_eq, decide_eq_false_iff_not]; omega
set_option maxRecDepth 100000 in
set_option maxHeartbeats 1000000 in
theorem drains_skip (ea : Nat → Addr) (A B : Option Addr) (ca cb a b : Nat) (k : Int) (w : World) (hE : ErrsB ea w) (h : 60 < a ∨ 60 < b ∨ k < 0 ∨ 3 < k) :
    Calls Tryd.prog 3 #[.slice A a ca, .slice B b cb, .int .i64 k] w (True1 w) := by
  have HW := Lib.hid (balanced_any ea w hE)
  have hw := drains_ways h
  clear hE h
  rcases hw with d1 | ⟨d1, d2⟩ | ⟨d1, d2, d3⟩ | ⟨d1, d2, d3, d4⟩
  all_goals
    go_enter Tryd.func3, Tryd.ntmps3
    go_wp2_with fail
    refine HW.out.mono ?_
    rintro e w1 ⟨rfl, hb1⟩
    go_wp2
    go_ret
    exact ⟨rfl, hb1⟩
/-- What stands in the law's walk: the balance b, what was told of the old keys, the list of hosts. -/
structure Drn (ea : Nat → Addr) (w W : World) (lo hi gh : Nat) (p : BPl) (old : List Nat) (n cnt : Nat) (dr : ByteArray → Bool) (was : List ByteArray) (v : Value) (s : BS) : Prop where
  b : BNow ea w W lo hi p c4 s
  i : PInv old was (fun _ => True) n cnt s
  st : s.st = fresh c4.hosts
  sdr : s.dr = dr
  snd : dr = (fun _ => false) → s.nd = 0
  row : W.ownsRow hi 9 1 v was.length (strV was)
  blk : Blk W gh 9 (strV c4.hosts).toArray
  gl : gh < hi
  wh : w.heap.size ≤ hi
  hz : hi ≤ W.heap.size
section
variable {ea : Nat → Addr} {w W W' : World} {lo hi gh : Nat} {p : BPl} {old : List Nat} {n cnt : Nat} {dr : ByteArray → Bool} {was : List ByteArray} {v : Value} {s : BS}
theorem Drn.below (h : Drn ea w W lo hi gh p old n cnt dr was v s) (hb : Below W.heap.size W W') : Drn ea w W' lo hi gh p old n cnt dr was v s :=
  ⟨h.b.below hb, h.i, h.st, h.sdr, h.snd, own_below h.row hb, h.blk.below hb h.blk.lt, h.gl, h.wh, Nat.le_trans h.hz hb.size⟩
theorem Drn.app {x : ByteArray} {k : Nat} {v' : Value} (h : Drn ea w W lo hi gh p old n cnt dr was v s) (hE : ErrsB ea w) (hk : old[was.length]? = some k) (hf : ∃ y, findF s.fs.2 k = some y ∧ y.host = x) (ho : W'.ownsRow hi 9 1 v' (was.length + 1) (strV was ++ [.string x])) (hg : W.grownBy W' v.ownBlock) : Drn ea w W' lo hi gh p old n cnt dr (was ++ [x]) v' s := by
  refine ⟨h.b.row h.row (Nat.le_refl _) h.wh (fun _ => errs_row hE h.b.w h.row h.wh hg) hg, h.i.more hk hf, h.st, h.sdr, h.snd, by simpa [strV] using ho, h.blk.grown hg fun e => ?_, h.gl, h.wh, Nat.le_trans h.hz hg.size⟩
  have := (h.row.lt gh e.symm).1
  have := h.gl
  omega
/-- The hosts that are open. -/
def openL (dr : ByteArray → Bool) : List ByteArray := c4.hosts.filter fun x => !dr x
theorem Drn.open_ (h : Drn ea w W lo hi gh p old n cnt dr was v s) : openOf s = openL dr := by
  unfold openOf openL
  rw [h.st, h.sdr, ups_fresh]
def DrnPost (ea : Nat → Addr) (w : World) (lo hi gh : Nat) (p : BPl) (old : List Nat) (n cnt : Nat) (dr : ByteArray → Bool) (was : List ByteArray) (v : Value) (x : ByteArray) (kept : Bool) (s' : BS) (e : Ending) (w' : World) : Prop :=
  e = .returned (.tuple #[.string x, .bool kept, .nilIface]) ∧ Drn ea w w' lo hi gh p old n cnt dr was v s'
theorem drn_pick (k n' : Nat) (h : Drn ea w W lo hi gh p old n cnt dr was v s) (hc : cnt < 200) (hn : n ≤ n') (hn2 : n' < 20) (ho : openL dr ≠ []) (hU : U64 k) :
    ∃ (x : ByteArray) (kept : Bool) (s' : BS), Hid (Calls Tryd.prog 6 #[.pointer (some ⟨p.bp, 0, none⟩), .int .u64 (k : Int), .int .i64 (n' : Int)] W (DrnPost ea w lo hi gh p old n' (cnt + 1) dr was v x kept s')) ∧
      Hid (∃ y, findF s'.fs.2 k = some y ∧ y.host = x) ∧ Hid (∀ y, findF s.fs.2 k = some y → kept = true ∧ y.host = x) ∧ Hid (kept = false → x ∈ openL dr) := by
  have hsub : (openL dr).Sublist c4.hosts := List.filter_sublist
  have htf := sub_table ok_4.tf hsub (List.length_pos_iff.2 ho)
  obtain ⟨x, kept, hp, hi', hf, hin, hop, hup⟩ := h.i.step (c := c4) (k := k) hc rfl hn hn2 (by rw [h.open_]; exact ho) (by rw [h.open_]; exact htf) (by decide) (fun y hy => by rw [h.open_] at hy; rw [h.st]; exact upOf_fresh (hsub.subset hy))
  refine ⟨x, kept, _, Lib.hid ((bn_pick k n' h.b ok_4 hU hp).mono fun e w' ⟨a, b, t⟩ => ⟨a, b, hi', h.st, h.sdr, h.snd, h.b.strs (by decide) h.row t, h.b.blkF (by decide) h.blk t, h.gl, h.wh, Nat.le_trans h.hz t.size⟩), Lib.hid ⟨_, hf, rfl⟩, Lib.hid hin, Lib.hid fun hk => ?_⟩
  have := hop hk
  rwa [h.open_] at this
end
theorem row_cell {W : World} {B n cap j : Nat} {A : Option Addr} {e : TypeId} {l : List ByteArray} (ho : W.ownsRow B e 1 (.slice A n cap) n (strV l)) (hj : j < l.length) : ∃ g, A = some ⟨g, 0, none⟩ ∧ W.cell? ⟨g, j, none⟩ = some (.string l[j]) := by
  have hn : l.length = n := by have := ho.1; simpa [strV] using this
  obtain ⟨g, cap', hv, _⟩ := ho.form (by omega)
  injection hv with hA
  subst hA
  have hr := Reads.of_own ho
  obtain ⟨ad, u, hA2, _, hu, hc⟩ := hr.at_ (k := j) (by omega)
  obtain rfl := Option.some.inj hA2
  have e2 : ((⟨g, 0, none⟩ : Addr).add j) = ⟨g, j, none⟩ := by
    by_cases h0 : j = 0
    · subst h0; rfl
    · simp [Addr.add, h0]
  rw [e2] at hc
  refine ⟨g, rfl, ?_⟩
  rw [hc, ← hu]
  simp [strV, hj]
theorem openL_none : openL (fun _ => false) ≠ [] := by decide
theorem openL_one (h : ByteArray) : openL (fun y => if y = h then true else false) ≠ [] := by
  by_cases e : sA = h
  · subst e; decide +kernel
  · intro h0
    have : sA ∈ openL (fun y => if y = h then true else false) := List.mem_filter.2 ⟨List.mem_cons_self, by simp [e]⟩
    rw [h0] at this
    cases this
theorem openL_not {h x : ByteArray} (hx : x ∈ openL (fun y => if y = h then true else false)) : x ≠ h := by
  intro e
  have := (List.mem_filter.1 hx).2
  simp [e] at this
theorem host_at (k : Nat) (hk : k < 4) : ∃ x : ByteArray, (strV c4.hosts).toArray[k]? = some (.string x) ∧ x ∈ c4.hosts ∧ x.size ≤ maxLen := by
  have hl : k < c4.hosts.length := hk
  refine ⟨c4.hosts[k], by simp [strV, hl], List.getElem_mem _, (hosts_fit fault_4).2 _ (List.getElem_mem _)⟩
set_option maxRecDepth 100000 in
set_option maxHeartbeats 2000000 in
theorem drains_walk (ea : Nat → Addr) (A B : Option Addr) (ca cb k : Nat) (old fr : List Nat) (w : World) (hE : ErrsB ea w) (hr : Reads w w.heap.size 1 A old.length (keysV old)) (hu : ∀ k ∈ old, U64 k) (hr2 : Reads w w.heap.size 1 B fr.length (keysV fr)) (hu2 : ∀ k ∈ fr, U64 k) (h1 : old.length ≤ 60) (h2 : fr.length ≤ 60) (h3 : k ≤ 3) :
    Calls Tryd.prog 3 #[.slice A old.length ca, .slice B fr.length cb, .int .i64 (k : Int)] w (True1 w) := by
  obtain ⟨i0, hi0, hz0, hz1, hz2⟩ := info_parts info_str
  have HW := Lib.hid (balanced_any ea w hE)
  have d1 : decide ((old.length : Int) > 60) = false := by simp; omega
  have d2 : decide ((fr.length : Int) > 60) = false := by simp; omega
  have d3 : decide ((k : Int) < 0) = false := by simp
  have d4 : decide ((k : Int) > 3) = false := by simp; omega
  have HE := Lib.hid hE
  have HK := Lib.hid (fun i (hi : i < old.length) => keyAt2_of hr hi)
  have HK2 := Lib.hid (fun i (hi : i < fr.length) => keyAt2_of hr2 hi)
  have HU := Lib.hid hu
  have HU2 := Lib.hid hu2
  obtain ⟨hw, hwc, hwm, hwz⟩ := host_at k (by omega)
  have HN : Hid (∀ W, Below w.heap.size w W → Calls Tryd.prog 5 #[.slice (some ⟨W.heap.size, 0, none⟩) 4 4, .int .i64 31, .int .i64 20, .int .i64 1, .int .i64 1] (W.alloc (.cells #[.string ⟨#[97]⟩, .string ⟨#[98]⟩, .string ⟨#[99]⟩, .string ⟨#[100]⟩] 9)) (NewAs ea w c4 (W.alloc (.cells #[.string ⟨#[97]⟩, .string ⟨#[98]⟩, .string ⟨#[99]⟩, .string ⟨#[100]⟩] 9)))) := Lib.hid fun W hW => by
    have hb1 := (Below.refl W.heap.size W).alloc (Nat.le_refl _) (.cells #[.string ⟨#[97]⟩, .string ⟨#[98]⟩, .string ⟨#[99]⟩, .string ⟨#[100]⟩] 9)
    exact bn_new (c := c4) ((HE.out.below hW).below hb1) (below_two hW hb1) (txIn_lit (l := c4.hosts) (by decide) (by decide +kernel)) ok_4
  have HDR : Hid (∀ W lo hi gh p n cnt was v s, Drn ea w W lo hi gh p old n cnt (fun _ => false) was v s → Calls Tryd.prog 7 #[.pointer (some ⟨p.bp, 0, none⟩), .string hw, .bool true] W fun e w' => e = .returned .nilIface ∧ ∃ s', Drn ea w w' lo hi gh p old n cnt (fun y => if y = hw then true else false) was v s') := Lib.hid fun W lo hi gh p n cnt was v s h => by
    refine (bn_drain hw true h.b hwm hwz (by rw [h.snd rfl]; omega)).mono fun e w' ⟨a, b, t⟩ => ⟨a, _, b, ⟨h.i.rise, h.i.len, h.i.last, h.i.up, h.i.old⟩, h.st, by simp only [h.sdr], ?_, ?_, ?_, h.gl, h.wh, Nat.le_trans h.hz t.size⟩
    · intro e
      have := congrFun e hw
      simp at this
    · obtain ⟨es, cl, hm⟩ := h.b.b.d.heap
      exact t.own h.row fun g hg hgm => own_not_map h.row hm (by rw [List.mem_singleton] at hgm; rw [← hgm]; exact hg)
    · obtain ⟨es, cl, hm⟩ := h.b.b.d.heap
      exact t.blk h.blk (by simpa using blk_not_map hm h.blk)
  have hww : ∀ W lo hi gh p n cnt dr was v s, Drn ea w W lo hi gh p old n cnt dr was v s → W.cell? ⟨gh, k, none⟩ = some (.string hw) := fun W lo hi gh p n cnt dr was v s h => (h.blk.cell k).trans hwc
  have HWW := Lib.hid hww
  have hk4 : (k : Int) < 4 := by omega
  unfold NewAs at HN
  clear hE hr hr2 hu hu2 hwm hwz hwc hww
  go_enter Tryd.func3, Tryd.ntmps3
  go_wp2_with fail
  refine HW.out.mono ?_
  rintro e w1 ⟨rfl, hb1⟩
  have HN1 := Lib.hid (HN.out w1 hb1)
  have HB1 := Lib.hid hb1
  clear hb1 HN
  go_wp2_with fail
  refine HN1.out.mono ?_
  rintro e w3 ⟨p, rfl, hB3, hb3⟩
  have HD0 : Hid (Drn ea w w3 (w1.alloc (.cells #[.string ⟨#[97]⟩, .string ⟨#[98]⟩, .string ⟨#[99]⟩, .string ⟨#[100]⟩] 9)).heap.size w3.heap.size w1.heap.size p old 0 0 (fun _ => false) [] (.slice none 0 0) (newS c4)) := Lib.hid (by
    have hX := Blk.new w1 9 #[.string ⟨#[97]⟩, .string ⟨#[98]⟩, .string ⟨#[99]⟩, .string ⟨#[100]⟩]
    have hX3 := hX.below hb3 hX.lt
    exact ⟨hB3, PInv.new _ _ _, rfl, rfl, fun _ => rfl, World.ownsRow_nil _ _ _ _, hX3, hX3.lt, hB3.w.size, Nat.le_refl _⟩)
  have hghz : w1.heap.size = w1.heap.size := rfl
  generalize (w1.alloc (.cells #[.string ⟨#[97]⟩, .string ⟨#[98]⟩, .string ⟨#[99]⟩, .string ⟨#[100]⟩] 9)).heap.size = lo at *
  generalize w3.heap.size = hi at *
  clear hB3 hb3 HN1 hghz HB1
  go_wp2_with fail
  generalize w1.heap.size = gh at *
  go_loopw [11, 12] (fun sv iv wr => ∃ (i : Nat) (A' : Option Addr) (cap : Nat) (was : List ByteArray) (s : BS), i ≤ old.length ∧ sv = .slice A' i cap ∧ iv = .int .i64 (i : Int) ∧ Hid (was.length = i) ∧ Hid (Drn ea w wr lo hi gh p old 0 i (fun _ => false) was (.slice A' i cap) s)) (fun _ iv _ => old.length + 1 - (intOf iv).toNat)
  case atStart => exact ⟨0, none, 0, [], newS c4, Nat.zero_le _, rfl, rfl, Lib.hid rfl, HD0⟩
  case round =>
    obtain ⟨i, A', cap, was, s, hile, rfl, rfl, hwl, hD⟩ := hrel
    clear HD0
    by_cases hil : i < old.length
    · have hil2 : (i : Int) < old.length := by omega
      obtain ⟨ad, rfl, hck⟩ := HK.out i hil
      have ck := hck wr hD.out.b.w
      have hoi : Hid (old[i]? = some old[i]) := Lib.hid (List.getElem?_eq_getElem hil)
      obtain ⟨x, kept, s', HP, HF, _, _⟩ := drn_pick old[i] 0 hD.out (by omega) (Nat.le_refl _) (by omega) openL_none (HU.out _ (List.getElem_mem hil))
      generalize old[i] = key at *
      unfold DrnPost at HP
      clear hD hck
      go_wp2_with fail
      refine HP.out.mono ?_
      rintro e w4 ⟨rfl, hD4⟩
      have hb5 := (Below.refl w4.heap.size w4).alloc (Nat.le_refl _) (.cells #[.string x] 9)
      have HD5 := Lib.hid (hD4.below hb5)
      have HRW : Hid ((w4.alloc (.cells #[.string x] 9)).ownsRow hi 9 1 (.slice A' i cap) i (strV was)) := Lib.hid (by have := (hD4.below hb5).row; rw [hwl.out] at this; exact this)
      have HNW : Hid (Reads (w4.alloc (.cells #[.string x] 9)) (w4.alloc (.cells #[.string x] 9)).heap.size 1 (some ⟨w4.heap.size, 0, none⟩) 1 [.string x]) := Lib.hid (blk_reads (Blk.new w4 9 [Value.string x].toArray))
      have HSZ : Hid (hi ≤ (w4.alloc (.cells #[.string x] 9)).heap.size) := Lib.hid HD5.out.hz
      have HAP : Hid (∀ v' W', W'.ownsRow hi 9 1 v' (i + 1) (strV was ++ [.string x]) → (w4.alloc (.cells #[.string x] 9)).grownBy W' (Value.slice A' i cap).ownBlock → ∃ A2 cap2, v' = .slice A2 (i + 1) cap2 ∧ Hid ((was ++ [x]).length = i + 1) ∧ Hid (Drn ea w W' lo hi gh p old 0 (i + 1) (fun _ => false) (was ++ [x]) (.slice A2 (i + 1) cap2) s')) := Lib.hid fun v' W' h1 h2 => by
        obtain ⟨A2, cap2, rfl, _⟩ := own_slice h1
        refine ⟨A2, cap2, rfl, Lib.hid (by simp [hwl.out]), Lib.hid (HD5.out.app HE.out (by rw [hwl.out]; exact hoi.out) HF.out (by rw [hwl.out]; exact h1) h2)⟩
      clear hD4 hb5 HP HF hwl hoi
      go_wp2_with (first
        | (at_builtin
           go_must (refine wpList_append_any _ rfl (.tmp 76) (.tmp 78) _ rfl hi 9 i0 _ 1 16 Tryd.underlying24 hi0 hz0 hz1 hz2 rfl (by omega) (.slice A' i cap) i (strV was) rfl HRW.out _ (some ⟨w4.heap.size, 0, none⟩) 1 1 [.string x] rfl HNW.out (by simp [Value.oneCell']) (by simp only [maxLen]; omega) (by omega) HSZ.out ?_)
           intro v1 w5 hown1 hg1 _
           obtain ⟨A2, cap2, hv2, HL2, HD2⟩ := HAP.out _ _ hown1 hg1
           subst hv2
           clear hown1 hg1))
      go_roundw
      case rel => exact ⟨i + 1, A2, cap2, was ++ [x], s', by omega, rfl, by go_num, HL2, HD2⟩
      case measure => simp [intOf]; omega
    · obtain rfl : i = old.length := by omega
      have hge : ¬ (old.length : Int) < old.length := by omega
      have ckw := HWW.out _ _ _ _ _ _ _ _ _ _ _ hD.out
      have HDR1 := Lib.hid (HDR.out _ _ _ _ _ _ _ _ _ _ hD.out)
      clear hD HDR
      go_wp2_with fail
      refine HDR1.out.mono ?_
      rintro e w4 ⟨rfl, s4, hD4⟩
      have HD4 := Lib.hid hD4
      clear hD4 HDR1 ckw
      go_wp2_with fail
      go_loopw [16] (fun jv wr => ∃ (j n : Nat) (s : BS), j ≤ fr.length ∧ n ≤ 1 ∧ jv = .int .i64 (j : Int) ∧ Hid (Drn ea w wr lo hi gh p old n (old.length + j) (fun y => if y = hw then true else false) was (.slice A' old.length cap) s)) (fun jv _ => fr.length + 1 - (intOf jv).toNat)
      case atStart => exact ⟨0, 0, s4, Nat.zero_le _, by omega, rfl, HD4⟩
      case round =>
        obtain ⟨j, n, s5, hjl, hn1, rfl, hD5⟩ := hrel
        clear HD4
        generalize wr = wr0 at *
        by_cases hjf : j < fr.length
        · have hjf2 : (j : Int) < fr.length := by omega
          obtain ⟨ad, rfl, hck⟩ := HK2.out j hjf
          have ck := hck _ hD5.out.b.w
          obtain ⟨x, kept, s6, HP, _, _, HO⟩ := drn_pick fr[j] 1 hD5.out (by omega) hn1 (by omega) (openL_one hw) (HU2.out _ (List.getElem_mem hjf))
          generalize fr[j] = key at *
          unfold DrnPost at HP
          clear hD5 hck
          cases kept with
          | true =>
            clear HO
            go_wp2_with fail
            refine HP.out.mono ?_
            rintro e w5 ⟨rfl, hD6⟩
            have HD6 := Lib.hid hD6
            clear hD6 HP
            go_wp2
            go_roundw
            case rel => exact ⟨j + 1, 1, s6, by omega, by omega, by go_num, HD6⟩
            case measure => simp [intOf]; omega
          | false =>
            have hxw := openL_not (HO.out rfl)
            have hxb : (x.toList == hw.toList) = false := by rw [str_eq]; simpa using hxw
            clear HO hxw
            go_wp2_with fail
            refine HP.out.mono ?_
            rintro e w5 ⟨rfl, hD6⟩
            have ckw := HWW.out _ _ _ _ _ _ _ _ _ _ _ hD6
            have HD6 := Lib.hid hD6
            clear hD6 HP
            go_wp2
            go_roundw
            case rel => exact ⟨j + 1, 1, s6, by omega, by omega, by go_num, HD6⟩
            case measure => simp [intOf]; omega
        · obtain rfl : j = fr.length := by omega
          have hge2 : ¬ (fr.length : Int) < fr.length := by omega
          have HD5 := Lib.hid hD5.out
          clear hD5
          go_wp2_with fail
          go_loopw [20] (fun mv wr => ∃ (m n : Nat) (s : BS), m ≤ old.length ∧ n ≤ 2 ∧ mv = .int .i64 (m : Int) ∧ Hid (Drn ea w wr lo hi gh p old n (old.length + fr.length + m) (fun y => if y = hw then true else false) was (.slice A' old.length cap) s)) (fun mv _ => old.length + 1 - (intOf mv).toNat)
          case atStart => exact ⟨0, n, s5, Nat.zero_le _, by omega, rfl, HD5⟩
          case round =>
            obtain ⟨m, n2, s7, hml, hn2, rfl, hD7⟩ := hrel
            clear HD5
            by_cases hmo : m < old.length
            · have hmo2 : (m : Int) < old.length := by omega
              obtain ⟨ad, rfl, hck⟩ := HK.out m hmo
              have ck := hck _ hD7.out.b.w
              have hwm : m < was.length := by rw [hwl.out]; exact hmo
              obtain ⟨y, hy1, hy2⟩ := hD7.out.i.old m old[m] was[m] (List.getElem?_eq_getElem hmo) (List.getElem?_eq_getElem hwm) trivial
              obtain ⟨x, kept, s8, HP, _, HIN, _⟩ := drn_pick old[m] 2 hD7.out (by omega) hn2 (by omega) (openL_one hw) (HU.out _ (List.getElem_mem hmo))
              obtain ⟨rfl, hyx⟩ := HIN.out y hy1
              obtain rfl : x = was[m] := by rw [← hyx, hy2]
              have HRC : Hid (∀ W n cnt s, Drn ea w W lo hi gh p old n cnt (fun y => if y = hw then true else false) was (.slice A' old.length cap) s → ∃ g, A' = some ⟨g, 0, none⟩ ∧ W.cell? ⟨g, m, none⟩ = some (.string was[m])) := Lib.hid fun W n cnt s h => row_cell (by have := h.row; rw [hwl.out] at this; exact this) hwm
              generalize was[m] = x at *
              generalize old[m] = key at *
              unfold DrnPost at HP
              clear hD7 hck HIN hy1 hy2 hyx hwm
              go_wp2_with fail
              refine HP.out.mono ?_
              rintro e w5 ⟨rfl, hD8⟩
              obtain ⟨g, rfl, ckx⟩ := HRC.out _ _ _ _ hD8
              have HD8 := Lib.hid hD8
              clear hD8 HP HRC
              go_wp2
              go_roundw
              case rel => exact ⟨m + 1, 2, s8, by omega, by omega, by go_num, HD8⟩
              case measure => simp [intOf]; omega
            · obtain rfl : m = old.length := by omega
              have hge3 : ¬ (old.length : Int) < old.length := by omega
              have HB := Lib.hid hD7.out.b.w
              clear hD7
              go_wp2
              go_ret
              exact ⟨rfl, HB.out⟩
theorem drains_any (ea : Nat → Addr) (A B : Option Addr) (ca cb : Nat) (k : Int) (l l2 : List Int) (w : World) (hE : ErrsB ea w) (R : Reads w w.heap.size 1 A l.length (l.map (Value.int .u64))) (wf : ∀ n ∈ l, (Lit.int .u64 n).wf = true) (R2 : Reads w w.heap.size 1 B l2.length (l2.map (Value.int .u64))) (wf2 : ∀ n ∈ l2, (Lit.int .u64 n).wf = true) :
    Calls Tryd.prog 3 #[.slice A l.length ca, .slice B l2.length cb, .int .i64 k] w (True1 w) := by
  obtain ⟨old, he, hr, hu⟩ := keys_arg R wf
  obtain ⟨fr, he2, hr2, hu2⟩ := keys_arg R2 wf2
  rw [he, he2]
  by_cases h : 60 < old.length ∨ 60 < fr.length ∨ k < 0 ∨ 3 < k
  · exact drains_skip ea A B ca cb old.length fr.length k w hE h
  · obtain ⟨j, rfl⟩ := Int.eq_ofNat_of_zero_le (by omega : 0 ≤ k)
    exact drains_walk ea A B ca cb j old fr w hE hr hu hr2 hu2 (by omega) (by omega) (by omega)
end Go.Proofs.YteilefpjfbholaaDoor
