/-
  Package play's Spread: how many keys each host has.
-/
import Derived.Test.YteilefpjfbholaaGreatDoorMakeBoth
import Derived.Test.YteilefpjfbholaaGreatDoorPick
namespace Go.Proofs.YteilefpjfbholaaGreatDoor
open Go.RowKit

/-- One key more, at a host. -/
def spotL (xs : List Int) (k : Nat) : Nat := (xs.getD (Mx.turn k % xs.length) 0).toNat
def spreadL (xs : List Int) (m : Nat) (keys : List Nat) : List Nat := keys.foldl (fun c k => c.set (spotL xs k) (c.getD (spotL xs k) 0 + 1)) (List.replicate m 0)
theorem spreadL_len (xs : List Int) (m : Nat) (keys : List Nat) : (spreadL xs m keys).length = m := by
  unfold spreadL
  have h : ∀ (ks : List Nat) (c : List Nat), (ks.foldl (fun c k => c.set (spotL xs k) (c.getD (spotL xs k) 0 + 1)) c).length = c.length := by
    intro ks
    induction ks with
    | nil => intro c; rfl
    | cons k r ih => intro c; rw [List.foldl_cons, ih, List.length_set]
  rw [h, List.length_replicate]
theorem spreadL_le (xs : List Int) (m : Nat) (keys : List Nat) : ∀ x ∈ spreadL xs m keys, x ≤ keys.length := by
  unfold spreadL
  have h : ∀ (ks : List Nat) (c : List Nat) (b : Nat), (∀ x ∈ c, x ≤ b) → ∀ x ∈ ks.foldl (fun c k => c.set (spotL xs k) (c.getD (spotL xs k) 0 + 1)) c, x ≤ b + ks.length := by
    intro ks
    induction ks with
    | nil => intro c b h x hx; exact h x hx
    | cons k r ih =>
      intro c b h x hx
      have h2 := ih (c.set (spotL xs k) (c.getD (spotL xs k) 0 + 1)) (b + 1) (fun y hy => by
        rcases List.mem_or_eq_of_mem_set hy with hy | rfl
        · have := h y hy; omega
        · by_cases hl : spotL xs k < c.length
          · have := h _ (List.getElem_mem hl)
            rw [List.getD_eq_getElem?_getD, List.getElem?_eq_getElem hl, Option.getD_some]
            omega
          · rw [List.getD_eq_getElem?_getD, List.getElem?_eq_none (by omega), Option.getD_none]; omega) x hx
      rw [List.length_cons]
      omega
  intro x hx
  have := h keys (List.replicate m 0) 0 (fun y hy => by rw [List.eq_of_mem_replicate hy]; exact Nat.le_refl _) x hx
  omega
theorem spreadL_take {xs : List Int} {m i : Nat} {keys : List Nat} (hi : i < keys.length) : spreadL xs m (keys.take (i + 1)) = (spreadL xs m (keys.take i)).set (spotL xs keys[i]) ((spreadL xs m (keys.take i)).getD (spotL xs keys[i]) 0 + 1) := by
  unfold spreadL
  rw [List.take_succ_eq_append_getElem hi, List.foldl_append]
  rfl
theorem numsV_set (cs : List Nat) (s c : Nat) : (numsV cs).toArray.setIfInBounds s (.int .i64 (c : Int)) = (numsV (cs.set s c)).toArray := by
  simp [numsV, List.map_set]
theorem numsV_made (m : Nat) : madeCells (Value.int .i64 0).cells (m * 1) = (numsV (List.replicate m 0)).toArray := by
  apply Array.ext
  · simp [madeCells, numsV]
  · intro i h1 h2
    simp [madeCells, numsV, Value.cells, Nat.mod_one]
theorem make_nums (m : Nat) (hm : m ≤ 1000) (W : World) :
    (Instr.makeSlice 51 (.int .i64 (m : Int)) (.int .i64 (m : Int))).run Tryz.prog W = .ok (.slice (some ⟨W.heap.size, 0, none⟩) m m) (W.alloc (.cells (numsV (List.replicate m 0)).toArray 3)) := by
  obtain ⟨i0, hi, hz0, hz1, hz2⟩ := info_parts info_num
  have h := run_make_rowN (P := Tryz.prog) 51 3 i0 (.int .i64 0) Tryz.underlying51 hi hz0 .i64 .i64 m m (Nat.le_refl _) (by rw [hz2]; omega) (by omega) W
  rw [hz1, numsV_made] at h
  exact h
/-- A table's list, the keys, and what is counted so far. -/
structure SpIn (w : World) (xs : List Int) (m : Nat) (keys : List Nat) (X K : Option Addr) : Prop where
  x : Reads w w.heap.size 1 X xs.length (xs.map intV)
  k : Reads w w.heap.size 1 K keys.length (keysV keys)
  u : ∀ k ∈ keys, U64 k
  n2 : 2 ≤ xs.length ∧ xs.length ≤ 503
  s : ∀ i, i < xs.length → ∃ j : Nat, xs[i]? = some (j : Int) ∧ j < m
theorem SpIn.below {w w' : World} {xs : List Int} {m : Nat} {keys : List Nat} {X K : Option Addr} (h : SpIn w xs m keys X K) (hb : Below w.heap.size w w') : SpIn w' xs m keys X K :=
  ⟨(h.x.below hb).more hb.size, (h.k.below hb).more hb.size, h.u, h.n2, h.s⟩
/-- What one round reads and writes: the key, its turn, the slot, the host, the count. -/
structure SpStep (w W : World) (X K : Option Addr) (g n i key T j s c : Nat) : Prop where
  kx : ∃ ad, K = some ad ∧ W.cell? (ad.add i) = some (.int .u64 (key : Int))
  xx : ∃ ad, X = some ad ∧ W.cell? (ad.add j) = some (.int .i64 (s : Int))
  gx : W.cell? ⟨g, s, none⟩ = some (.int .i64 (c : Int))
  gf : W.frozen? ⟨g, s, none⟩ = false
  tm : (T : Int).tmod (n : Int) = (j : Int)
  te : (T : Int) % (n : Int) = (j : Int)
  jn : j < n
  tu : U64 T
theorem sp_step {w W : World} {xs : List Int} {m g i : Nat} {keys : List Nat} {X K : Option Addr} (h : SpIn w xs m keys X K) (hb : Below w.heap.size w W) (_hg : w.heap.size ≤ g) (hB : Blk W g 3 (numsV (spreadL xs m (keys.take i))).toArray) (hi : i < keys.length) :
    ∃ key T j s c : Nat, SpStep w W X K g xs.length i key T j s c ∧ s < m ∧ c ≤ keys.length ∧ Hid (key = keys[i] ∧ T = Mx.turn key ∧ U64 key) ∧ Hid (∀ W', W'.heap[g]? = some (.cells ((numsV (spreadL xs m (keys.take i))).toArray.setIfInBounds s (.int .i64 ((c : Int) + 1))) 3 (0, 0)) → Blk W' g 3 (numsV (spreadL xs m (keys.take (i + 1)))).toArray) := by
  have hn := h.n2
  obtain ⟨s, hs, hsm⟩ := h.s (Mx.turn keys[i] % xs.length) (Nat.mod_lt _ (by omega))
  have hk := h.u keys[i] (List.getElem_mem hi)
  have hsp : spotL xs keys[i] = s := by
    unfold spotL
    rw [List.getD_eq_getElem?_getD, hs]
    simp
  have hlen := spreadL_len xs m (keys.take i)
  have hsl : s < (spreadL xs m (keys.take i)).length := by omega
  refine ⟨keys[i], Mx.turn keys[i], Mx.turn keys[i] % xs.length, s, (spreadL xs m (keys.take i))[s], ⟨?_, ?_, ?_, hB.frozen s, by rw [Int.ofNat_tmod], by omega, Nat.mod_lt _ (by omega), Mx.turn_lt _⟩, hsm, ?_, Lib.hid ⟨rfl, rfl, hk⟩, Lib.hid fun W' hW' => ?_⟩
  · obtain ⟨ad, u, hA, hbl, hu, hc⟩ := h.k.at_ hi
    refine ⟨ad, hA, ?_⟩
    rw [hb.cell (by rw [block_of_add]; exact hbl), hc, ← hu]
    simp [keysV, hi]
  · obtain ⟨ad, u, hA, hbl, hu, hc⟩ := h.x.at_ (Nat.mod_lt (Mx.turn keys[i]) (by omega : 0 < xs.length))
    refine ⟨ad, hA, ?_⟩
    rw [hb.cell (by rw [block_of_add]; exact hbl), hc, ← hu, List.getElem?_map, hs]
    rfl
  · rw [hB.cell s]
    simp [numsV, hsl]
  · have := spreadL_le xs m (keys.take i) _ (List.getElem_mem hsl)
    rw [List.length_take] at this
    omega
  · unfold Blk
    rw [hW', spreadL_take hi, hsp]
    have e : ((spreadL xs m (keys.take i)).getD s 0 + 1) = (spreadL xs m (keys.take i))[s] + 1 := by
      rw [List.getD_eq_getElem?_getD, List.getElem?_eq_getElem hsl, Option.getD_some]
    rw [e, ← numsV_set]
    rfl
/-- What a count returns. -/
def SpreadOk (cs : List Nat) (W : World) (e : Ending) (w' : World) : Prop := ∃ g, e = .returned (.tuple #[.slice (some ⟨g, 0, none⟩) cs.length cs.length, .nilIface]) ∧ Blk w' g 3 (numsV cs).toArray ∧ Below W.heap.size W w'
set_option maxRecDepth 100000 in
set_option maxHeartbeats 1000000 in
theorem spread_bad (ea : Nat → Addr) (A K : Option Addr) (c kn kc : Nat) (l : List ByteArray) (size : Int) (f : Flt) (W : World) (hE : ErrsT ea W) (hT : TxIn W A c l) (hM : MakeNo ea l size f) :
    Calls Tryz.prog 31 #[.slice A l.length c, .int .i64 size, .slice K kn kc] W (SortedBad ea f W) := by
  have HM := Lib.hid (hM.1 W A c hE hT)
  unfold SortedBad at HM ⊢
  clear hE hT hM
  go_enter Tryz.func31, Tryz.ntmps31
  go_wp2_with fail
  refine HM.out.mono ?_
  rintro e w1 ⟨t, a, rfl, hI, hb⟩
  have HI := Lib.hid (And.intro hI hb)
  clear hI hb HM
  go_wp2
  go_ret2
  exact ⟨t, a, rfl, HI.out⟩
set_option maxRecDepth 100000 in
set_option maxHeartbeats 1000000 in
theorem spread_long (ea : Nat → Addr) (A K : Option Addr) (c kn kc : Nat) (l : List ByteArray) (size : Int) (xs : List Int) (W : World) (hE : ErrsT ea W) (hT : TxIn W A c l) (hM : MakeYes ea l size xs) (hk : 500 < kn) (_hk2 : kn ≤ maxLen) :
    Calls Tryz.prog 31 #[.slice A l.length c, .int .i64 size, .slice K kn kc] W fun e w' => e = .returned (.tuple #[.slice none 0 0, .iface 330 (.pointer (some (ea (gv 2))))]) ∧ Below W.heap.size W w' := by
  unfold maxLen at _hk2
  have HM := Lib.hid (hM.make W A c hE hT)
  have HE2 : Hid (∀ W', Below W.heap.size W W' → W'.cell? ⟨gv 2, 0, none⟩ = some (.iface 330 (.pointer (some (ea (gv 2)))))) := Lib.hid fun W' hb => (hE.below hb).e3.c2
  have d1 : decide ((kn : Int) > 500) = true := by simp; omega
  have d2 : decide (kn > 500) = true := by simp; omega
  unfold IntsGood at HM
  clear hE hT hM
  dsimp only [gv] at HE2 ⊢
  go_enter Tryz.func31, Tryz.ntmps31
  go_wp2_with fail
  refine HM.out.mono ?_
  rintro e w1 ⟨A1, c1, rfl, _, hb⟩
  have e2 := HE2.out w1 hb
  have HB := Lib.hid hb
  clear hb HM HE2
  go_wp2_with fail
  go_quiet (fail)
  go_wp2_with fail
  go_ret2
  exact ⟨rfl, below_drewN HB.out _⟩
set_option maxRecDepth 100000 in
set_option maxHeartbeats 4000000 in
theorem spread_ok (ea : Nat → Addr) (A K : Option Addr) (c kc : Nat) (l : List ByteArray) (size : Int) (xs : List Int) (keys : List Nat) (W : World) (hE : ErrsT ea W) (hT : TxIn W A c l) (hM : MakeYes ea l size xs) (hx : 2 ≤ xs.length ∧ xs.length ≤ 503) (hl : l.length ≤ 1000) (hk : keys.length ≤ 500) (hK : Reads W W.heap.size 1 K keys.length (keysV keys)) (hU : ∀ k ∈ keys, U64 k) :
    Calls Tryz.prog 31 #[.slice A l.length c, .int .i64 size, .slice K keys.length kc] W (SpreadOk (spreadL xs l.length keys) W) := by
  have HM := Lib.hid (hM.make W A c hE hT)
  have hsz := hM.sz
  have HIn : Hid (∀ W' X, Below W.heap.size W W' → Reads W' W'.heap.size 1 X xs.length (xs.map intV) → SpIn W' xs l.length keys X K) := Lib.hid fun W' X hb h1 => ⟨h1, (hK.below hb).more hb.size, hU, hx, hM.slot⟩
  have HMk := Lib.hid (make_nums l.length hl)
  have HTu : Hid (∀ key, U64 key → ∀ W', Calls Tryz.prog 60 #[.int .u64 (key : Int)] W' fun e w' => e = .returned (.int .u64 ((Mx.turn key : Nat) : Int)) ∧ W' = w') := Lib.hid fun key h W' => turn_any key W' h
  have HFin : Hid (∀ g W', Blk W' g 3 (numsV (spreadL xs l.length (keys.take keys.length))).toArray → Below W.heap.size W W' → SpreadOk (spreadL xs l.length keys) W (.returned (.tuple #[.slice (some ⟨g, 0, none⟩) l.length l.length, .nilIface])) W') := Lib.hid fun g W' h1 h2 => by
    rw [List.take_length] at h1
    refine ⟨g, ?_, h1, h2⟩
    rw [spreadL_len]
  have d1 : decide ((keys.length : Int) > 500) = false := by simp; omega
  have hx2 := hx.1
  have hx5 := hx.2
  obtain ⟨n, hn⟩ : ∃ n, n = xs.length := ⟨_, rfl⟩
  rw [← hn] at hx2 hx5 hsz
  have hwn : IntKind.u64.wrap (n : Int) = (n : Int) := by rw [IntKind.wrap_u64]; omega
  have hn0 : ¬ (n : Int) = 0 := by omega
  have HNX := Lib.hid hn
  subst hsz
  unfold IntsGood at HM
  rw [← hn] at HM
  clear hE hT hM hK hU hx hn
  go_enter Tryz.func31, Tryz.ntmps31
  go_wp2_with fail
  refine HM.out.mono ?_
  rintro e w1 ⟨A1, c1, rfl, hr1, hb1⟩
  have HI1 : Hid (SpIn w1 xs l.length keys A1 K) := Lib.hid (HIn.out w1 A1 hb1 (by rw [← HNX.out]; exact hr1))
  have hm1 := HMk.out w1
  have HB1 := Lib.hid hb1
  have HXB := Lib.hid (Blk.new w1 3 (numsV (List.replicate l.length 0)).toArray)
  have HBN := Lib.hid ((Below.refl w1.heap.size w1).alloc (Nat.le_refl _) (.cells (numsV (List.replicate l.length 0)).toArray 3))
  clear hb1 hr1 HM HMk HIn
  go_wp2_with fail
  have HB0 : Hid (Blk (w1.alloc (.cells (numsV (List.replicate l.length 0)).toArray 3)) w1.heap.size 3 (numsV (spreadL xs l.length (keys.take 0))).toArray) := Lib.hid HXB.out
  generalize w1.alloc (.cells (numsV (List.replicate l.length 0)).toArray 3) = w2 at *
  clear HXB
  have HGZ : Hid (w1.heap.size ≤ w1.heap.size) := Lib.hid (Nat.le_refl _)
  go_loopw [31] (fun iv wr => ∃ i : Nat, i ≤ keys.length ∧ iv = .int .i64 (i : Int) ∧ Hid (Blk wr w1.heap.size 3 (numsV (spreadL xs l.length (keys.take i))).toArray) ∧ Hid (Below w1.heap.size w1 wr)) (fun iv _ => keys.length + 1 - (intOf iv).toNat)
  case atStart => exact ⟨0, Nat.zero_le _, rfl, HB0, HBN⟩
  case round =>
    obtain ⟨i, hile, rfl, hB, hbw⟩ := hrel
    clear HB0 HBN
    by_cases hil : i < keys.length
    · have hil2 : (i : Int) < keys.length := by omega
      obtain ⟨key, T, j, s, cc, hS, hsm, hcc, hT, hB2⟩ := sp_step HI1.out hbw.out (Nat.le_refl _) hB.out hil
      obtain ⟨⟨adk, rfl, ck⟩, ⟨adx, rfl, cx⟩, gx, gf, tm, te, jn, tu⟩ := hS
      rw [← HNX.out] at tm te jn
      have HT1 : Hid (∀ W', Calls Tryz.prog 60 #[.int .u64 (key : Int)] W' fun e w' => e = .returned (.int .u64 (T : Int)) ∧ W' = w') := Lib.hid fun W' => by rw [hT.out.2.1]; exact HTu.out key hT.out.2.2 W'
      have HB3 : Hid (Blk (wr.setCell ⟨w1.heap.size, s, none⟩ (.int .i64 ((cc : Int) + 1))) w1.heap.size 3 (numsV (spreadL xs l.length (keys.take (i + 1)))).toArray) := Lib.hid (hB2.out _ (hB.out.set_ s _))
      have HB4 : Hid (Below w1.heap.size w1 (wr.setCell ⟨w1.heap.size, s, none⟩ (.int .i64 ((cc : Int) + 1)))) := Lib.hid (hbw.out.setCell (Nat.le_refl _) _)
      have hs2 : (s : Int) < l.length := by omega
      have hj2 : (j : Int) < n := by omega
      clear hT hB2 hB hbw tu
      go_wp2_with fail
      refine (HT1.out _).mono ?_
      rintro e w4 ⟨rfl, rfl⟩
      go_wp2_with fail
      go_roundw
      case rel => exact ⟨i + 1, by omega, by go_num, HB3, HB4⟩
      case measure => simp [intOf]; omega
    · obtain rfl : i = keys.length := by omega
      have hge : ¬ (keys.length : Int) < keys.length := by omega
      have HF := Lib.hid (HFin.out _ _ hB.out (below_two HB1.out hbw.out))
      clear hB hbw HFin
      go_wp2
      go_ret2
      exact HF.out
end Go.Proofs.YteilefpjfbholaaGreatDoor
