/-
  rival.Host; the closed fact rivals; what goes and comes among rivals, in plain words.
-/
import Derived.Test.YtbbbnnooaaelmaaDoorRivalOrder
import Derived.Test.YtbbbnnooaaelmaaDoorRefHosts
namespace Go.Proofs.YtbbbnnooaaelmaaDoor
open Go.RowKit Go.Shelf Go.Sort

def HostBad (ea : Nat → Addr) (f : Flt) (w : World) (e : Ending) (w' : World) : Prop := ∃ t a, e = .returned (.tuple #[.string ⟨#[]⟩, .iface t (.pointer (some a))]) ∧ IsErr ea w' f t a ∧ Below w.heap.size w w'
def HostGood (x : ByteArray) (w : World) (e : Ending) (w' : World) : Prop := e = .returned (.tuple #[.string x, .nilIface]) ∧ Below w.heap.size w w'
def RHostPost (ea : Nat → Addr) (l : List ByteArray) (key : Nat) (w : World) (e : Ending) (w' : World) : Prop := match orderFault l with
  | some f => HostBad ea f w e w'
  | none => ∃ x, (orderB key l)[0]? = some x ∧ HostGood x w e w'
theorem orderFault_none {l : List ByteArray} (h : orderFault l = none) : 0 < l.length ∧ hostsFault l = none := by
  unfold orderFault at h
  split at h
  · cases h
  · exact ⟨by omega, h⟩
theorem orderFault_of {l : List ByteArray} (h : 0 < l.length) (h2 : hostsFault l = none) : orderFault l = none := by
  unfold orderFault
  rw [if_neg (by omega)]; exact h2
set_option maxRecDepth 100000 in
set_option maxHeartbeats 1000000 in
theorem rhost_any (ea : Nat → Addr) (A : Option Addr) (c : Nat) (l : List ByteArray) (key : Nat) (w : World) (hE : ErrsR ea w) (hI : TextsIn w A c l) (hk : U64 key) :
    Calls Tryd.prog 21 #[.slice A l.length c, .int .u64 (key : Int)] w (RHostPost ea l key w) := by
  have HO := Lib.hid (order_any ea A c l key w hE hI hk)
  unfold OrderPost at HO
  cases hf : orderFault l with
  | some f =>
    have HP : Hid (∀ e w', HostBad ea f w e w' → RHostPost ea l key w e w') := Lib.hid fun e w' h => by
      unfold RHostPost; rw [hf]; exact h
    rw [hf] at HO
    clear hE hI hf hk
    go_enter Tryd.func21, Tryd.ntmps21
    go_wp2_with fail
    refine HO.out.mono ?_
    rintro e w1 ⟨t, a, rfl, hX, hb1⟩
    go_wp2
    go_ret2
    exact HP.out _ _ ⟨t, a, rfl, hX, hb1⟩
  | none =>
    have h0 := (orderFault_none hf).1
    have hol := orderB_length key l
    have hx : (orderB key l)[0]? = some ((orderB key l)[0]'(by omega)) := List.getElem?_eq_getElem (by omega)
    have HP : Hid (∀ e w', HostGood ((orderB key l)[0]'(by omega)) w e w' → RHostPost ea l key w e w') := Lib.hid fun e w' h => by
      unfold RHostPost; rw [hf]; exact ⟨_, hx, h⟩
    have HX := Lib.hid hx
    rw [hf] at HO
    generalize (orderB key l)[0]'(by omega) = x at *
    generalize orderB key l = o at *
    have hln : (0 : Int) < l.length := by omega
    have HOL := Lib.hid hol
    clear hE hI hf hk hx hol
    go_enter Tryd.func21, Tryd.ntmps21
    go_wp2_with fail
    refine HO.out.mono ?_
    rintro e w1 ⟨g, cap, rfl, ho, hb1⟩
    have c0 : w1.cell? ⟨g, 0, none⟩ = some (.string x) := by
      have h1 := HX.out
      have h2 := ho.cellAt 0 (by omega)
      rw [h2]
      simp [strV, h1]
    clear ho
    go_wp2
    go_ret2
    exact HP.out _ _ ⟨rfl, hb1⟩
theorem orderB_one (key : Nat) (x : ByteArray) : orderB key [x] = [x] := by
  have h := isOrder_orderB key [x]
  exact List.perm_singleton.1 h.1
set_option maxRecDepth 100000 in
set_option maxHeartbeats 1000000 in
theorem rivals_any (ea : Nat → Addr) (w : World) (hE : ErrsR ea w) : Calls Tryd.prog 18 #[] w (True1 w) := by
  have hb : Below w.heap.size w (w.alloc (.cells #[.string nmA] 9)) := (Below.refl _ _).alloc (Nat.le_refl _) _
  have hI : TextsIn (w.alloc (.cells #[.string nmA] 9)) (some ⟨w.heap.size, 0, none⟩) 1 [nmA] := by
    refine ⟨?_, Nat.le_refl _, by decide, ?_⟩
    · exact (lit_reads w [nmA] _ rfl).more (by simp)
    · intro s hs
      simp at hs; subst hs; decide
  have hf : orderFault [nmA] = none := orderFault_of (by simp) nmA_fault
  have h := rhost_any ea (some ⟨w.heap.size, 0, none⟩) 1 [nmA] 5 _ (hE.below hb) hI (by unfold U64; omega)
  have HH : Hid (Calls Tryd.prog 21 #[.slice (some ⟨w.heap.size, 0, none⟩) 1 1, .int .u64 5] (w.alloc (.cells #[.string nmA] 9)) (HostGood nmA (w.alloc (.cells #[.string nmA] 9)))) := Lib.hid (h.mono fun e w' hp => by
    unfold RHostPost at hp
    rw [hf] at hp
    obtain ⟨x, hx, hg⟩ := hp
    rw [orderB_one] at hx
    obtain rfl : nmA = x := by simpa using hx
    exact hg)
  have HB := Lib.hid hb
  unfold nmA at HH HB
  clear hE hb hI hf h
  go_enter Tryd.func18, Tryd.ntmps18
  go_wp2_with fail
  refine HH.out.mono ?_
  rintro e w1 ⟨rfl, hb1⟩
  go_wp2
  go_ret
  exact ⟨rfl, below_two HB.out hb1⟩

theorem hosts_filter {l : List ByteArray} (h : hostsFault l = none) (p : ByteArray → Bool) : hostsFault (l.filter p) = none := by
  obtain ⟨a, b, c⟩ := hostsFault_none.1 h
  exact hostsFault_none.2 ⟨Nat.le_trans (List.length_filter_le _ _) a, fun s hs => b s (List.mem_filter.1 hs).1, c.filter _⟩
theorem orderB_filter (key : Nat) (l : List ByteArray) (p : ByteArray → Bool) : orderB key (l.filter p) = (orderB key l).filter p :=
  (isOrder_orderB key (l.filter p)).unique ((isOrder_orderB key l).filter p)
theorem orderB_perm (key : Nat) {l l' : List ByteArray} (h : l.Perm l') : orderB key l = orderB key l' :=
  ((isOrder_orderB key l).perm h).unique (isOrder_orderB key l')
theorem hosts_perm {l l' : List ByteArray} (h : l.Perm l') (hf : hostsFault l = none) : hostsFault l' = none := by
  obtain ⟨a, b, c⟩ := hostsFault_none.1 hf
  exact hostsFault_none.2 ⟨by rw [← h.length_eq]; exact a, fun s hs => b s (h.mem_iff.2 hs), h.nodup_iff.1 c⟩
/-- Where a host comes, a key stays or goes to it. -/
theorem comes_order {l : List ByteArray} {name : ByteArray} {key : Nat} {x y : ByteArray} (hnd : (l ++ [name]).Nodup) (hx : (orderB key l)[0]? = some x) (hy : (orderB key (l ++ [name]))[0]? = some y) : y = name ∨ y = x := by
  have hni : name ∉ l := fun h => by
    have := (List.nodup_append.1 hnd).2.2 name h name (by simp)
    exact this rfl
  have hl : l = (l ++ [name]).filter fun y => decide (y ≠ name) := by
    rw [List.filter_append]
    have h1 : (l.filter fun y => decide (y ≠ name)) = l := List.filter_eq_self.2 fun y hy => by
      have : y ≠ name := fun e => hni (e ▸ hy)
      simpa using this
    rw [h1]; simp
  rw [hl, orderB_filter] at hx
  cases hH : orderB key (l ++ [name]) with
  | nil => rw [hH] at hy; cases hy
  | cons z r =>
    rw [hH] at hx hy
    obtain rfl : z = y := by simpa using hy
    by_cases hz : z = name
    · exact .inl hz
    · right
      rw [List.filter_cons, if_pos (by simpa using hz)] at hx
      simpa using hx
end Go.Proofs.YtbbbnnooaaelmaaDoor
