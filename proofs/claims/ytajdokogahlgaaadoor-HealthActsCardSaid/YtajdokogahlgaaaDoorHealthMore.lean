/-
  The walks of package health: Add, Remove.
-/
import Derived.Test.YtajdokogahlgaaaDoorLook
import Derived.Test.YtajdokogahlgaaaDoorRefState
import Derived.Test.YtajdokogahlgaaaDoorOwnRows
import Derived.Test.YtajdokogahlgaaaDoorShelf
namespace Go.Proofs.YtajdokogahlgaaaDoor
open Go.RowKit Go.Sort

/-- Health behind a change. -/
def MutH (B hp fall rise : Nat) (st : List St) (w : World) (e : Ending) (w' : World) : Prop :=
  e = .returned .nilIface ∧ (∃ sv ps, HealthR w' B hp fall rise st sv ps) ∧ KeepT B [92, 93, 95] w w'
def ErrH (ea : Nat → Addr) (c : Nat) (w : World) (e : Ending) (w' : World) : Prop := e = .returned (.iface 217 (.pointer (some (ea (gv c))))) ∧ Below w.heap.size w w'
structure Errs5 (ea : Nat → Addr) (w : World) : Prop where
  c2 : w.cell? ⟨gv 2, 0, none⟩ = some (.iface 217 (.pointer (some (ea (gv 2)))))
  c4 : w.cell? ⟨gv 4, 0, none⟩ = some (.iface 217 (.pointer (some (ea (gv 4)))))
  c5 : w.cell? ⟨gv 5, 0, none⟩ = some (.iface 217 (.pointer (some (ea (gv 5)))))
  c6 : w.cell? ⟨gv 6, 0, none⟩ = some (.iface 217 (.pointer (some (ea (gv 6)))))
theorem Errs5.below {ea : Nat → Addr} {w w' : World} (h : Errs5 ea w) (hb : Below w.heap.size w w') : Errs5 ea w' :=
  ⟨(hb.cell (p := ⟨gv 2, 0, none⟩) (lt_of_cell h.c2)).trans h.c2, (hb.cell (p := ⟨gv 4, 0, none⟩) (lt_of_cell h.c4)).trans h.c4, (hb.cell (p := ⟨gv 5, 0, none⟩) (lt_of_cell h.c5)).trans h.c5, (hb.cell (p := ⟨gv 6, 0, none⟩) (lt_of_cell h.c6)).trans h.c6⟩

theorem HealthR.form {w : World} {B hp fall rise : Nat} {st : List St} {sv : Value} {ps : List Nat} (h : HealthR w B hp fall rise st sv ps) : ∃ A cap, sv = .slice A st.length cap ∧ st.length ≤ cap := by
  obtain ⟨A, cap, hsv, _, hc, _⟩ := own_slice h.own
  exact ⟨A, cap, hsv, hc⟩
theorem add_full (ea : Nat → Addr) {B hp fall rise : Nat} {st : List St} {sv : Value} {ps : List Nat} (x : ByteArray) (w : World) (h : HealthR w B hp fall rise st sv ps) (hE : Errs5 ea w) (hl : st.length ≤ 1000) (h12 : 12 ≤ st.length) :
    Calls Tryd.prog 25 #[ptr hp, .string x] w (ErrH ea 2 w) := by
  obtain ⟨A, cap, hsv, hcap⟩ := h.form
  have hc2 : w.cell? ⟨hp, 2, none⟩ = some (.slice A st.length cap) := by rw [← hsv]; exact h.blk.cell 2
  have t1 : decide ((st.length : Int) ≥ 12) = true := by simp; omega
  have c2 := hE.c2
  dsimp only [gv] at c2
  unfold ptr
  clear h hE hsv
  go_enter Tryd.func25, Tryd.ntmps25
  go_wp2
  go_ret
  exact ⟨rfl, Below.refl _ _⟩
theorem add_name (ea : Nat → Addr) {B hp fall rise : Nat} {st : List St} {sv : Value} {ps : List Nat} (x : ByteArray) (w : World) (h : HealthR w B hp fall rise st sv ps) (hE : Errs5 ea w) (h12 : st.length < 12) (hx : x.size ≤ maxLen) (hn : isName x = false) :
    Calls Tryd.prog 25 #[ptr hp, .string x] w (ErrH ea 4 w) := by
  obtain ⟨A, cap, hsv, hcap⟩ := h.form
  have hc2 : w.cell? ⟨hp, 2, none⟩ = some (.slice A st.length cap) := by rw [← hsv]; exact h.blk.cell 2
  have t1 : decide ((st.length : Int) ≥ 12) = false := by simp; omega
  have HN := Lib.hid (name_is x hx _ hn w)
  have HE := Lib.hid hE
  unfold ptr
  clear h hE hsv hn hx
  go_enter Tryd.func25, Tryd.ntmps25
  go_wp2_with fail
  refine HN.out.mono ?_
  rintro e w1 ⟨rfl, hb⟩
  have c4 := (HE.out.below hb).c4
  dsimp only [gv] at c4
  go_wp2
  go_ret
  exact ⟨rfl, hb⟩
theorem add_exist (ea : Nat → Addr) {B hp fall rise : Nat} {st : List St} {sv : Value} {ps : List Nat} (x : ByteArray) (w : World) (h : HealthR w B hp fall rise st sv ps) (hE : Errs5 ea w) (h12 : st.length < 12) (hx : x.size ≤ maxLen) (hn : isName x = true) (hm : x ∈ hosts st) :
    Calls Tryd.prog 25 #[ptr hp, .string x] w (ErrH ea 6 w) := by
  obtain ⟨A, cap, hsv, hcap⟩ := h.form
  have hc2 : w.cell? ⟨hp, 2, none⟩ = some (.slice A st.length cap) := by rw [← hsv]; exact h.blk.cell 2
  have t1 : decide ((st.length : Int) ≥ 12) = false := by simp; omega
  have HN := Lib.hid (name_is x hx _ hn w)
  obtain ⟨k, hk, hi, _⟩ := idx_mem hm
  have HF : Hid (∀ W, Below w.heap.size w W → Calls Tryd.prog 55 #[ptr hp, .string x] W (IdxBelow (k : Int) W)) := Lib.hid fun W hW => by
    have := find_any x W (h.below hW)
    rwa [hi] at this
  have HE := Lib.hid hE
  unfold ptr at HF ⊢
  clear h hE hsv hn hx hm hi
  go_enter Tryd.func25, Tryd.ntmps25
  go_wp2_with fail
  refine HN.out.mono ?_
  rintro e w1 ⟨rfl, hb⟩
  go_wp2_with fail
  refine (HF.out _ hb).mono ?_
  rintro e w2 ⟨rfl, hb2⟩
  have hb12 := below_two hb hb2
  have c6 := (HE.out.below hb12).c6
  dsimp only [gv] at c6
  go_wp2
  go_ret
  exact ⟨rfl, hb12⟩
theorem remove_none (ea : Nat → Addr) {B hp fall rise : Nat} {st : List St} {sv : Value} {ps : List Nat} (x : ByteArray) (w : World) (h : HealthR w B hp fall rise st sv ps) (hE : Errs5 ea w) (hm : x ∉ hosts st) :
    Calls Tryd.prog 27 #[ptr hp, .string x] w (ErrH ea 5 w) := by
  have hi : idx (hosts st) x = -1 := idx_miss fun t ht e => hm (by rw [e]; exact ht)
  have HF := Lib.hid (find_any x w h)
  rw [hi] at HF
  have HE := Lib.hid hE
  unfold ptr at HF ⊢
  clear h hE hm hi
  go_enter Tryd.func27, Tryd.ntmps27
  go_wp2_with fail
  refine HF.out.mono ?_
  rintro e w1 ⟨rfl, hb⟩
  have c5 := (HE.out.below hb).c5
  dsimp only [gv] at c5
  go_wp2
  go_ret
  exact ⟨rfl, hb⟩

theorem HealthR.push_keep {w w3 : World} {B hp fall rise : Nat} {st : List St} {sv v : Value} {ps : List Nat} {s : St} (h : HealthR w B hp fall rise st sv ps) (hB : B ≤ w.heap.size)
    (hg : (pushW w s).grownBy w3 sv.ownBlock) (ho : w3.ownsRow B 93 1 v (st.length + 1) (ps.map ptr ++ [ptr w.heap.size])) :
    HealthR (w3.setCell ⟨hp, 2, none⟩ v) B hp fall rise (st ++ [s]) v (ps ++ [w.heap.size]) ∧ KeepT B [92, 93, 95] w (w3.setCell ⟨hp, 2, none⟩ v) ∧
      w3.cell? ⟨hp, 2, none⟩ = some sv ∧ w3.frozen? ⟨hp, 2, none⟩ = false := by
  have hb := pushW_below w s
  have k1 : KeepT B [93] w w3 := (KeepT.of_below hb hB).trans (KeepT.of_app (own_below h.own hb) hg (Nat.le_trans hB hb.size))
  have hb3 := k1.blk h.blk (by decide)
  exact ⟨h.push hB hg ho, (k1.more (by simp)).trans ((KeepT.refl _ _ _).setCell hb3 (by simp) h.base.1 v), hb3.cell 2, hb3.frozen 2⟩
set_option maxRecDepth 100000 in
set_option maxHeartbeats 1000000 in
theorem add_ok {B hp fall rise : Nat} {st : List St} {sv : Value} {ps : List Nat} (x : ByteArray) (w : World) (h : HealthR w B hp fall rise st sv ps) (hB : B ≤ w.heap.size) (h12 : st.length < 12) (hx : x.size ≤ maxLen) (hn : isName x = true) (hm : x ∉ hosts st) :
    Calls Tryd.prog 25 #[ptr hp, .string x] w (MutH B hp fall rise (st ++ [⟨x, false, 0⟩]) w) := by
  obtain ⟨A, cap, hsv, hcap⟩ := h.form
  subst hsv
  have hc2 : w.cell? ⟨hp, 2, none⟩ = some (.slice A st.length cap) := h.blk.cell 2
  have t1 : decide ((st.length : Int) ≥ 12) = false := by simp; omega
  have HN := Lib.hid (name_is x hx _ hn w)
  have hi : idx (hosts st) x = -1 := idx_miss fun t ht e => hm (by rw [e]; exact ht)
  have HF : Hid (∀ W, Below w.heap.size w W → Calls Tryd.prog 55 #[ptr hp, .string x] W (IdxBelow (-1) W)) := Lib.hid fun W hW => by
    have := find_any x W (h.below hW)
    rwa [hi] at this
  obtain ⟨i0, hi0, hz0, hz1, hz2⟩ := info_parts info_state
  have HH := Lib.hid h
  unfold ptr at HF ⊢
  clear h hn hx hm hi
  go_enter Tryd.func25, Tryd.ntmps25
  go_wp2_with fail
  refine HN.out.mono ?_
  rintro e w1 ⟨rfl, hb⟩
  go_wp2_with fail
  refine (HF.out _ hb).mono ?_
  rintro e w2 ⟨rfl, hb2⟩
  have hb12 := below_two hb hb2
  have hH2 := HH.out.below hb12
  have c2 := hH2.blk.cell 2
  have HK := Lib.hid (KeepT.of_below (ts := [92, 93, 95]) hb12 hB)
  have hhl := hH2.blk.lt
  have hown := own_below hH2.own (pushW_below w2 ⟨x, false, 0⟩)
  have H2 := Lib.hid hH2
  have hB2 : B ≤ w2.heap.size := Nat.le_trans hB hb12.size
  simp at c2
  clear hH2 hc2
  go_wp2_with (at_builtin
               go_must (refine wpList_append_own _ rfl _ _ 90 rfl B 93 i0 (.pointer none) 1 8 Tryd.underlying90 hi0 hz0 hz1 hz2 rfl (by decide) _ _ _ rfl hown ⟨w2.heap.size + 1, 0, none⟩ 1 1 [.pointer (some ⟨w2.heap.size, 0, none⟩)] rfl rfl (push_cell w2 ⟨x, false, 0⟩) (by simp [Value.oneCell']) (by simp only [maxLen]; omega) (by omega) (by simp; omega) ?_)
               intro v' w3 hown3 hgrow _
               obtain ⟨p1, p2, cc, cf⟩ := H2.out.push_keep (s := ⟨x, false, 0⟩) hB2 hgrow hown3
               have HP1 := Lib.hid p1
               have HP2 := Lib.hid p2
               clear p1 p2
               obtain ⟨A3, cap3, hv3, _⟩ := own_slice hown3
               subst hv3)
  go_ret
  exact ⟨rfl, ⟨_, _, HP1.out⟩, HK.out.trans HP2.out⟩

def encP (x : Option Addr) : Value := .pointer x
def addrs (ps : List Nat) : Array (Option Addr) := (ps.map fun p => some (⟨p, 0, none⟩ : Addr)).toArray
theorem addrs_map (ps : List Nat) : (addrs ps).map encP = (ps.map ptr).toArray := by simp [addrs, encP, ptr, Function.comp_def]
theorem addrs_size (ps : List Nat) : (addrs ps).size = ps.length := by simp [addrs]
theorem del_map (ps : List Nat) (k : Nat) : ((((addrs ps).toList.take k ++ (addrs ps).toList.drop (k + 1) ++ List.replicate (k + 1 - k) none).toArray).map encP).toList = (ps.eraseIdx k).map ptr ++ [.pointer none] := by
  rw [List.eraseIdx_eq_take_drop_succ]
  simp [addrs, encP, Function.comp_def, List.map_take, List.map_drop]
  rfl
def DelPost (ps : List Nat) (k g n cap B : Nat) (w : World) (e : Ending) (w' : World) : Prop :=
  e = .returned (.slice (some ⟨g, 0, none⟩) (n - 1) cap) ∧ w'.ownsRow B 93 1 (.slice (some ⟨g, 0, none⟩) (n - 1) cap) (n - 1) ((ps.eraseIdx k).map ptr) ∧ w.grownBy w' (some g)
theorem delete_states {B g n cap k : Nat} {ps : List Nat} (w : World) (ho : w.ownsRow B 93 1 (.slice (some ⟨g, 0, none⟩) n cap) n (ps.map ptr)) (hk : k < n) :
    Calls Tryd.prog 58 #[.slice (some ⟨g, 0, none⟩) n cap, .int .i64 (k : Int), .int .i64 ((k : Int) + 1)] w (DelPost ps k g n cap B w) := by
  obtain ⟨i0, hi0, hz0, hz1, hz2⟩ := info_parts info_state
  obtain ⟨hl, hB, hnc, hcm, _⟩ := own_open ho
  have hpl : ps.length = n := by simpa using hl
  have hH : Holds encP w g 0 (addrs ps) := holds_map encP (by rw [addrs_map]; exact own_holds ho)
  unfold maxLen at hcm
  have hcon := AnyE.slices_Delete Tryd.delState encP (fun _ => rfl) none Tryd.zeroValue93 i0 hi0 hz1 g 0 cap k (k + 1) (addrs ps) w hH (by rw [addrs_size]; omega) hcm (by omega) (by rw [addrs_size]; omega)
  rw [addrs_size, hpl] at hcon
  change Calls Tryd.prog 58 _ _ _ at hcon
  rw [Int.natCast_add] at hcon
  refine hcon.mono ?_
  rintro e w' ⟨rfl, q, rfl⟩
  refine ⟨by rw [Nat.add_sub_cancel_left], ?_⟩
  have hp := own_put (ys := (ps.eraseIdx k).map ptr ++ [.pointer none]) ho (by simp [List.length_eraseIdx_of_lt (by omega : k < ps.length)]; omega) q #[]
  rw [grow_empty] at hp
  have e1 := putRow_map encP (Sort.ahead w q) g (((addrs ps).toList.take k ++ (addrs ps).toList.drop (k + 1) ++ List.replicate (k + 1 - k) none).toArray)
  have e2 : ((((addrs ps).toList.take k ++ (addrs ps).toList.drop (k + 1) ++ List.replicate (k + 1 - k) none).toArray).map encP) = ((ps.eraseIdx k).map ptr ++ [Value.pointer none]).toArray := by
    rw [← del_map]
  rw [e1, e2]
  refine ⟨?_, hp.2⟩
  have h3 := own_cut hp.1 (Nat.sub_le n 1)
  rw [Nat.mul_one, List.take_left' (by simp [List.length_eraseIdx_of_lt (by omega : k < ps.length)]; omega)] at h3
  exact h3

theorem HealthR.erase {w w1 : World} {B hp fall rise k g cap : Nat} {st : List St} {ps : List Nat} {v : Value} (h : HealthR w B hp fall rise st (.slice (some ⟨g, 0, none⟩) st.length cap) ps) (hk : k < st.length) (hg : w.grownBy w1 (some g)) (hB : B ≤ w.heap.size)
    (ho : w1.ownsRow B 93 1 v (st.length - 1) ((ps.eraseIdx k).map ptr)) :
    HealthR (w1.setCell ⟨hp, 2, none⟩ v) B hp fall rise (st.eraseIdx k) v (ps.eraseIdx k) ∧ KeepT B [92, 93, 95] w (w1.setCell ⟨hp, 2, none⟩ v) ∧
      w1.cell? ⟨hp, 2, none⟩ = some (.slice (some ⟨g, 0, none⟩) st.length cap) ∧ w1.frozen? ⟨hp, 2, none⟩ = false := by
  have hkp : k < ps.length := by rw [h.len]; exact hk
  have k1 : KeepT B [93] w w1 := KeepT.of_app h.own hg hB
  have hb3 := k1.blk h.blk (by decide)
  have k2 : KeepT B [92] w1 (w1.setCell ⟨hp, 2, none⟩ v) := (KeepT.refl _ _ _).setCell hb3 (by simp) h.base.1 v
  refine ⟨⟨hb3.set_ 2 v, by rw [List.length_eraseIdx_of_lt hk]; exact k2.own ho (by decide), by rw [List.length_eraseIdx_of_lt hk, List.length_eraseIdx_of_lt hkp, h.len], fun i p s a b => ?_, h.nodup.sublist (List.eraseIdx_sublist _ _), h.base.1, fun p hp => h.base.2 p (List.mem_of_mem_eraseIdx hp)⟩,
    (k1.more (by simp)).trans (k2.more (by simp)), hb3.cell 2, hb3.frozen 2⟩
  rw [List.getElem?_eraseIdx] at a b
  split at a
  · rw [if_pos ‹_›] at b; exact k2.blk (k1.blk (h.at_ i p s a b) (by decide)) (by decide)
  · rw [if_neg ‹_›] at b; exact k2.blk (k1.blk (h.at_ (i + 1) p s a b) (by decide)) (by decide)
set_option maxRecDepth 100000 in
set_option maxHeartbeats 1000000 in
theorem remove_ok {B hp fall rise k : Nat} {st : List St} {sv : Value} {ps : List Nat} (x : ByteArray) (w : World) (h : HealthR w B hp fall rise st sv ps) (hB : B ≤ w.heap.size) (hl : st.length ≤ 1000) (hi : idx (hosts st) x = k) (hk : k < st.length) :
    Calls Tryd.prog 27 #[ptr hp, .string x] w (MutH B hp fall rise (st.eraseIdx k) w) := by
  obtain ⟨g, cap, hsv, _⟩ := h.own.form (by omega)
  subst hsv
  have HF := Lib.hid (find_any x w h)
  rw [hi] at HF
  have HH := Lib.hid h
  have hkl : (k : Int) < st.length := by omega
  unfold ptr at HF ⊢
  clear h hi
  go_enter Tryd.func27, Tryd.ntmps27
  go_wp2_with fail
  refine HF.out.mono ?_
  rintro e w1 ⟨rfl, hb⟩
  have hH1 := HH.out.below hb
  have HK := Lib.hid (KeepT.of_below (ts := [92, 93, 95]) hb hB)
  have hB1 : B ≤ w1.heap.size := Nat.le_trans hB hb.size
  have c2 := hH1.blk.cell 2
  have HD := Lib.hid (delete_states w1 hH1.own hk)
  have H1 := Lib.hid hH1
  simp at c2
  clear hH1
  go_wp2_with fail
  refine HD.out.mono ?_
  rintro e w2 ⟨rfl, hown2, hg2⟩
  obtain ⟨p1, p2, cc, cf⟩ := H1.out.erase hk hg2 hB1 hown2
  have HP1 := Lib.hid p1
  have HP2 := Lib.hid p2
  clear p1 p2
  go_wp2
  go_ret
  exact ⟨rfl, ⟨_, _, HP1.out⟩, HK.out.trans HP2.out⟩
end Go.Proofs.YtajdokogahlgaaaDoor
