/-
  The walks of package health: Look, Is.
-/
import Derived.Test.YtnmkdmehljkedaaGreatDoorHealth
namespace Go.Proofs.YtnmkdmehljkedaaGreatDoor
open Go.RowKit

/-- What a look does to one host's state; did it turn? -/
def lookSt (fall rise : Nat) (s : St) (well : Bool) : St × Bool :=
  if s.up = well then ({ s with looks := 0 }, false)
  else if s.looks + 1 < (if s.up then fall else rise) then ({ s with looks := s.looks + 1 }, false) else ({ s with up := !s.up, looks := 0 }, true)

theorem HealthR.setState {w w' : World} {B hp fall rise k p : Nat} {st : List St} {sv : Value} {ps : List Nat} {s' : St} (h : HealthR w B hp fall rise st sv ps) (hp' : ps[k]? = some p)
    (hg : w.grownBy w' (some p)) (hB : Blk w' p 63 (stCells s')) : HealthR w' B hp fall rise (st.set k s') sv ps := by
  have hk : k < ps.length := by
    rcases Nat.lt_or_ge k ps.length with h | h
    · exact h
    · rw [List.getElem?_eq_none h] at hp'; cases hp'
  have hks : k < st.length := by rw [← h.len]; exact hk
  have hold : Blk w p 63 (stCells st[k]) := h.at_ k p st[k] hp' (List.getElem?_eq_getElem hks)
  refine ⟨h.blk.grown hg (fun e => ?_), ?_, by rw [List.length_set]; exact h.len, fun i q s h1 h2 => ?_, h.nodup, h.base⟩
  · exact Blk.ne_ h.blk hold (by decide) (Option.some.inj e)
  · rw [List.length_set]; exact h.own.kept hg (.inr (own_blk_ne h.own hold (by decide)))
  · by_cases hik : i = k
    · subst hik
      rw [hp'] at h1
      obtain rfl := Option.some.inj h1
      rw [List.getElem?_set_self hks] at h2
      obtain rfl := Option.some.inj h2
      exact hB
    · rw [List.getElem?_set_ne (Ne.symm hik)] at h2
      refine (h.at_ i q s h1 h2).grown hg (fun e => ?_)
      obtain rfl := Option.some.inj e
      have hi : i < ps.length := by
        rcases Nat.lt_or_ge i ps.length with h | h
        · exact h
        · rw [List.getElem?_eq_none h] at h1; cases h1
      rw [List.getElem?_eq_getElem hi] at h1
      rw [List.getElem?_eq_getElem hk] at hp'
      have := (List.pairwise_iff_getElem.1 h.nodup)
      rcases Nat.lt_or_gt_of_ne hik with hlt | hlt
      · exact this i k hi hk hlt ((Option.some.inj h1).trans (Option.some.inj hp').symm)
      · exact this k i hk hi hlt ((Option.some.inj hp').trans (Option.some.inj h1).symm)

def LookPost (B hp fall rise : Nat) (st : List St) (sv : Value) (ps : List Nat) (k p : Nat) (r : St × Bool) (w : World) (e : Ending) (w' : World) : Prop :=
  e = .returned (.tuple #[.bool r.2, .nilIface]) ∧ HealthR w' B hp fall rise (st.set k r.1) sv ps ∧ w.grownBy w' (some p)

/-- What a walk reads of a host's state. -/
structure StAt (w : World) (B hp fall rise : Nat) (st : List St) (sv : Value) (ps : List Nat) (k : Nat) (g cap p : Nat) (s : St) : Prop where
  sv_ : sv = .slice (some ⟨g, 0, none⟩) st.length cap
  lt : k < st.length
  get : st[k]? = some s
  pget : ps[k]? = some p
  f : w.cell? ⟨hp, 0, none⟩ = some (.int .i64 (fall : Int))
  r : w.cell? ⟨hp, 1, none⟩ = some (.int .i64 (rise : Int))
  l : w.cell? ⟨hp, 2, none⟩ = some sv
  e : w.cell? ⟨g, k, none⟩ = some (.pointer (some ⟨p, 0, none⟩))
  b : Blk w p 63 (stCells s)
theorem HealthR.stAt {w : World} {B hp fall rise k : Nat} {st : List St} {sv : Value} {ps : List Nat} (h : HealthR w B hp fall rise st sv ps) (hk : k < st.length) :
    ∃ g cap p s, StAt w B hp fall rise st sv ps k g cap p s := by
  have hkp : k < ps.length := by rw [h.len]; exact hk
  obtain ⟨g, cap, hsv, _⟩ := h.own.form (by omega)
  refine ⟨g, cap, ps[k], st[k], hsv, hk, List.getElem?_eq_getElem hk, List.getElem?_eq_getElem hkp, h.blk.cell 0, h.blk.cell 1, h.blk.cell 2, ?_, h.at_ k _ _ (List.getElem?_eq_getElem hkp) (List.getElem?_eq_getElem hk)⟩
  have := h.own.cells (g := g) (by rw [hsv]; rfl) k (ptr ps[k]) (by simp [hkp])
  by_cases h0 : k = 0
  · subst h0; simpa [Addr.add, ptr] using this
  · simpa [Addr.add, h0, ptr] using this

theorem Blk.set2 {w : World} {p : Nat} {s : St} (h : Blk w p 63 (stCells s)) (n : Nat) : Blk (w.setCell ⟨p, 2, none⟩ (.int .i64 (n : Int))) p 63 (stCells { s with looks := n }) := h.set_ 2 _
theorem Blk.set1 {w : World} {p : Nat} {s : St} (h : Blk w p 63 (stCells s)) (b : Bool) : Blk (w.setCell ⟨p, 1, none⟩ (.bool b)) p 63 (stCells { s with up := b }) := h.set_ 1 _
theorem only_refl (w : World) (row : Option Nat) : w.grownBy w row := World.grownBy.refl w row

def set2 (w : World) (p n : Nat) : World := w.setCell ⟨p, 2, none⟩ (.int .i64 (n : Int))
def set1 (w : World) (p : Nat) (b : Bool) : World := w.setCell ⟨p, 1, none⟩ (.bool b)
theorem grown_set2 {w w1 : World} {p : Nat} (h : w.grownBy w1 (some p)) (n : Nat) : w.grownBy (set2 w1 p n) (some p) := only_setCell (p := ⟨p, 2, none⟩) h (.inl rfl) _
theorem grown_set1 {w w1 : World} {p : Nat} (h : w.grownBy w1 (some p)) (b : Bool) : w.grownBy (set1 w1 p b) (some p) := only_setCell (p := ⟨p, 1, none⟩) h (.inl rfl) _
theorem set2_fin {w w1 : World} {B hp fall rise k p : Nat} {st : List St} {sv : Value} {ps : List Nat} {s : St} (hb : Below w.heap.size w w1) (h : HealthR w1 B hp fall rise st sv ps) (hps : ps[k]? = some p)
    (hB : Blk w1 p 63 (stCells s)) (n : Nat) : HealthR (set2 w1 p n) B hp fall rise (st.set k { s with looks := n }) sv ps ∧ w.grownBy (set2 w1 p n) (some p) :=
  ⟨h.setState hps (grown_set2 (only_refl w1 (some p)) n) (Blk.set2 hB n), grown_set2 (only_of_below hb (some p)) n⟩
theorem set3_fin {w w1 : World} {B hp fall rise k p : Nat} {st : List St} {sv : Value} {ps : List Nat} {s : St} (hb : Below w.heap.size w w1) (h : HealthR w1 B hp fall rise st sv ps) (hps : ps[k]? = some p)
    (hB : Blk w1 p 63 (stCells s)) (n : Nat) (b : Bool) : HealthR (set2 (set1 (set2 w1 p n) p b) p 0) B hp fall rise (st.set k { s with up := b, looks := 0 }) sv ps ∧ w.grownBy (set2 (set1 (set2 w1 p n) p b) p 0) (some p) :=
  ⟨h.setState hps (grown_set2 (grown_set1 (grown_set2 (only_refl w1 (some p)) n) b) 0) (Blk.set2 (Blk.set1 (Blk.set2 hB n) b) 0), grown_set2 (grown_set1 (grown_set2 (only_of_below hb (some p)) n) b) 0⟩

set_option maxHeartbeats 400000 in
theorem look_found {B hp fall rise k : Nat} {st : List St} {sv : Value} {ps : List Nat} {g cap p : Nat} {s : St} (x : ByteArray) (well : Bool) (w : World) (h : HealthR w B hp fall rise st sv ps)
    (hi : idx (hosts st) x = k) (hS : StAt w B hp fall rise st sv ps k g cap p s) (hlooks : s.looks < 100) :
    Calls Tryz.prog 19 #[ptr hp, .string x, .bool well] w (LookPost B hp fall rise st sv ps k p (lookSt fall rise s well) w) := by
  have HF := Lib.hid (find_any x w h)
  rw [hi] at HF
  have HH := Lib.hid h
  have HS := Lib.hid hS
  have hkl : (k : Int) < st.length := by have := hS.lt; omega
  have hps := hS.pget
  clear h hi hS
  unfold ptr at HF ⊢
  have hread : ∀ w1 : World, Below w.heap.size w w1 → w1.cell? ⟨hp, 0, none⟩ = some (.int .i64 (fall : Int)) ∧ w1.cell? ⟨hp, 1, none⟩ = some (.int .i64 (rise : Int)) ∧ w1.cell? ⟨hp, 2, none⟩ = some (.slice (some ⟨g, 0, none⟩) st.length cap) ∧ w1.cell? ⟨g, k, none⟩ = some (.pointer (some ⟨p, 0, none⟩)) ∧
      w1.cell? ⟨p, 0, none⟩ = some (.string s.host) ∧ w1.cell? ⟨p, 1, none⟩ = some (.bool s.up) ∧ w1.cell? ⟨p, 2, none⟩ = some (.int .i64 (s.looks : Int)) ∧ w1.frozen? ⟨p, 1, none⟩ = false ∧ w1.frozen? ⟨p, 2, none⟩ = false := by
    intro w1 hb
    have h1 := HH.out.below hb
    have hB := HS.out.b.below hb HS.out.b.lt
    have hgl : g < w.heap.size := (HH.out.own.lt g (by rw [HS.out.sv_]; rfl)).2
    refine ⟨h1.blk.cell 0, h1.blk.cell 1, by rw [← HS.out.sv_]; exact h1.blk.cell 2, (hb.cell (p := ⟨g, k, none⟩) hgl).trans HS.out.e, hB.cell 0, hB.cell 1, hB.cell 2, hB.frozen 1, hB.frozen 2⟩
  have HR := Lib.hid hread
  clear hread
  have fin0 : ∀ w1 : World, Below w.heap.size w w1 → ∀ n : Nat, HealthR (set2 w1 p n) B hp fall rise (st.set k { s with looks := n }) sv ps ∧ w.grownBy (set2 w1 p n) (some p) :=
    fun w1 hb n => set2_fin hb (HH.out.below hb) hps (HS.out.b.below hb HS.out.b.lt) n
  have fin1 : ∀ w1 : World, Below w.heap.size w w1 → ∀ (n : Nat) (b : Bool), HealthR (set2 (set1 (set2 w1 p n) p b) p 0) B hp fall rise (st.set k { s with up := b, looks := 0 }) sv ps ∧ w.grownBy (set2 (set1 (set2 w1 p n) p b) p 0) (some p) :=
    fun w1 hb n b => set3_fin hb (HH.out.below hb) hps (HS.out.b.below hb HS.out.b.lt) n b
  have F0 := Lib.hid fin0
  have F1 := Lib.hid fin1
  clear fin0 fin1 hps
  obtain ⟨host, up, looks⟩ := s
  dsimp only at *
  by_cases hw : up = well
  · have hE : lookSt fall rise ⟨host, up, looks⟩ well = (⟨host, up, 0⟩, false) := by unfold lookSt; rw [if_pos hw]
    rw [hE]
    have hwB : (up == well) = true := by simpa using hw
    clear hE hw
    go_enter Tryz.func19, Tryz.ntmps19
    go_wp2_with (go_at_call 30; refine HF.out.mono ?_; rintro e w1 ⟨rfl, hb⟩; obtain ⟨c0, c1, c2, c3, c4, c5, c6, c7, c8⟩ := HR.out w1 hb)
    go_ret2
    exact ⟨rfl, F0.out w1 hb 0⟩
  · have hwell : well = !up := by cases up <;> cases well <;> simp_all
    subst hwell
    have edge : ∀ b : Bool, ((if b then fall else rise : Nat) : Int) = if b then (fall : Int) else (rise : Int) := by intro b; cases b <;> rfl
    by_cases hlt : looks + 1 < (if up then fall else rise)
    · have hE : lookSt fall rise ⟨host, up, looks⟩ (!up) = (⟨host, up, looks + 1⟩, false) := by unfold lookSt; rw [if_neg hw, if_pos hlt]
      rw [hE]
      clear hE hw edge
      cases up
      all_goals
        simp only [if_true, if_false, Bool.false_eq_true] at hlt
        have hI := Int.ofNat_lt.2 hlt
        push_cast at hI
        go_enter Tryz.func19, Tryz.ntmps19
        go_wp2_with (go_at_call 30; refine HF.out.mono ?_; rintro e w1 ⟨rfl, hb⟩; obtain ⟨c0, c1, c2, c3, c4, c5, c6, c7, c8⟩ := HR.out w1 hb)
        go_ret2
        exact ⟨rfl, F0.out w1 hb (looks + 1)⟩
    · have hE : lookSt fall rise ⟨host, up, looks⟩ (!up) = (⟨host, !up, 0⟩, true) := by unfold lookSt; rw [if_neg hw, if_neg hlt]
      rw [hE]
      clear hE hw edge
      cases up
      all_goals
        simp only [if_true, if_false, Bool.false_eq_true, Nat.not_lt] at hlt
        have hI := Int.ofNat_le.2 hlt
        push_cast at hI
        go_enter Tryz.func19, Tryz.ntmps19
        go_wp2_with (go_at_call 30; refine HF.out.mono ?_; rintro e w1 ⟨rfl, hb⟩; obtain ⟨c0, c1, c2, c3, c4, c5, c6, c7, c8⟩ := HR.out w1 hb)
        go_ret2
        exact ⟨rfl, F1.out w1 hb (looks + 1) _⟩

theorem look_none {B hp fall rise : Nat} {st : List St} {sv : Value} {ps : List Nat} (x : ByteArray) (well : Bool) (w : World) (h : HealthR w B hp fall rise st sv ps) (hi : idx (hosts st) x = -1)
    (a : Addr) (hv : w.cell? ⟨gv 5, 0, none⟩ = some (.iface 159 (.pointer (some a)))) :
    Calls Tryz.prog 19 #[ptr hp, .string x, .bool well] w fun e w' => e = .returned (.tuple #[.bool false, .iface 159 (.pointer (some a))]) ∧ Below w.heap.size w w' := by
  have HF := Lib.hid (find_any x w h)
  rw [hi] at HF
  have HV := Lib.hid (fun w1 (hb : Below w.heap.size w w1) => (hb.cell (p := ⟨gv 5, 0, none⟩) (lt_of_cell hv)).trans hv)
  dsimp only [gv] at HV
  clear h hi hv
  unfold ptr at HF ⊢
  go_enter Tryz.func19, Tryz.ntmps19
  go_wp2_with fail
  refine HF.out.mono ?_
  rintro e w1 ⟨rfl, hb⟩
  have hc := HV.out w1 hb
  go_wp2
  go_quiet (fail)
  go_wp2
  go_ret2
  exact ⟨rfl, below_drewN hb _⟩

/-- Is a host up? -/
def isUp (st : List St) (x : ByteArray) : Bool :=
  match st.find? (fun s => decide (x = s.host)) with
  | some s => s.up
  | none => false
theorem is_none {B hp fall rise : Nat} {st : List St} {sv : Value} {ps : List Nat} (x : ByteArray) (w : World) (h : HealthR w B hp fall rise st sv ps) (hi : idx (hosts st) x = -1) :
    Calls Tryz.prog 16 #[ptr hp, .string x] w fun e w' => e = .returned (.bool false) ∧ Below w.heap.size w w' := by
  have HF := Lib.hid (find_any x w h)
  rw [hi] at HF
  clear h hi
  unfold ptr at HF ⊢
  go_enter Tryz.func16, Tryz.ntmps16
  go_wp2_with (go_at_call 30; refine HF.out.mono ?_; rintro e w1 ⟨rfl, hb⟩)
  go_ret
  exact ⟨rfl, hb⟩
theorem is_found {B hp fall rise k : Nat} {st : List St} {sv : Value} {ps : List Nat} {g cap p : Nat} {s : St} (x : ByteArray) (w : World) (h : HealthR w B hp fall rise st sv ps)
    (hi : idx (hosts st) x = k) (hS : StAt w B hp fall rise st sv ps k g cap p s) :
    Calls Tryz.prog 16 #[ptr hp, .string x] w fun e w' => e = .returned (.bool s.up) ∧ Below w.heap.size w w' := by
  have HF := Lib.hid (find_any x w h)
  rw [hi] at HF
  have hkl : (k : Int) < st.length := by have := hS.lt; omega
  have hread : ∀ w1 : World, Below w.heap.size w w1 → w1.cell? ⟨hp, 2, none⟩ = some (.slice (some ⟨g, 0, none⟩) st.length cap) ∧ w1.cell? ⟨g, k, none⟩ = some (.pointer (some ⟨p, 0, none⟩)) ∧ w1.cell? ⟨p, 1, none⟩ = some (.bool s.up) := by
    intro w1 hb
    have h1 := h.below hb
    have hgl : g < w.heap.size := (h.own.lt g (by rw [hS.sv_]; rfl)).2
    exact ⟨by rw [← hS.sv_]; exact h1.blk.cell 2, (hb.cell (p := ⟨g, k, none⟩) hgl).trans hS.e, (hS.b.below hb hS.b.lt).cell 1⟩
  have HR := Lib.hid hread
  clear hread h hi hS
  unfold ptr at HF ⊢
  obtain ⟨host, up, looks⟩ := s
  dsimp only at *
  go_enter Tryz.func16, Tryz.ntmps16
  go_wp2_with (go_at_call 30; refine HF.out.mono ?_; rintro e w1 ⟨rfl, hb⟩; obtain ⟨c0, c1, c2⟩ := HR.out w1 hb)
  go_ret
  exact ⟨rfl, hb⟩
end Go.Proofs.YtnmkdmehljkedaaGreatDoor
