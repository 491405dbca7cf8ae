/-
  Package health and the reference's, act by act: what each answers, in one form.
-/
import Derived.Test.YtajdokogahlgaaaDoorHealthMore
import Derived.Test.YtajdokogahlgaaaDoorRefLook2
import Derived.Test.YtajdokogahlgaaaDoorFaulted2
namespace Go.Proofs.YtajdokogahlgaaaDoor
open Go.RowKit

/-- An error's value. -/
def errV (ea : Nat → Addr) (c : Nat) : Value := if c = 0 then .nilIface else .iface 217 (.pointer (some (ea (gv c))))
theorem errV_nil (ea : Nat → Addr) : errV ea 0 = .nilIface := rfl
theorem errV_some (ea : Nat → Addr) {c : Nat} (h : c ≠ 0) : errV ea c = .iface 217 (.pointer (some (ea (gv c)))) := by unfold errV; rw [if_neg h]
def YesB (w : World) (e : Ending) (w' : World) : Prop := e = .returned (.bool true) ∧ Below w.heap.size w w'
theorem coded2_all {ea : Nat → Addr} {w : World} (c : Nat) (hE : ErrsW ea w) (hG : HandleAt w) (hc : c ≤ 9) :
    Calls Tryd.prog 24 #[errV ea c, .int .i64 (c : Int)] w (YesB w) := by
  by_cases h0 : c = 0
  · subst h0
    exact (codedlaw2_nil w).mono fun e w' ⟨h1, h2⟩ => ⟨h1, by rw [← h2]; exact Below.refl _ _⟩
  · rw [errV_some ea h0]
    exact (codedlaw2_any (f := ⟨c, none⟩) c hE hG (by dsimp only; omega) hc ⟨rfl, rfl⟩ rfl).mono fun e w' ⟨h1, h2⟩ => ⟨by rw [h1]; simp, h2⟩

abbrev tsH : List TypeId := [92, 93, 95]
abbrev tsM : List TypeId := [100, 103, 4]
def HAt (B hp fall rise : Nat) (st : List St) (w : World) : Prop := ∃ sv ps, HealthR w B hp fall rise st sv ps
def MAt (B mp fall rise : Nat) (rs : List Rt) (w : World) : Prop := ∃ sv vs, RefH w B mp fall rise rs sv vs
theorem HAt.below {B hp fall rise : Nat} {st : List St} {w w' : World} (h : HAt B hp fall rise st w) (hb : Below w.heap.size w w') : HAt B hp fall rise st w' := by obtain ⟨sv, ps, h⟩ := h; exact ⟨sv, ps, h.below hb⟩
theorem MAt.below {B mp fall rise : Nat} {rs : List Rt} {w w' : World} (h : MAt B mp fall rise rs w) (hb : Below w.heap.size w w') : MAt B mp fall rise rs w' := by obtain ⟨sv, ps, h⟩ := h; exact ⟨sv, ps, h.below hb⟩
theorem MAt.keepH {B mp fall rise : Nat} {rs : List Rt} {w w' : World} (h : MAt B mp fall rise rs w) (hk : KeepT B tsH w w') : MAt B mp fall rise rs w' := by
  obtain ⟨sv, ps, h⟩ := h; exact ⟨sv, ps, h.keep hk (by decide) (by decide) (by decide)⟩
theorem HAt.keepM {B hp fall rise : Nat} {st : List St} {w w' : World} (h : HAt B hp fall rise st w) (hk : KeepT B tsM w w') : HAt B hp fall rise st w' := by
  obtain ⟨sv, ps, h⟩ := h; exact ⟨sv, ps, h.keep hk (by decide) (by decide) (by decide)⟩

def addCode (l : List ByteArray) (x : ByteArray) : Nat := if 12 ≤ l.length then 2 else if isName x = false then 4 else if has l x = true then 6 else 0
theorem addCode_le (l : List ByteArray) (x : ByteArray) : addCode l x ≤ 9 := by unfold addCode; split <;> (try split) <;> (try split) <;> omega
def remCode (l : List ByteArray) (x : ByteArray) : Nat := if has l x = true then 0 else 5
theorem remCode_le (l : List ByteArray) (x : ByteArray) : remCode l x ≤ 9 := by unfold remCode; split <;> omega
def addSt (st : List St) (x : ByteArray) : List St := if addCode (hosts st) x = 0 then st ++ [⟨x, false, 0⟩] else st
def addRt (rs : List Rt) (x : ByteArray) : List Rt := if addCode (rhosts rs) x = 0 then rs ++ [⟨x, false, []⟩] else rs
def remAt {α : Type} (l : List α) (i : Int) : List α := if i < 0 then l else l.eraseIdx i.toNat
def ActH (ea : Nat → Addr) (B hp fall rise : Nat) (st : List St) (c : Nat) (w : World) (e : Ending) (w' : World) : Prop := e = .returned (errV ea c) ∧ HAt B hp fall rise st w' ∧ KeepT B tsH w w'
def ActM (B mp fall rise : Nat) (rs : List Rt) (c : Nat) (w : World) (e : Ending) (w' : World) : Prop := e = .returned (.int .i64 (c : Int)) ∧ MAt B mp fall rise rs w' ∧ KeepT B tsM w w'

theorem errH_act {ea : Nat → Addr} {B hp fall rise : Nat} {st : List St} {c : Nat} {w : World} {e : Ending} {w' : World} (hc : c ≠ 0) (h : HAt B hp fall rise st w) (hB : B ≤ w.heap.size) (hp' : ErrH ea c w e w') : ActH ea B hp fall rise st c w e w' :=
  ⟨by rw [errV_some ea hc]; exact hp'.1, h.below hp'.2, KeepT.of_below hp'.2 hB⟩
theorem hosts_len (st : List St) : (hosts st).length = st.length := by simp [hosts]
theorem add_all (ea : Nat → Addr) {B hp fall rise : Nat} {st : List St} (x : ByteArray) (w : World) (h : HAt B hp fall rise st w) (hE : Errs5 ea w) (hB : B ≤ w.heap.size) (hl : st.length ≤ 1000) (hx : x.size ≤ maxLen) :
    Calls Tryd.prog 25 #[ptr hp, .string x] w (ActH ea B hp fall rise (addSt st x) (addCode (hosts st) x) w) := by
  obtain ⟨sv, ps, hR⟩ := id h
  unfold addSt addCode
  rw [hosts_len]
  by_cases h12 : 12 ≤ st.length
  · simp only [if_pos h12]
    rw [if_neg (by decide)]
    exact (add_full ea x w hR hE hl h12).mono fun _ _ => errH_act (by decide) h hB
  simp only [if_neg h12]
  by_cases hn : isName x = false
  · simp only [if_pos hn]
    rw [if_neg (by decide)]
    exact (add_name ea x w hR hE (by omega) hx hn).mono fun _ _ => errH_act (by decide) h hB
  simp only [if_neg hn]
  have hn' : isName x = true := by simpa using hn
  by_cases hm : has (hosts st) x = true
  · simp only [if_pos hm]
    rw [if_neg (by decide)]
    exact (add_exist ea x w hR hE (by omega) hx hn' (has_iff.1 hm)).mono fun _ _ => errH_act (by decide) h hB
  · simp only [if_neg hm, if_true]
    exact (add_ok x w hR hB (by omega) hx hn' (fun hm' => hm (has_iff.2 hm'))).mono fun _ _ ⟨a, b, c⟩ => ⟨a, b, c⟩
theorem refAdd_all {B mp fall rise : Nat} {rs : List Rt} (x : ByteArray) (w : World) (h : MAt B mp fall rise rs w) (hB : B ≤ w.heap.size) (hl : rs.length ≤ 1000) (hx : x.size ≤ maxLen) :
    Calls Tryd.prog 26 #[ptr mp, .string x] w (ActM B mp fall rise (addRt rs x) (addCode (rhosts rs) x) w) := by
  obtain ⟨sv, vs, hR⟩ := id h
  unfold addRt addCode
  rw [rhosts_length]
  by_cases h12 : 12 ≤ rs.length
  · simp only [if_pos h12]
    rw [if_neg (by decide)]
    exact (refAdd_full x w hR hB hl h12).mono fun _ _ ⟨a, b, c⟩ => ⟨a, b, c⟩
  simp only [if_neg h12]
  by_cases hn : isName x = false
  · simp only [if_pos hn]
    rw [if_neg (by decide)]
    exact (refAdd_name x w hR hB (by omega) hx hn).mono fun _ _ ⟨a, b, c⟩ => ⟨a, b, c⟩
  simp only [if_neg hn]
  have hn' : isName x = true := by simpa using hn
  by_cases hm : has (rhosts rs) x = true
  · simp only [if_pos hm]
    rw [if_neg (by decide)]
    exact (refAdd_exist x w hR hB (by omega) hx hn' (has_iff.1 hm)).mono fun _ _ ⟨a, b, c⟩ => ⟨a, b, c⟩
  · simp only [if_neg hm, if_true]
    exact (refAdd_ok x w hR hB (by omega) hx hn' (fun hm' => hm (has_iff.2 hm'))).mono fun _ _ ⟨a, b, c⟩ => ⟨a, b, c⟩
theorem remove_all (ea : Nat → Addr) {B hp fall rise : Nat} {st : List St} (x : ByteArray) (w : World) (h : HAt B hp fall rise st w) (hE : Errs5 ea w) (hB : B ≤ w.heap.size) (hl : st.length ≤ 1000) :
    Calls Tryd.prog 27 #[ptr hp, .string x] w (ActH ea B hp fall rise (remAt st (idx (hosts st) x)) (remCode (hosts st) x) w) := by
  obtain ⟨sv, ps, hR⟩ := id h
  unfold remCode remAt
  by_cases hm : has (hosts st) x = true
  · obtain ⟨k, hk, hi, _⟩ := idx_mem (has_iff.1 hm)
    rw [if_pos hm, hi, if_neg (by omega), Int.toNat_natCast]
    exact (remove_ok x w hR hB hl hi (by rwa [hosts_len] at hk)).mono fun _ _ ⟨a, b, c⟩ => ⟨a, b, c⟩
  · have hm' : x ∉ hosts st := fun h' => hm (has_iff.2 h')
    have hi : idx (hosts st) x = -1 := idx_miss fun t ht e => hm' (by rw [e]; exact ht)
    rw [if_neg hm, hi, if_pos (by decide)]
    exact (remove_none ea x w hR hE hm').mono fun _ _ => errH_act (by decide) h hB
theorem refRemove_all {B mp fall rise : Nat} {rs : List Rt} (x : ByteArray) (w : World) (h : MAt B mp fall rise rs w) (hB : B ≤ w.heap.size) (hl : rs.length ≤ 1000) :
    Calls Tryd.prog 28 #[ptr mp, .string x] w (ActM B mp fall rise (remAt rs (idx (rhosts rs) x)) (remCode (rhosts rs) x) w) := by
  obtain ⟨sv, vs, hR⟩ := id h
  unfold remCode remAt
  by_cases hm : has (rhosts rs) x = true
  · obtain ⟨k, hk, hi, _⟩ := idx_mem (has_iff.1 hm)
    rw [if_pos hm, hi, if_neg (by omega), Int.toNat_natCast]
    exact (refRemove_ok x w hR hB hl hi (by rwa [rhosts_length] at hk)).mono fun _ _ ⟨a, b, c⟩ => ⟨a, b, c⟩
  · have hm' : x ∉ rhosts rs := fun h' => hm (has_iff.2 h')
    have hi : idx (rhosts rs) x = -1 := idx_miss fun t ht e => hm' (by rw [e]; exact ht)
    rw [if_neg hm, hi, if_pos (by decide)]
    exact (refRemove_none x w hR hB hl hm').mono fun _ _ ⟨a, b, c⟩ => ⟨a, b, c⟩

/-- A look at any host. -/
def lookAll {α : Type} (l : List α) (i : Int) (f : α → α × Bool) : List α × Bool := if i < 0 then (l, false) else match l[i.toNat]? with
  | some s => (l.set i.toNat (f s).1, (f s).2)
  | none => (l, false)
def LookH (ea : Nat → Addr) (B hp fall rise : Nat) (r : List St × Bool) (c : Nat) (w : World) (e : Ending) (w' : World) : Prop := e = .returned (.tuple #[.bool r.2, errV ea c]) ∧ HAt B hp fall rise r.1 w' ∧ KeepT B tsH w w'
def LookM (B mp fall rise : Nat) (r : List Rt × Bool) (c : Nat) (w : World) (e : Ending) (w' : World) : Prop := e = .returned (.tuple #[.bool r.2, .int .i64 (c : Int)]) ∧ MAt B mp fall rise r.1 w' ∧ KeepT B tsM w w'
theorem look_all (ea : Nat → Addr) {B hp fall rise : Nat} {st : List St} (x : ByteArray) (well : Bool) (w : World) (h : HAt B hp fall rise st w) (hE : Errs5 ea w) (hB : B ≤ w.heap.size) (hlk : ∀ s ∈ st, s.looks < 100) :
    Calls Tryd.prog 29 #[ptr hp, .string x, .bool well] w (LookH ea B hp fall rise (lookAll st (idx (hosts st) x) fun s => lookSt fall rise s well) (remCode (hosts st) x) w) := by
  obtain ⟨sv, ps, hR⟩ := id h
  unfold remCode lookAll
  by_cases hm : has (hosts st) x = true
  · obtain ⟨k, hk, hi, _⟩ := idx_mem (has_iff.1 hm)
    rw [hosts_len] at hk
    rw [if_pos hm, hi, if_neg (by omega), Int.toNat_natCast]
    obtain ⟨g, cap, p, s, hS⟩ := hR.stAt hk
    rw [hS.get]
    refine (look_found x well w hR hi hS (hlk s (List.mem_of_getElem? hS.get))).mono fun e w' ⟨a, b, c⟩ => ⟨a, ⟨sv, ps, b⟩, KeepT.of_grown c hB fun g' hg' => ?_⟩
    obtain rfl := Option.some.inj hg'
    exact ⟨hR.base.2 _ (List.mem_of_getElem? hS.pget), _, _, by simp, hS.b⟩
  · have hm' : x ∉ hosts st := fun h' => hm (has_iff.2 h')
    have hi : idx (hosts st) x = -1 := idx_miss fun t ht e => hm' (by rw [e]; exact ht)
    rw [if_neg hm, hi, if_pos (by decide)]
    exact (look_none x well w hR hi _ hE.c5).mono fun e w' ⟨a, b⟩ => ⟨a, h.below b, KeepT.of_below b hB⟩
theorem refLook_all {B mp fall rise : Nat} {rs : List Rt} (x : ByteArray) (well : Bool) (w : World) (h : MAt B mp fall rise rs w) (hB : B ≤ w.heap.size) (hl : rs.length ≤ 1000) (hlk : ∀ r ∈ rs, r.looks.length ≤ 1000) :
    Calls Tryd.prog 30 #[ptr mp, .string x, .bool well] w (LookM B mp fall rise (lookAll rs (idx (rhosts rs) x) fun r => lookR fall rise r well) (remCode (rhosts rs) x) w) := by
  obtain ⟨sv, vs, hR⟩ := id h
  unfold remCode lookAll
  by_cases hm : has (rhosts rs) x = true
  · obtain ⟨k, hk, hi, _⟩ := idx_mem (has_iff.1 hm)
    rw [rhosts_length] at hk
    rw [if_pos hm, hi, if_neg (by omega), Int.toNat_natCast, List.getElem?_eq_getElem hk]
    exact (refLook_found x well w hR hB hl hi hk (hlk _ (List.getElem_mem hk))).mono fun _ _ ⟨a, b, c⟩ => ⟨a, b, c⟩
  · have hm' : x ∉ rhosts rs := fun h' => hm (has_iff.2 h')
    have hi : idx (rhosts rs) x = -1 := idx_miss fun t ht e => hm' (by rw [e]; exact ht)
    rw [if_neg hm, hi, if_pos (by decide)]
    exact (refLook_none x well w hR hl hm').mono fun e w' ⟨a, b⟩ => ⟨a, by rw [← b]; exact h, by rw [← b]; exact KeepT.refl _ _ _⟩

def upOf (st : List St) (x : ByteArray) : Bool := match idx (hosts st) x with
  | .ofNat k => match st[k]? with
    | some r => r.up
    | none => false
  | .negSucc _ => false
theorem is_all {B hp fall rise : Nat} {st : List St} (x : ByteArray) (w : World) (h : HAt B hp fall rise st w) :
    Calls Tryd.prog 31 #[ptr hp, .string x] w fun e w' => e = .returned (.bool (upOf st x)) ∧ Below w.heap.size w w' := by
  obtain ⟨sv, ps, hR⟩ := h
  by_cases hm : x ∈ hosts st
  · obtain ⟨k, hk, hi, _⟩ := idx_mem hm
    rw [hosts_len] at hk
    obtain ⟨g, cap, p, s, hS⟩ := hR.stAt hk
    have hU : upOf st x = s.up := by unfold upOf; rw [hi]; simp [hS.get]
    rw [hU]
    exact is_found x w hR hi hS
  · have hi : idx (hosts st) x = -1 := idx_miss fun t ht e => hm (by rw [e]; exact ht)
    have hU : upOf st x = false := by unfold upOf; rw [hi]; rfl
    rw [hU]
    exact is_none x w hR hi
end Go.Proofs.YtajdokogahlgaaaDoor
