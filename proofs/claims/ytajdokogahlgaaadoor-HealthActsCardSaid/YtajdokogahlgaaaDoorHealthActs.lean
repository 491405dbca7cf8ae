/-
  The law HealthActs: its walk.
-/
import Derived.Test.YtajdokogahlgaaaDoorHealthActs0
import Derived.Deep.RegionHeld3
namespace Go.Proofs.YtajdokogahlgaaaDoor
open Go.RowKit

/-- What stands in a round. -/
structure Now (w W : World) (hp mp bx fall rise : Nat) (st : List St) (rs : List Rt) (a : ActV) : Prop where
  h : HAt w.heap.size hp fall rise st W
  m : MAt w.heap.size mp fall rise rs W
  b : Below w.heap.size w W
  x : Blk W bx 53 #[.string a.kind, .string a.host, .bool a.well]
section
variable {w W W' : World} {hp mp bx fall rise : Nat} {st : List St} {rs : List Rt} {a : ActV}
theorem Now.below (h : Now w W hp mp bx fall rise st rs a) (hb : Below W.heap.size W W') : Now w W' hp mp bx fall rise st rs a := ⟨h.h.below hb, h.m.below hb, below_two h.b hb, h.x.below hb h.x.lt⟩
theorem Now.drewN (h : Now w W hp mp bx fall rise st rs a) (m : Nat) : Now w (W.drewN m) hp mp bx fall rise st rs a := h.below (below_drewN (Below.refl _ _) m)
theorem Now.drew (h : Now w W hp mp bx fall rise st rs a) : Now w W.drew hp mp bx fall rise st rs a := h.drewN 1
theorem Now.keepH {st' : List St} (h : Now w W hp mp bx fall rise st rs a) (hh : HAt w.heap.size hp fall rise st' W') (hk : KeepT w.heap.size tsH W W') : Now w W' hp mp bx fall rise st' rs a := ⟨hh, h.m.keepH hk, h.b.trans hk.1, hk.blk h.x (by decide)⟩
theorem Now.keepM {rs' : List Rt} (h : Now w W hp mp bx fall rise st rs a) (hm : MAt w.heap.size mp fall rise rs' W') (hk : KeepT w.heap.size tsM W W') : Now w W' hp mp bx fall rise st rs' a := ⟨h.h.keepM hk, hm, h.b.trans hk.1, hk.blk h.x (by decide)⟩
theorem Now.c0 (h : Now w W hp mp bx fall rise st rs a) : W.cell? ⟨bx, 0, none⟩ = some (.string a.kind) := h.x.cell 0
theorem Now.c1 (h : Now w W hp mp bx fall rise st rs a) : W.cell? ⟨bx, 1, none⟩ = some (.string a.host) := h.x.cell 1
theorem Now.c2 (h : Now w W hp mp bx fall rise st rs a) : W.cell? ⟨bx, 2, none⟩ = some (.bool a.well) := h.x.cell 2
def Then (v : Value) (P : World → Prop) (e : Ending) (w' : World) : Prop := e = .returned v ∧ P w'

theorem now_add {ea : Nat → Addr} (hE : ErrsW ea w) (h : Now w W hp mp bx fall rise st rs a) (hl : st.length ≤ 1000) (hx : a.host.size ≤ maxLen) :
    Calls Tryd.prog 25 #[ptr hp, .string a.host] W (Then (errV ea (addCode (hosts st) a.host)) fun w' => Now w w' hp mp bx fall rise (addSt st a.host) rs a) :=
  (add_all ea a.host W h.h (hE.below h.b).errs5 h.b.size hl hx).mono fun _ _ ⟨x, y, z⟩ => ⟨x, h.keepH y z⟩
theorem now_refAdd (h : Now w W hp mp bx fall rise st rs a) (hl : rs.length ≤ 1000) (hx : a.host.size ≤ maxLen) :
    Calls Tryd.prog 26 #[ptr mp, .string a.host] W (Then (.int .i64 (addCode (rhosts rs) a.host : Int)) fun w' => Now w w' hp mp bx fall rise st (addRt rs a.host) a) :=
  (refAdd_all a.host W h.m h.b.size hl hx).mono fun _ _ ⟨x, y, z⟩ => ⟨x, h.keepM y z⟩
theorem now_remove {ea : Nat → Addr} (hE : ErrsW ea w) (h : Now w W hp mp bx fall rise st rs a) (hl : st.length ≤ 1000) :
    Calls Tryd.prog 27 #[ptr hp, .string a.host] W (Then (errV ea (remCode (hosts st) a.host)) fun w' => Now w w' hp mp bx fall rise (remAt st (idx (hosts st) a.host)) rs a) :=
  (remove_all ea a.host W h.h (hE.below h.b).errs5 h.b.size hl).mono fun _ _ ⟨x, y, z⟩ => ⟨x, h.keepH y z⟩
theorem now_refRemove (h : Now w W hp mp bx fall rise st rs a) (hl : rs.length ≤ 1000) :
    Calls Tryd.prog 28 #[ptr mp, .string a.host] W (Then (.int .i64 (remCode (rhosts rs) a.host : Int)) fun w' => Now w w' hp mp bx fall rise st (remAt rs (idx (rhosts rs) a.host)) a) :=
  (refRemove_all a.host W h.m h.b.size hl).mono fun _ _ ⟨x, y, z⟩ => ⟨x, h.keepM y z⟩
theorem now_look {ea : Nat → Addr} (hE : ErrsW ea w) (h : Now w W hp mp bx fall rise st rs a) (hlk : ∀ s ∈ st, s.looks < 100) :
    Calls Tryd.prog 29 #[ptr hp, .string a.host, .bool a.well] W (Then (.tuple #[.bool (lookAll st (idx (hosts st) a.host) fun s => lookSt fall rise s a.well).2, errV ea (remCode (hosts st) a.host)]) fun w' => Now w w' hp mp bx fall rise (lookAll st (idx (hosts st) a.host) fun s => lookSt fall rise s a.well).1 rs a) :=
  (look_all ea a.host a.well W h.h (hE.below h.b).errs5 h.b.size hlk).mono fun _ _ ⟨x, y, z⟩ => ⟨x, h.keepH y z⟩
theorem now_refLook (h : Now w W hp mp bx fall rise st rs a) (hl : rs.length ≤ 1000) (hlk : ∀ r ∈ rs, r.looks.length ≤ 1000) :
    Calls Tryd.prog 30 #[ptr mp, .string a.host, .bool a.well] W (Then (.tuple #[.bool (lookAll rs (idx (rhosts rs) a.host) fun r => lookR fall rise r a.well).2, .int .i64 (remCode (rhosts rs) a.host : Int)]) fun w' => Now w w' hp mp bx fall rise st (lookAll rs (idx (rhosts rs) a.host) fun r => lookR fall rise r a.well).1 a) :=
  (refLook_all a.host a.well W h.m h.b.size hl hlk).mono fun _ _ ⟨x, y, z⟩ => ⟨x, h.keepM y z⟩
theorem now_coded {ea : Nat → Addr} (hE : ErrsW ea w) (hG : HandleAt w) (h : Now w W hp mp bx fall rise st rs a) (c : Nat) (hc : c ≤ 9) :
    Calls Tryd.prog 24 #[errV ea c, .int .i64 (c : Int)] W (Then (.bool true) fun w' => Now w w' hp mp bx fall rise st rs a) :=
  (coded2_all c (hE.below h.b) (hG.below h.b) hc).mono fun _ _ ⟨x, y⟩ => ⟨x, h.below y⟩
theorem now_is (h : Now w W hp mp bx fall rise st rs a) :
    Calls Tryd.prog 31 #[ptr hp, .string a.host] W (Then (.bool (upOf st a.host)) fun w' => Now w w' hp mp bx fall rise st rs a) :=
  (is_all a.host W h.h).mono fun _ _ ⟨x, y⟩ => ⟨x, h.below y⟩
theorem now_refIs (h : Now w W hp mp bx fall rise st rs a) (hl : rs.length ≤ 1000) :
    Calls Tryd.prog 32 #[ptr mp, .string a.host] W (Then (.bool (rUp rs a.host)) fun w' => Now w w' hp mp bx fall rise st rs a) := by
  obtain ⟨sv, vs, hR⟩ := id h.m
  exact (refIsUp a.host W hR hl).mono fun _ _ ⟨x, y⟩ => ⟨x, by rw [← y]; exact h⟩
/-- A list of texts lies at v. -/
def TextsAt (l : List ByteArray) (v : Value) (w' : World) : Prop := ∃ A cap, v = .slice A l.length cap ∧ Reads w' w'.heap.size 1 A l.length (strV l)
theorem now_up (h : Now w W hp mp bx fall rise st rs a) (hl : st.length ≤ 100) :
    Calls Tryd.prog 34 #[ptr hp] W fun e w' => ∃ A cap, e = .returned (.slice A (ups st).length cap) ∧ Reads w' w'.heap.size 1 A (ups st).length (strV (ups st)) ∧ Now w w' hp mp bx fall rise st rs a := by
  obtain ⟨sv, ps, hR⟩ := id h.h
  exact (up_any W hR hl).mono fun _ _ ⟨A, cap, x, y, z⟩ => ⟨A, cap, x, Reads.of_own y, h.below z⟩
theorem now_ups (h : Now w W hp mp bx fall rise st rs a) (hl : rs.length ≤ 100) :
    Calls Tryd.prog 35 #[ptr mp] W fun e w' => ∃ A cap, e = .returned (.slice A (rups rs).length cap) ∧ Reads w' w'.heap.size 1 A (rups rs).length (strV (rups rs)) ∧ Below W.heap.size W w' ∧ Now w w' hp mp bx fall rise st rs a := by
  obtain ⟨sv, vs, hR⟩ := id h.m
  exact (refUps W hR hl).mono fun _ _ ⟨A, cap, x, y, z⟩ => ⟨A, cap, x, Reads.of_own y, z, h.below z⟩
end
theorem HealthR.mono {w : World} {B B' hp fall rise : Nat} {st : List St} {sv : Value} {ps : List Nat} (h : HealthR w B hp fall rise st sv ps) (hB : B' ≤ B) : HealthR w B' hp fall rise st sv ps := by
  refine ⟨h.blk, ⟨h.own.1, ?_⟩, h.len, h.at_, h.nodup, Nat.le_trans hB h.base.1, fun p hp => Nat.le_trans hB (h.base.2 p hp)⟩
  rcases h.own.2 with e | ⟨g, cap, cur, e, hb, r⟩
  · exact .inl e
  · exact .inr ⟨g, cap, cur, e, Nat.le_trans hB hb, r⟩
theorem own_mono {w : World} {B B' n size : Nat} {e : TypeId} {v : Value} {xs : List Value} (h : w.ownsRow B e size v n xs) (hB : B' ≤ B) : w.ownsRow B' e size v n xs := by
  refine ⟨h.1, ?_⟩
  rcases h.2 with e | ⟨g, cap, cur, e, hb, r⟩
  · exact .inl e
  · exact .inr ⟨g, cap, cur, e, Nat.le_trans hB hb, r⟩
theorem RefH.mono {w : World} {B B' mp fall rise : Nat} {rs : List Rt} {sv : Value} {vs : List Value} (h : RefH w B mp fall rise rs sv vs) (hB : B' ≤ B) : RefH w B' mp fall rise rs sv vs :=
  ⟨h.blk, own_mono h.own hB, h.len, fun i v r a b => own_mono (h.at_ i v r a b) hB, h.apart, Nat.le_trans hB h.base⟩

/-- The act's cells in the input. -/
structure ActAt (W : World) (ad : Addr) (k : Nat) (a : ActV) : Prop where
  c0 : W.cell? (ad.add (k * 3)) = some (.string a.kind)
  c1 : W.cell? ⟨(ad.add (k * 3)).block, (ad.add (k * 3)).off + 1, none⟩ = some (.string a.host)
  c2 : W.cell? ⟨(ad.add (k * 3)).block, (ad.add (k * 3)).off + 2, none⟩ = some (.bool a.well)
theorem actAt_of {w W : World} {A : Option Addr} {acts : List ActV} {k : Nat} (h : Reads w w.heap.size 3 A acts.length (actsV acts)) (hb : Below w.heap.size w W) (hk : k < acts.length) : ∃ ad, A = some ad ∧ ActAt W ad k acts[k] := by
  obtain ⟨ad, rfl, hbl, hc⟩ := h.2 (by omega)
  obtain ⟨x, y, z⟩ := actsV_at acts k acts[k] (List.getElem?_eq_getElem hk)
  have e : ∀ i, 0 < i → ad.add (k * 3 + i) = ⟨(ad.add (k * 3)).block, (ad.add (k * 3)).off + i, none⟩ := fun i hi => by
    rw [← add_of_add]
    conv => lhs; unfold Addr.add
    rw [if_neg (by omega)]
    rfl
  refine ⟨ad, rfl, ?_, ?_, ?_⟩
  · rw [hb.cell (by rw [block_of_add]; exact hbl)]; exact hc _ _ x
  · rw [← e 1 (by omega), hb.cell (by rw [block_of_add]; exact hbl)]; exact hc _ _ y
  · rw [← e 2 (by omega), hb.cell (by rw [block_of_add]; exact hbl)]; exact hc _ _ z
end Go.Proofs.YtajdokogahlgaaaDoor
