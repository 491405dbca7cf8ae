/-
  Package health's Is and Look at any host, in one form.
-/
import Derived.Test.YtnmkdmehljkedaaGreatDoorUp
import Derived.Test.YtnmkdmehljkedaaGreatDoorTurn
namespace Go.Proofs.YtnmkdmehljkedaaGreatDoor
open Go.RowKit

theorem hosts_len (st : List St) : (hosts st).length = st.length := by simp [hosts]
/-- A look at any host. -/
def lookAll {α : Type} (l : List α) (i : Int) (f : α → α × Bool) : List α × Bool := if i < 0 then (l, false) else match l[i.toNat]? with
  | some s => (l.set i.toNat (f s).1, (f s).2)
  | none => (l, false)
def remCode (l : List ByteArray) (x : ByteArray) : Nat := if has l x = true then 0 else 5
theorem remCode_le (l : List ByteArray) (x : ByteArray) : remCode l x ≤ 9 := by unfold remCode; split <;> omega
def upOf (st : List St) (x : ByteArray) : Bool := match idx (hosts st) x with
  | .ofNat k => match st[k]? with
    | some s => s.up
    | none => false
  | .negSucc _ => false
section
variable {w w' : World} {B hp fall rise : Nat} {st : List St} {sv : Value} {ps bs : List Nat}
theorem HealthR.turn (h : HealthR w B hp fall rise st sv ps) (ht : Turn bs w w') (h1 : hp ∉ bs) (h2 : ∀ p ∈ ps, p ∉ bs) (h3 : ∀ g, sv.ownBlock = some g → g ∉ bs) : HealthR w' B hp fall rise st sv ps :=
  ⟨ht.blk h.blk h1, ht.own h.own h3, h.len, fun i p s a b => ht.blk (h.at_ i p s a b) (h2 p (List.mem_of_getElem? a)), h.nodup, h.base⟩
theorem is_op (x : ByteArray) (w : World) (hR : HealthR w B hp fall rise st sv ps) :
    Calls Tryz.prog 16 #[ptr hp, .string x] w fun e w' => e = .returned (.bool (upOf st x)) ∧ Below w.heap.size w w' := by
  by_cases hm : x ∈ hosts st
  · obtain ⟨k, hk, hi, _⟩ := idx_mem hm
    rw [hosts_len] at hk
    obtain ⟨g, cap, p, s, hS⟩ := hR.stAt hk
    have hU : upOf st x = s.up := by unfold upOf; rw [hi]; simp [hS.get]
    rw [hU]
    exact is_found x w hR hi hS
  · have hi : idx (hosts st) x = -1 := idx_miss fun t ht e => hm (by rw [e]; exact ht)
    have hU : upOf st x = false := by unfold upOf; rw [hi]; rfl
    rw [hU]
    exact is_none x w hR hi
def LookOp (ea : Nat → Addr) (B hp fall rise : Nat) (r : List St × Bool) (c : Nat) (sv : Value) (ps : List Nat) (w : World) (e : Ending) (w' : World) : Prop :=
  e = .returned (.tuple #[.bool r.2, if c = 0 then .nilIface else .iface 159 (.pointer (some (ea (gv c))))]) ∧ HealthR w' B hp fall rise r.1 sv ps ∧ Turn ps w w'
theorem look_op (ea : Nat → Addr) (x : ByteArray) (well : Bool) (w : World) (hR : HealthR w B hp fall rise st sv ps) (c5 : w.cell? ⟨gv 5, 0, none⟩ = some (.iface 159 (.pointer (some (ea (gv 5)))))) (hlk : ∀ s ∈ st, s.looks < 100) :
    Calls Tryz.prog 19 #[ptr hp, .string x, .bool well] w (LookOp ea B hp fall rise (lookAll st (idx (hosts st) x) fun s => lookSt fall rise s well) (remCode (hosts st) x) sv ps w) := by
  unfold remCode lookAll
  by_cases hm : has (hosts st) x = true
  · obtain ⟨k, hk, hi, _⟩ := idx_mem (has_iff.1 hm)
    rw [hosts_len] at hk
    rw [if_pos hm, hi, if_neg (by omega), Int.toNat_natCast]
    obtain ⟨g, cap, p, s, hS⟩ := hR.stAt hk
    rw [hS.get]
    refine (look_found x well w hR hi hS (hlk s (List.mem_of_getElem? hS.get))).mono fun e w' ⟨a, b, c⟩ => ⟨a, b, Turn.of_grown c fun g' hg' => ?_⟩
    obtain rfl := Option.some.inj hg'
    exact List.mem_of_getElem? hS.pget
  · have hm' : x ∉ hosts st := fun h' => hm (has_iff.2 h')
    have hi : idx (hosts st) x = -1 := idx_miss fun t ht e => hm' (by rw [e]; exact ht)
    rw [if_neg hm, hi, if_pos (by decide)]
    exact (look_none x well w hR hi _ c5).mono fun e w' ⟨a, b⟩ => ⟨a, hR.below b, Turn.of_below b⟩
end
end Go.Proofs.YtnmkdmehljkedaaGreatDoor
