/-
  Package flows, act by act: what each answers, in one form.
-/
import Derived.Test.YtnmkdmehljkedaaGreatDoorFlowDrop
namespace Go.Proofs.YtnmkdmehljkedaaGreatDoor
open Go.RowKit

/-- An error's value; 0: none. -/
def errZ (ea : Nat → Addr) (c : Nat) : Value := if c = 0 then .nilIface else errB ea c
theorem errZ_nil (ea : Nat → Addr) : errZ ea 0 = .nilIface := rfl
theorem errZ_some (ea : Nat → Addr) {c : Nat} (h : c ≠ 0) : errZ ea c = errB ea c := by unfold errZ; rw [if_neg h]
/-- What flows hold: the last tick, the list. -/
abbrev FS := Nat × List Fl
def putS (time : Nat) (s : FS) (k : Nat) (x : ByteArray) (now : Int) : Nat × FS :=
  if isName x = true then (if tickE s.1 now = 0 then (0, now.toNat, putF s.2 ⟨k, x, now + time⟩) else (tickE s.1 now, s)) else (if tickE s.1 now = 0 then 4 else tickE s.1 now, s)
def getS (s : FS) (k : Nat) (now : Int) : Option ByteArray × Nat × FS := if tickE s.1 now = 0 then (getF s.2 k now, 0, now.toNat, s.2) else (none, tickE s.1 now, s)
def expS (s : FS) (now : Int) : Nat × Nat × FS := if tickE s.1 now = 0 then (s.2.length - (s.2.filter fun x => !decide (x.til ≤ now)).length, 0, now.toNat, s.2.filter fun x => !decide (x.til ≤ now)) else (0, tickE s.1 now, s)
def dropS (s : FS) (x : ByteArray) : Nat × FS := (s.2.length - (s.2.filter fun y => !decide (y.host = x)).length, s.1, s.2.filter fun y => !decide (y.host = x))
def gotZ (ea : Nat → Addr) (o : Option ByteArray) (c : Nat) : Value := .tuple #[.string (o.getD ⟨#[]⟩), .bool o.isSome, errZ ea c]
def gotN (o : Option ByteArray) (c : Nat) : Value := .tuple #[.string (o.getD ⟨#[]⟩), .bool o.isSome, .int .i64 (c : Int)]
theorem gotV_z (ea : Nat → Addr) (o : Option ByteArray) : gotV o = gotZ ea o 0 := by cases o <;> rfl
/-- An act's end. -/
def ActF (v : Value) (fp mb time : Nat) (s : FS) (w : World) (e : Ending) (w' : World) : Prop := e = .returned v ∧ FlowsR w' fp mb time s.1 s.2 ∧ Turn [fp, mb] w w'
theorem tickE_le (last : Nat) (now : Int) : tickE last now ≤ 9 := by
  by_cases h : tickE last now = 0
  · omega
  · rcases tickE_code h with h | h <;> omega
theorem putS_le (time : Nat) (s : FS) (k : Nat) (x : ByteArray) (now : Int) : (putS time s k x now).1 ≤ 9 := by
  have := tickE_le s.1 now
  unfold putS
  split
  · split
    · exact Nat.zero_le _
    · exact this
  · dsimp only
    split
    · omega
    · exact this
theorem getS_le (s : FS) (k : Nat) (now : Int) : (getS s k now).2.1 ≤ 9 := by
  have := tickE_le s.1 now
  unfold getS
  split
  · exact Nat.zero_le _
  · exact this
theorem expS_le (s : FS) (now : Int) : (expS s now).2.1 ≤ 9 := by
  have := tickE_le s.1 now
  unfold expS
  split
  · exact Nat.zero_le _
  · exact this
section
variable {fp mb time : Nat} {s : FS} {w : World} {ea : Nat → Addr}
theorem put_all (k : Nat) (x : ByteArray) (now : Int) (hE : ErrsF ea w) (h : FlowsR w fp mb time s.1 s.2) (hU : U64 k) (hx : x.size ≤ maxLen) :
    Calls Tryz.prog 18 #[.pointer (some ⟨fp, 0, none⟩), .int .u64 (k : Int), .string x, .int .i64 now] w (ActF (errZ ea (putS time s k x now).1) fp mb time (putS time s k x now).2 w) := by
  unfold putS
  by_cases hn : isName x = true
  · rw [if_pos hn]
    by_cases ht : tickE s.1 now = 0
    · rw [if_pos ht]
      obtain ⟨n, rfl, h1, h2⟩ := tickE_ok ht
      exact (put_ok k x n w h hU hx hn h1 h2).mono fun e w' ⟨a, b, c⟩ => ⟨a, b, c⟩
    · rw [if_neg ht]
      exact (put_tick ea k x now w hE h hx hn ht).mono fun e w' ⟨a, b⟩ => ⟨by rw [a, errZ_some ea ht], h.below b, Turn.of_below b⟩
  · rw [if_neg hn]
    refine (put_name ea k x now w hE h hx (by simpa using hn)).mono fun e w' ⟨a, b⟩ => ⟨?_, h.below b, Turn.of_below b⟩
    rw [a]
    dsimp only
    split
    · rfl
    · rw [errZ_some ea ‹_›]
theorem get_all (k : Nat) (now : Int) (hE : ErrsF ea w) (h : FlowsR w fp mb time s.1 s.2) (hU : U64 k) :
    Calls Tryz.prog 15 #[.pointer (some ⟨fp, 0, none⟩), .int .u64 (k : Int), .int .i64 now] w (ActF (gotZ ea (getS s k now).1 (getS s k now).2.1) fp mb time (getS s k now).2.2 w) := by
  unfold getS
  by_cases ht : tickE s.1 now = 0
  · rw [if_pos ht]
    obtain ⟨n, rfl, h1, h2⟩ := tickE_ok ht
    exact (get_ok k n w h hU h1 h2).mono fun e w' ⟨a, b, c⟩ => ⟨by rw [a, gotV_z ea], b, c.more (by simp)⟩
  · rw [if_neg ht]
    exact (get_bad ea k now w hE h ht).mono fun e w' ⟨a, b⟩ => ⟨by rw [a]; unfold gotZ; rw [errZ_some ea ht]; rfl, by rw [← b]; exact h, by rw [← b]; exact Turn.refl _ _⟩
theorem drop_all (x : ByteArray) (h : FlowsR w fp mb time s.1 s.2) :
    Calls Tryz.prog 20 #[.pointer (some ⟨fp, 0, none⟩), .string x] w (ActF (.int .i64 ((dropS s x).1 : Int)) fp mb time (dropS s x).2 w) :=
  (drop_any x w h).mono fun e w' ⟨a, b, c⟩ => ⟨a, b, c.more (by simp)⟩
end
end Go.Proofs.YtnmkdmehljkedaaGreatDoor
