/-
  The walks of package flows: remove, Expire, Drop.
-/
import Derived.Test.YteilefpjfbholaaDoorFlowGet
namespace Go.Proofs.YteilefpjfbholaaDoor
open Go.RowKit Go.Maps

/-- A closure of remove: what it says of each flow, wherever what lay at w stands but for the map mb. -/
def Says (w : World) (mb g : Nat) (cb : Array Value) (p : Fl → Bool) : Prop := ∀ W x, w.grownBy W (some mb) → Calls Tryd.prog g (#[flV x] ++ cb) W fun e w' => e = .returned (.bool (p x)) ∧ Below W.heap.size W w'
def RemPost (fp mb time last : Nat) (L : List Fl) (p : Fl → Bool) (w : World) (e : Ending) (w' : World) : Prop := e = .returned (.int .i64 ((L.length - (L.filter fun x => !p x).length : Nat) : Int)) ∧ FlowsR w' fp mb time last (L.filter fun x => !p x) ∧ Turn [mb] w w'
def DropPost (fp mb time last : Nat) (L : List Fl) (s : ByteArray) (w : World) (e : Ending) (w' : World) : Prop := e = .returned (.int .i64 ((L.length - (L.filter fun x => !decide (x.host = s)).length : Nat) : Int)) ∧ FlowsR w' fp mb time last (L.filter fun x => !decide (x.host = s)) ∧ Turn [mb] w w'
def ExpErr (ea : Nat → Addr) (c : Nat) (w : World) (e : Ending) (w' : World) : Prop := e = .returned (.tuple #[.int .i64 0, errB ea c]) ∧ Below w.heap.size w w'
def ExpPost (fp mb time now : Nat) (L : List Fl) (w : World) (e : Ending) (w' : World) : Prop := e = .returned (.tuple #[.int .i64 ((L.length - (L.filter fun x => !decide (x.til ≤ (now : Int))).length : Nat) : Int), .nilIface]) ∧ FlowsR w' fp mb time now (L.filter fun x => !decide (x.til ≤ (now : Int))) ∧ Turn [fp, mb] w w'
end Go.Proofs.YteilefpjfbholaaDoor
