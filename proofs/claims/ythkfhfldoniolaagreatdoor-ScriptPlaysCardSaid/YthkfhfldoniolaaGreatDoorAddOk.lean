/-
  Flows that are added, in plain words. The walk of the reference's Add. The walk of the reference's Add where every host has a name. The walk of Add's closure: has a flow's host no name? The walk of slices.IndexFunc at flows with Add's closure. The walk of the program's Add at a tick that is none. The walk of the program's Add where a host has no name. The walk of the program's Add where every host has a name.
-/
import Derived.Test.YthkfhfldoniolaaGreatDoorFlows
import Derived.Test.YthkfhfldoniolaaGreatDoorFlowPlain
import Derived.Test.YthkfhfldoniolaaGreatDoorRefFlows
import Derived.Test.YthkfhfldoniolaaGreatDoorRefFault
import Derived.Deep.RegionHeld3
namespace Go.Proofs.YthkfhfldoniolaaGreatDoor
open Go.RowKit
section
variable {now:Int} {L xs:List Fl} {x:Fl}
end
end Go.Proofs.YthkfhfldoniolaaGreatDoor
namespace Go.Proofs.YthkfhfldoniolaaGreatDoor
open Go.RowKit
end Go.Proofs.YthkfhfldoniolaaGreatDoor
namespace Go.Proofs.YthkfhfldoniolaaGreatDoor
open Go.RowKit
end Go.Proofs.YthkfhfldoniolaaGreatDoor
namespace Go.Proofs.YthkfhfldoniolaaGreatDoor
open Go.RowKit
end Go.Proofs.YthkfhfldoniolaaGreatDoor
namespace Go.Proofs.YthkfhfldoniolaaGreatDoor
open Go.RowKit
end Go.Proofs.YthkfhfldoniolaaGreatDoor
namespace Go.Proofs.YthkfhfldoniolaaGreatDoor
open Go.RowKit
end Go.Proofs.YthkfhfldoniolaaGreatDoor
namespace Go.Proofs.YthkfhfldoniolaaGreatDoor
open Go.RowKit
end Go.Proofs.YthkfhfldoniolaaGreatDoor
namespace Go.Proofs.YthkfhfldoniolaaGreatDoor
open Go.RowKit
theorem zam.readsNe {bs:List Nat} {w w':World} (h:zam bs w w') {B n size:Nat} {A:Option Addr} {xs:List Value} (hr:Reads w B size A n xs) (hA:0<n→∀ad,A=some ad→ad.block∉bs):Reads w' B size A n xs:=by
 refine ⟨hr.1,fun hn=> ?_⟩
 obtain ⟨ad,rfl,hb,hc⟩:=hr.2 hn
 refine ⟨ad,rfl,hb,fun j u hu=>h.cell (hc j u hu) ?_⟩
 rw [zaN]
 exact hA hn ad rfl
end Go.Proofs.YthkfhfldoniolaaGreatDoor
