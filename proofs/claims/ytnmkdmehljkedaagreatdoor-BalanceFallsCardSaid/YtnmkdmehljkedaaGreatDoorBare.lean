/-
  The walks of the reference's Bare and Fine.
-/
import Derived.Test.YtnmkdmehljkedaaGreatDoorErrs
namespace Go.Proofs.YtnmkdmehljkedaaGreatDoor
open Go.RowKit

end Go.Proofs.YtnmkdmehljkedaaGreatDoor
