/-
  The walk of carry's Read where the text has not the shape. The walk of carry's Read where the text has the shape.
-/
import Derived.Test.YthkfhfldoniolaaGreatDoorCarLaws
import Derived.Test.YthkfhfldoniolaaGreatDoorHexNum
import Derived.Deep.QuietTactic
import Derived.BigQuiet
namespace Go.Proofs.YthkfhfldoniolaaGreatDoor
open Go.RowKit
end Go.Proofs.YthkfhfldoniolaaGreatDoor
namespace Go.Proofs.YthkfhfldoniolaaGreatDoor
open Go.RowKit
end Go.Proofs.YthkfhfldoniolaaGreatDoor
