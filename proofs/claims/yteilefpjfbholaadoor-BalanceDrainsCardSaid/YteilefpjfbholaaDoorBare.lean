/-
  The walks of the reference's Bare and Fine.
-/
import Derived.Test.YteilefpjfbholaaDoorErrs
namespace Go.Proofs.YteilefpjfbholaaDoor
open Go.RowKit

end Go.Proofs.YteilefpjfbholaaDoor
