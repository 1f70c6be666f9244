/-
  Exercises: contract of heldTestS.
-/
import Derived.Test.YtcfbdjdbmjdjnaaDoorTestC
import Derived.Deep.RegionHeld3
namespace Go.Proofs.YtcfbdjdbmjdjnaaDoor
open Go.RowKit

end Go.Proofs.YtcfbdjdbmjdjnaaDoor
