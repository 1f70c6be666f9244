/-
  Exercises: contract of heldTestS.
-/
import Derived.Test.YtjcjkdhfmdgjhaaDoorTestC
import Derived.Deep.RegionHeld3
namespace Go.Proofs.YtjcjkdhfmdgjhaaDoor
open Go.RowKit

end Go.Proofs.YtjcjkdhfmdgjhaaDoor
