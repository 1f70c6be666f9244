/-
  Exercises: all contracts of the statements' own helpers together.
-/
import Derived.Test.YtcfbdjdbmjdjnaaTestD
import Derived.Test.YtcfbdjdbmjdjnaaTestE
import Derived.Deep.RegionHeld3
namespace Go.Proofs.Ytcfbdjdbmjdjnaa
end Go.Proofs.Ytcfbdjdbmjdjnaa
