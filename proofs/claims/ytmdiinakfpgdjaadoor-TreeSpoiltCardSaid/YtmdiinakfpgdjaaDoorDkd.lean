/-
  The disk: Remove, Rename, Crash.
-/
import Derived.Test.YtmdiinakfpgdjaaDoorDkc
namespace Go.Proofs.YtmdiinakfpgdjaaDoor
open Go.MapKept

end Go.Proofs.YtmdiinakfpgdjaaDoor
