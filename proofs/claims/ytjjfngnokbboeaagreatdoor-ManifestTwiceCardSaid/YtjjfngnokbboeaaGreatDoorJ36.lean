/-
  The document's manifests: what they are written as, and what bytes tell of one: the walk; whether two are the same.
-/
import Derived.Test.YtjjfngnokbboeaaGreatDoorJ26
import Derived.Test.YtjjfngnokbboeaaGreatDoorDrd
namespace Go.Proofs.YtjjfngnokbboeaaGreatDoor
open Go.MapKept

end Go.Proofs.YtjjfngnokbboeaaGreatDoor
