/-
  The document's manifests: what they are written as, and what bytes tell of one: the walk; whether two are the same.
-/
import Derived.Test.YtjjfngnokbboeaaDoorJ26
import Derived.Test.YtjjfngnokbboeaaDoorDrd
namespace Go.Proofs.YtjjfngnokbboeaaDoor
open Go.MapKept

end Go.Proofs.YtjjfngnokbboeaaDoor
