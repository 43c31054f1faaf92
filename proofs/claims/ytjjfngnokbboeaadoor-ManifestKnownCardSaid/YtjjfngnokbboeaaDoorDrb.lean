/-
  The document's disk: what it tells of itself; a change; files looked up and made.
-/
import Derived.Test.YtjjfngnokbboeaaDoorDra
namespace Go.Proofs.YtjjfngnokbboeaaDoor
open Go.MapKept

def idxI (s : Dk) (n : ByteArray) : Int := match s.idx n with | some i => (i : Int) | none => -1

end Go.Proofs.YtjjfngnokbboeaaDoor
