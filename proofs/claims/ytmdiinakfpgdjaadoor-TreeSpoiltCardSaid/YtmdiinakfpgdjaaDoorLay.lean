/-
  Written by wip/tools/lay.py: where the library's functions lie in this program (none is needed here).
-/
import Derived.Shelf.SlSortCmp.NoneTotal
import Derived.Shelf.SortM.Plain
import Derived.Shelf.SortM.SortNone
import Derived.Test.YtmdiinakfpgdjaaDoorProg
namespace Go.Proofs.YtmdiinakfpgdjaaDoor
end Go.Proofs.YtmdiinakfpgdjaaDoor
