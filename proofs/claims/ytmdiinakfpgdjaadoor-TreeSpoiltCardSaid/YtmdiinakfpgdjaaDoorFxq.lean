/-
  Ground, seventeenth text: slices.SortFunc, said of the heap: the closure by its contract on heaps.
-/
import Derived.Test.YtmdiinakfpgdjaaDoorFxk
import Derived.Shelf.SlSortCmp.NoneTotal
namespace Go.Proofs.YtmdiinakfpgdjaaDoor
open Go.Shelf Go.Sort

end Go.Proofs.YtmdiinakfpgdjaaDoor
