/-
  Ground, seventeenth text: slices.SortFunc, said of the heap: the closure by its contract on heaps.
-/
import Derived.Test.YtjpkcdhjleemlaaGreatDoorFxk
import Derived.Shelf.SlSortCmp.NoneTotal
namespace Go.Proofs.YtjpkcdhjleemlaaGreatDoor
open Go.Shelf Go.Sort
end Go.Proofs.YtjpkcdhjleemlaaGreatDoor
