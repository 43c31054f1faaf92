/-
 Ground, seventeenth text: slices.SortFunc, said of the heap: the closure by its contract on heaps.
-/
import Derived.Test.YtlockeegebnofaaGreatDoorFxk
import Derived.Shelf.SlSortCmp.NoneTotal
namespace Go.Proofs.YtlockeegebnofaaGreatDoor
open Go.Shelf Go.Sort
end Go.Proofs.YtlockeegebnofaaGreatDoor
