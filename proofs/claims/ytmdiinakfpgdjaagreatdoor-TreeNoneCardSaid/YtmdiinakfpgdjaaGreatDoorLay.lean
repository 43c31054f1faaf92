/-
  Written by wip/tools/lay.py: where the library's functions lie in this program, for the kit's contracts.
-/
import Derived.Shelf.SlSortCmp.NoneTotal
import Derived.Shelf.SortM.Plain
import Derived.Shelf.SortM.SortNone
import Derived.Test.YtmdiinakfpgdjaaGreatDoorProg
namespace Go.Proofs.YtmdiinakfpgdjaaGreatDoor
open Go.Shelf
end Go.Proofs.YtmdiinakfpgdjaaGreatDoor
