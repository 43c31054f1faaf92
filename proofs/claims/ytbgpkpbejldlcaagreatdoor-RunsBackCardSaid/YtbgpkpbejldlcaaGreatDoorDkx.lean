/-
  The library's sorting of texts, said of the heap.
-/
import Derived.Test.YtbgpkpbejldlcaaGreatDoorDks
namespace Go.Proofs.YtbgpkpbejldlcaaGreatDoor

end Go.Proofs.YtbgpkpbejldlcaaGreatDoor
