/-
 The disk: Copy.
-/
import Derived.Test.YtmkbhnholcaghaaGreatDoorJ40
namespace Go.Proofs.YtmkbhnholcaghaaGreatDoor
open Go.MapKept
end Go.Proofs.YtmkbhnholcaghaaGreatDoor
