/-
 Ground: slices.Insert, at any type of elements of one cell, in memory of one's own.
-/
import Derived.Test.YtmkbhnholcaghaaGreatDoorFxs
import Derived.Lib.Overlaps
namespace Go.Proofs.YtmkbhnholcaghaaGreatDoor
end Go.Proofs.YtmkbhnholcaghaaGreatDoor
