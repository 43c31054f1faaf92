/-
 The disk: where a number stands among sorted ones; the numbers of unsynced writes; a file behind a crash.
-/
import Derived.Test.YtmkbhnholcaghaaGreatDoorDkg
import Derived.Test.YtmkbhnholcaghaaGreatDoorDks
namespace Go.Proofs.YtmkbhnholcaghaaGreatDoor
open Go.MapKept
end Go.Proofs.YtmkbhnholcaghaaGreatDoor
