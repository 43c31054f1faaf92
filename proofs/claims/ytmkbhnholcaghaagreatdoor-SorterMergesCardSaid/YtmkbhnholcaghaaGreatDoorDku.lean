/-
 The disk's statements: a step's bytes; what is written over; the short calls.
-/
import Derived.Test.YtmkbhnholcaghaaGreatDoorDkt
namespace Go.Proofs.YtmkbhnholcaghaaGreatDoor
open Go.MapKept
section
variable (n:ByteArray)(hn:named n=true)
end
end Go.Proofs.YtmkbhnholcaghaaGreatDoor
