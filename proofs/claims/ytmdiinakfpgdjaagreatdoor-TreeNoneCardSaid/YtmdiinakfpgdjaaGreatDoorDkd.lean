/-
  The disk: Remove, Rename, Crash.
-/
import Derived.Test.YtmdiinakfpgdjaaGreatDoorDkc
namespace Go.Proofs.YtmdiinakfpgdjaaGreatDoor
open Go.MapKept

end Go.Proofs.YtmdiinakfpgdjaaGreatDoor
