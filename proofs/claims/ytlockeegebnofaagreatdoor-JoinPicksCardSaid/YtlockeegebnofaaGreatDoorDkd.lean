/-
 The disk: Remove, Rename, Crash.
-/
import Derived.Test.YtlockeegebnofaaGreatDoorDkc
namespace Go.Proofs.YtlockeegebnofaaGreatDoor
open Go.MapKept
end Go.Proofs.YtlockeegebnofaaGreatDoor
