/-
 The disk: where a number stands among sorted ones; the numbers of unsynced writes; a file behind a crash.
-/
import Derived.Test.YtlockeegebnofaaGreatDoorDkg
import Derived.Test.YtlockeegebnofaaGreatDoorDks
namespace Go.Proofs.YtlockeegebnofaaGreatDoor
open Go.MapKept
theorem elInt : ElT Tryz.prog YaQ YaT EI.size 8 := ElT_of (by kernel_rfl)
end Go.Proofs.YtlockeegebnofaaGreatDoor
