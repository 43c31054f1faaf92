/-
 The disk: where a number stands among sorted ones; the numbers of unsynced writes; a file behind a crash.
-/
import Derived.Test.YtkehfflpbpdokaaGreatDoorDkg
import Derived.Test.YtkehfflpbpdokaaGreatDoorDks
open Go.Proofs.Tryz renaming prog->Qf
namespace Go.Proofs.YtkehfflpbpdokaaGreatDoor
open Go.MapKept
theorem N5:IG Qf dX bT EI.size 8:=tH (by kernel_rfl)
end Go.Proofs.YtkehfflpbpdokaaGreatDoor
