/-
 The disk: where a number stands among sorted ones; the numbers of unsynced writes; a file behind a crash.
-/
import Derived.Test.YtkehfflpbpdokaaGreatDoorDkg
import Derived.Test.YtkehfflpbpdokaaGreatDoorDks
open Go.Proofs.Tryz renaming prog->Kf
namespace Go.Proofs.YtkehfflpbpdokaaGreatDoor
open Go.MapKept
theorem HD:Dq Kf gy dA EI.size 8:=qg (by kernel_rfl)
end Go.Proofs.YtkehfflpbpdokaaGreatDoor
