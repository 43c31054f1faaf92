/-
 The disk: where a number stands among sorted ones; the numbers of unsynced writes; a file behind a crash.
-/
import Derived.Test.YtkehfflpbpdokaaGreatDkg
import Derived.Test.YtkehfflpbpdokaaGreatDks
namespace Go.Proofs.YtkehfflpbpdokaaGreat
open Go.MapKept
end Go.Proofs.YtkehfflpbpdokaaGreat
