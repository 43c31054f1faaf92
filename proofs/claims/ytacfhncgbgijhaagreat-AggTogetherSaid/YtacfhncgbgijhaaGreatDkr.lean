/-
 The disk: where a number stands among sorted ones; the numbers of unsynced writes; a file behind a crash.
-/
import Derived.Test.YtacfhncgbgijhaaGreatDkg
import Derived.Test.YtacfhncgbgijhaaGreatDks
namespace Go.Proofs.YtacfhncgbgijhaaGreat
open Go.MapKept
end Go.Proofs.YtacfhncgbgijhaaGreat
