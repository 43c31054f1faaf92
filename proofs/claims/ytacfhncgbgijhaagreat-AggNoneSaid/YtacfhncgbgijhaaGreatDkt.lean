/-
 The disk: Restart.
-/
import Derived.Test.YtacfhncgbgijhaaGreatDkr
namespace Go.Proofs.YtacfhncgbgijhaaGreat
open Go.MapKept
end Go.Proofs.YtacfhncgbgijhaaGreat
