/-
 The disk: Copy.
-/
import Derived.Test.YtdpdmbceakdlmaaGreatDoorJ42
namespace Go.Proofs.YtdpdmbceakdlmaaGreatDoor
open Go.MapKept
end Go.Proofs.YtdpdmbceakdlmaaGreatDoor
