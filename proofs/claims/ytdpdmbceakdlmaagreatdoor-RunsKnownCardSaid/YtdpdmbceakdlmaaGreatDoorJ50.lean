/-
 The disk: Copy.
-/
import Derived.Test.YtdpdmbceakdlmaaGreatDoorJ41
namespace Go.Proofs.YtdpdmbceakdlmaaGreatDoor
open Go.MapKept
end Go.Proofs.YtdpdmbceakdlmaaGreatDoor
