/-
 Ground, thirteenth text: cells of arguments.
-/
import Derived.Test.YtdpdmbceakdlmaaGreatDoorFxh
namespace Go.Proofs.YtdpdmbceakdlmaaGreatDoor
open Go.RowKit Go.WideShapes Go.ChangeShapes Go.WideElems
section
variable {P:Program}{w:World}{r:Reach}{base:Nat}{t:TypeId}{v:Value}
end
end Go.Proofs.YtdpdmbceakdlmaaGreatDoor
