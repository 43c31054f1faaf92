/-
 Ground, thirteenth text: cells of arguments.
-/
import Derived.Test.YtmkbhnholcaghaaGreatDoorFxh
namespace Go.Proofs.YtmkbhnholcaghaaGreatDoor
open Go.RowKit Go.WideShapes Go.ChangeShapes Go.WideElems
section
variable {P:Program}{w:World}{r:Reach}{base:Nat}{t:TypeId}{v:Value}
end
end Go.Proofs.YtmkbhnholcaghaaGreatDoor
