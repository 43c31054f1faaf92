/-
 Ground: an argument that is a slice of slices: no slice is larger than memory.
-/
import Derived.Test.YtmkbhnholcaghaaGreatDoorFxh
import Derived.SizedLaws
namespace Go.Proofs.YtmkbhnholcaghaaGreatDoor
open Go.ChangeShapes Go.WideShapes Go.ChangeAt Go.RowKit
section
variable {H:Type}{P:Program}{enc:TypeId×Value->H}
end
end Go.Proofs.YtmkbhnholcaghaaGreatDoor
