/-
 Ground: five arguments; what fits in an integer's kind; the fields of a struct among the arguments.
-/
import Derived.Test.YtmkbhnholcaghaaGreatDoorFxh
import Derived.Test.YtmkbhnholcaghaaGreatDoorFxn
import Derived.Test.YtmkbhnholcaghaaGreatDoorFxk
import Derived.Carry
import Derived.Deep.Slices
namespace Go.Proofs.YtmkbhnholcaghaaGreatDoor
open Go.RowKit Go.WideShapes Go.ChangeShapes Go.WideElems
section
variable {H : Type} {enc : TypeId × Value → H} {P : Program} {w : World} {base : Nat} {spare : Nat → Bool} {held : Bool}
end
end Go.Proofs.YtmkbhnholcaghaaGreatDoor
