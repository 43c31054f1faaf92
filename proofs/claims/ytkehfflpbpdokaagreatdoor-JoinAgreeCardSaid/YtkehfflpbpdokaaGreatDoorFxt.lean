/-
 Ground: five arguments; what fits in an integer's kind; the fields of a struct among the arguments.
-/
import Derived.Test.YtkehfflpbpdokaaGreatDoorFxh
import Derived.Test.YtkehfflpbpdokaaGreatDoorFxn
import Derived.Test.YtkehfflpbpdokaaGreatDoorFxk
import Derived.Carry
import Derived.Deep.Slices
namespace Go.Proofs.YtkehfflpbpdokaaGreatDoor
open Go.RowKit Go.WideShapes Go.ChangeShapes Go.WideElems
section
variable {H:Type}{enc:TypeId×Value->H}{P:Program}{w:World}{base:Nat}{spare:Nat->Bool}{held:Bool}
end
end Go.Proofs.YtkehfflpbpdokaaGreatDoor
