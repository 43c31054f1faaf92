/-
  Ground: five arguments; what fits in an integer's kind; the fields of a struct among the arguments.
-/
import Derived.Test.YtmdiinakfpgdjaaDoorFxh
import Derived.Test.YtmdiinakfpgdjaaDoorFxn
import Derived.Test.YtmdiinakfpgdjaaDoorFxk
import Derived.Carry
import Derived.Deep.Slices
namespace Go.Proofs.YtmdiinakfpgdjaaDoor
open Go.RowKit Go.WideShapes Go.ChangeShapes Go.WideElems

section
variable {H : Type} {enc : TypeId × Value → H} {P : Program} {w : World} {base : Nat} {spare : Nat → Bool} {held : Bool}

end

theorem fits_u8 {n : Int} (h : (Lit.int .u8 n).wf = true) : 0 ≤ n ∧ n < 256 := by
  simp only [Lit.wf, Bool.and_eq_true, decide_eq_true_eq] at h
  have h1 : IntKind.u8.min = 0 := rfl
  have h2 : IntKind.u8.max = 255 := rfl
  omega
end Go.Proofs.YtmdiinakfpgdjaaDoor
