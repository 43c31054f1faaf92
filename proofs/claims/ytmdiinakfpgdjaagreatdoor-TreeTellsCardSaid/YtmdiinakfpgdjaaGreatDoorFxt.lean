/-
  Ground: five arguments; what fits in an integer's kind; the fields of a struct among the arguments.
-/
import Derived.Test.YtmdiinakfpgdjaaGreatDoorFxh
import Derived.Test.YtmdiinakfpgdjaaGreatDoorFxn
import Derived.Test.YtmdiinakfpgdjaaGreatDoorFxk
import Derived.Carry
import Derived.Deep.Slices
namespace Go.Proofs.YtmdiinakfpgdjaaGreatDoor
open Go.RowKit Go.WideShapes Go.ChangeShapes Go.WideElems
section
variable {H : Type} {enc : TypeId × Value → H} {P : Program} {w : World} {base : Nat} {spare : Nat → Bool} {held : Bool}
end
theorem fits_u64 {n : Int} (h : (Lit.int .u64 n).wf = true) : 0 ≤ n ∧ n < 18446744073709551616 := by
  simp only [Lit.wf, Bool.and_eq_true, decide_eq_true_eq] at h
  have h1 : IntKind.u64.min = 0 := rfl
  have h2 : IntKind.u64.max = 18446744073709551615 := rfl
  omega
end Go.Proofs.YtmdiinakfpgdjaaGreatDoor
