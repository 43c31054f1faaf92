/-
 Ground: an argument that is a slice of slices: no slice is larger than memory.
-/
import Derived.Test.YtdpdmbceakdlmaaGreatDoorFxh
import Derived.SizedLaws
namespace Go.Proofs.YtdpdmbceakdlmaaGreatDoor
open Go.ChangeShapes Go.WideShapes Go.ChangeAt Go.RowKit
theorem nB {H:Type} {P:Program} {e:TypeId} {d:DataW H} {n:Nat} (hn:n∈d.weights P e):∀{l:List (DataW H)},d∈l→n∈DataW.weightsAll P e l
 |[],h=>by cases h
 |a::l,h=>by
   unfold DataW.weightsAll
   rw[List.mem_append]
   rcases List.mem_cons.1 h with rfl|h
   ·exact .inl hn
   ·exact .inr (nB hn h)
section
variable {H:Type} {P:Program} {enc:TypeId×Value→H}
end
end Go.Proofs.YtdpdmbceakdlmaaGreatDoor
