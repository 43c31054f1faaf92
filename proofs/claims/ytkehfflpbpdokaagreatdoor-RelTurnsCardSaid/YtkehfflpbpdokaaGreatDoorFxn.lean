/-
 Ground, thirteenth text: cells of arguments.
-/
import Derived.Test.YtkehfflpbpdokaaGreatDoorFxh
open Go.Cell renaming okWide->Rp
open Go.Value renaming okWide->N7
namespace Go.Proofs.YtkehfflpbpdokaaGreatDoor
open Go.RowKit Go.WideShapes Go.ChangeShapes Go.WideElems
section
variable {P:Program}{w:World}{r:Reach}{base:Nat}{t:TypeId}{v:Value}
theorem Bj {k:IntKind}(h:Rp P w r base t v)(ht:P.underlying t=some (.int k)):∃n,v=.int k n/\k.has n:=by
 unfold Rp Cell.ok at h
 rw[ht] at h
 cases v<;>simp at h
 obtain⟨rfl,h⟩:=h
 exact⟨_,rfl,h⟩
theorem qB {k:IntKind}(h:N7 P w r base t v)(ht:P.underlying t=some (.int k)):∃n,v=.int k n/\k.has n:=by
 unfold N7 at h
 rw[ht] at h
 exact Bj h ht
end
end Go.Proofs.YtkehfflpbpdokaaGreatDoor
