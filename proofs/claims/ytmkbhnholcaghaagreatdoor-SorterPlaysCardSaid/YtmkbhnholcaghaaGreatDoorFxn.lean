/-
 Ground, thirteenth text: cells of arguments.
-/
import Derived.Test.YtmkbhnholcaghaaGreatDoorFxh
open Go.Cell renaming okWide->Vl
open Go.Value renaming okWide->RU
namespace Go.Proofs.YtmkbhnholcaghaaGreatDoor
open Go.RowKit Go.WideShapes Go.ChangeShapes Go.WideElems
section
variable {P:Program}{w:World}{r:Reach}{base:Nat}{t:TypeId}{v:Value}
theorem Fw {k:IntKind}(h:Vl P w r base t v)(a:P.underlying t=some (.int k)):∃n,v=.int k n/\k.has n:=by
 unfold Vl Cell.ok at h;rw[a] at h;cases v<;>simp at h;obtain⟨rfl,h⟩:=h;exact⟨_,rfl,h⟩
theorem DY {k:IntKind}(h:RU P w r base t v)(a:P.underlying t=some (.int k)):∃n,v=.int k n/\k.has n:=by
 unfold RU at h;rw[a] at h;exact Fw h a
end
end Go.Proofs.YtmkbhnholcaghaaGreatDoor
