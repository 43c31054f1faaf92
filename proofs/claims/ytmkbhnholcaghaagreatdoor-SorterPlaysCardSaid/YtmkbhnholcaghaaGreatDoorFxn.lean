/-
 Ground, thirteenth text: cells of arguments.
-/
import Derived.Test.YtmkbhnholcaghaaGreatDoorFxh
open Go.Cell renaming okWide->Vd
open Go.Value renaming okWide->RL
namespace Go.Proofs.YtmkbhnholcaghaaGreatDoor
open Go.RowKit Go.WideShapes Go.ChangeShapes Go.WideElems
section
variable {P:Program}{w:World}{r:Reach}{base:Nat}{t:TypeId}{v:Value}
theorem Fq {k:IntKind}(h:Vd P w r base t v)(a:P.underlying t=some (.int k)):∃n,v=.int k n/\k.has n:=by
 unfold Vd Cell.ok at h;rw[a] at h;cases v<;>simp at h;obtain⟨rfl,h⟩:=h;exact⟨_,rfl,h⟩
theorem DT {k:IntKind}(h:RL P w r base t v)(a:P.underlying t=some (.int k)):∃n,v=.int k n/\k.has n:=by
 unfold RL at h;rw[a] at h;exact Fq h a
end
end Go.Proofs.YtmkbhnholcaghaaGreatDoor
