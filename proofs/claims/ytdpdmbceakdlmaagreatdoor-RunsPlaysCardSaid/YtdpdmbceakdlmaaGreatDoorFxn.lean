/-
 Ground, thirteenth text: cells of arguments.
-/
import Derived.Test.YtdpdmbceakdlmaaGreatDoorFxh
namespace Go.Proofs.YtdpdmbceakdlmaaGreatDoor
open Go.RowKit Go.WideShapes Go.ChangeShapes Go.WideElems
theorem wX {n:Int} (h:IntKind.i64.has n):-9223372036854775808≤n∧n≤9223372036854775807:=by
 have h1:IntKind.i64.min≤n∧n≤IntKind.i64.max:=h
 have h2:IntKind.i64.min=-9223372036854775808:=rfl
 have h3:IntKind.i64.max=9223372036854775807:=rfl
 omega
section
variable {P:Program} {w:World} {r:Reach} {base:Nat} {t:TypeId} {v:Value}
theorem zr {k:IntKind} (h:Cell.okWide P w r base t v) (ht:P.underlying t=some (.int k)):∃n,v=.int k n∧k.has n:=by
 unfold Cell.okWide Cell.ok at h
 rw[ht] at h
 cases v<;>simp at h
 obtain⟨rfl,h⟩:=h
 exact⟨_,rfl,h⟩
theorem jP {k:IntKind} (h:Value.okWide P w r base t v) (ht:P.underlying t=some (.int k)):∃n,v=.int k n∧k.has n:=by
 unfold Value.okWide at h
 rw[ht] at h
 exact zr h ht
end
end Go.Proofs.YtdpdmbceakdlmaaGreatDoor
