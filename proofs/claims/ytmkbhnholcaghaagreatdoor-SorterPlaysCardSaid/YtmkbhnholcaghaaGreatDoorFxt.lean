/-
 Ground: five arguments; what fits in an integer's kind; the fields of a struct among the arguments.
-/
import Derived.Test.YtmkbhnholcaghaaGreatDoorFxh
import Derived.Test.YtmkbhnholcaghaaGreatDoorFxn
import Derived.Test.YtmkbhnholcaghaaGreatDoorFxk
import Derived.Carry
import Derived.Deep.Slices
open Go.DataW renaming trod->Wy
namespace Go.Proofs.YtmkbhnholcaghaaGreatDoor
open Go.RowKit Go.WideShapes Go.ChangeShapes Go.WideElems
section
variable {H:Type}{enc:TypeId×Value->H}{P:Program}{w:World}{base:Nat}{spare:Nat->Bool}{held:Bool}
end
theorem As {H:Type}{enc:TypeId×Value->H}{P:Program}{W:World}{t:TypeId}{fs:Array Field}{fields:List (TypeId×Nat)}{fuel:Nat}{cs:List Value}{y:DataW H×List MemPlace}(c:P.underlying t=some (.struct fs))(d:fs.toList.map (λf=>(f.type,f.offset))=fields)
  (h:Wy enc P W 0 (λ_=>true) true fuel t cs=some y):∃k:Nat,∀(j:Nat) (t:TypeId) (o:Nat),fields[j]?=some (t,o)->∃y,Wy enc P W 0 (λ_=>true) true k t ((cs.drop o).take (P.cellsOf t))=some y:=by
 obtain⟨n,k,_,_,_,e,g⟩:=DataW.trod_struct c h;refine⟨k,λj t o m=>?_⟩;rw[<-d,List.getElem?_map] at m;obtain⟨f,i,b⟩:=Option.map_eq_some_iff.1 m;simp only[Prod.mk.injEq] at b;obtain⟨rfl,rfl⟩:=b;have a:fs[j]?=some f:=by simpa using i
 have l:j<n.length:=by rw[e];exact(Array.getElem?_eq_some_iff.1 a).1
 have:=g j f a;rw[List.getElem?_eq_getElem l] at this;exact⟨_,this⟩
end Go.Proofs.YtmkbhnholcaghaaGreatDoor
