/-
 Ground: five arguments; what fits in an integer's kind; the fields of a struct among the arguments.
-/
import Derived.Test.YtmkbhnholcaghaaGreatDoorFxh
import Derived.Test.YtmkbhnholcaghaaGreatDoorFxn
import Derived.Test.YtmkbhnholcaghaaGreatDoorFxk
import Derived.Carry
import Derived.Deep.Slices
open Go.DataW renaming Trod->Sg,trod->WM
namespace Go.Proofs.YtmkbhnholcaghaaGreatDoor
open Go.RowKit Go.WideShapes Go.ChangeShapes Go.WideElems
section
variable {H:Type}{enc:TypeId×Value->H}{P:Program}{w:World}{base:Nat}{spare:Nat->Bool}{held:Bool}
theorem wa {t z k t3 t4:TypeId}{args:Array Value}{ds:List (DataW H)}{ps:List MemPlace}(h:DataW.TrodAll enc P w base spare held [t,z,k,t3,t4] args.toList ds ps):
  ∃v m b v3 v4 d n c d3 d4 p o e p3 p4,args=#[v,m,b,v3,v4]/\ds=[d,n,c,d3,d4]/\ps=p++o++e++p3++p4/\Sg enc P w base spare held t v d p/\Sg enc P w base spare held z m n o/\Sg enc P w base spare held k b c e/\Sg enc P w base spare held t3 v3 d3 p3/\Sg enc P w base spare held t4 v4 d4 p4:=by
 obtain⟨v,vs,d,C,p,q,r,rfl,rfl,hd,j⟩:=trodAll_cons h;obtain⟨m,D,n,A,o,K,rfl,rfl,rfl,s,f⟩:=trodAll_cons j;obtain⟨b,B,c,u,e,E,rfl,rfl,rfl,l,a⟩:=trodAll_cons f;obtain⟨v3,F,d3,G,p3,L,rfl,rfl,rfl,x,g⟩:=trodAll_cons a;obtain⟨v4,I,d4,J,p4,M,rfl,rfl,rfl,y,i⟩:=trodAll_cons g;obtain⟨rfl,rfl,rfl⟩:=trodAll_nil i;exact⟨v,m,b,v3,v4,d,n,c,d3,d4,p,o,e,p3,p4,by cases args;simp_all,rfl,by simp,hd,s,l,x,y⟩
end
theorem AG {H:Type}{enc:TypeId×Value->H}{P:Program}{W:World}{t:TypeId}{fs:Array Field}{fields:List (TypeId×Nat)}{fuel:Nat}{cs:List Value}{y:DataW H×List MemPlace}(c:P.underlying t=some (.struct fs))(d:fs.toList.map (λf=>(f.type,f.offset))=fields)
  (h:WM enc P W 0 (λ_=>true) true fuel t cs=some y):∃k:Nat,∀(j:Nat) (t:TypeId) (o:Nat),fields[j]?=some (t,o)->∃y,WM enc P W 0 (λ_=>true) true k t ((cs.drop o).take (P.cellsOf t))=some y:=by
 obtain⟨n,k,_,_,_,e,g⟩:=DataW.trod_struct c h;refine⟨k,λj t o m=>?_⟩;rw[<-d,List.getElem?_map] at m;obtain⟨f,i,b⟩:=Option.map_eq_some_iff.1 m;simp only[Prod.mk.injEq] at b;obtain⟨rfl,rfl⟩:=b;have a:fs[j]?=some f:=by simpa using i
 have l:j<n.length:=by rw[e];exact(Array.getElem?_eq_some_iff.1 a).1
 have:=g j f a;rw[List.getElem?_eq_getElem l] at this;exact⟨_,this⟩
end Go.Proofs.YtmkbhnholcaghaaGreatDoor
