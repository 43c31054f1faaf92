/-
 Ground: an argument that is a slice of slices: no slice is larger than memory.
-/
import Derived.Test.YtmkbhnholcaghaaGreatDoorFxh
import Derived.SizedLaws
open Go.DataW renaming weights->UZ,weightsAll->Vw
open Go.Lit renaming int->UT
open List renaming getElem?_eq_getElem->N8,mem_append->Oe
open Nat renaming le_refl->Ob
open Option.some renaming injEq->O4
namespace Go.Proofs.YtmkbhnholcaghaaGreatDoor
open Go.ChangeShapes Go.WideShapes Go.ChangeAt Go.RowKit
theorem qA {H:Type}{P:Program}{e:TypeId}{d:DataW H}{n:Nat}(b:n∈d.weights P e):∀{l:List (DataW H)},d∈l->n∈Vw P e l
 |[],h=>by cases h
 |a::l,h=>by
   unfold Vw;rw[Oe];rcases List.mem_cons.1 h with rfl|h
   ·exact .inl b
   ·exact .inr (qA b h)
section
variable {H:Type}{P:Program}{enc:TypeId×Value->H}
theorem po {r:Reach}{L:Nat}{W:World}{t e e2:TypeId}{k:IntKind}{v:Value}{d:DataW H}{ps:List MemPlace}(A:P.underlying t=some (.slice e))(w:P.underlying e=some (.slice e2))(he:P.underlying e2=some (.int k))(B:P.cellsOf e=1)(M:P.cellsOf e2=1)
  (g:Value.okWide P W r L t v) (h:DataW.Trod enc P W 0 (λ_=>true) true t v d ps) (C:∀n∈d.weights P t,n<=reachBytes):
  ∃(s:Sl) (ls:List (List Int)),v=Sl.v s/\s.n=ls.length/\s.n<=s.c/\∀i (hi:i<ls.length),∃ad c,s.a=some ad/\cK W.heap (ad.add i)=some (Sl.v c)/\Ints k W.heap c ls[i]/\c.n<=c.c/\(∀n∈ls[i],(UT k n).wf=true)/\ls[i].length*P.bytesOf e2<=reachBytes:=by
 obtain⟨fuel,N⟩:=h;rcases DataW.trod_slice A N with ⟨p,_⟩|⟨a,len,cap,elems,rest,n,_,p,D,_,hl,hm,hlen,E,_,_⟩
 ·exact⟨Sl.mk none 0 0,[],one_cell A g p,rfl,Ob _,λi hi=>by simp at hi⟩
 ·have hd:d=.slice (elems.map (·.1)) (rest.map (·.1)):=congrArg Prod.fst D;have each:∀i,i<len->∃zs:List Int,∃(c:Sl),cK W.heap (a.add i)=some (Sl.v c)/\Ints k W.heap c zs/\c.n<=c.c/\(∀m∈zs,(UT k m).wf=true)/\zs.length*P.bytesOf e2<=reachBytes:=by
   intro i hi;have h1:=E i hi;rw[B,Nat.mul_one,N8 (by omega),Option.bind_eq_some_iff] at h1;obtain⟨O,l,R⟩:=h1;rcases open_ints w he M R with ⟨f,K⟩|⟨a2,b,x,zs,f,_,F,S,T,K,u,G⟩
   ·subst f;exact⟨[],Sl.mk none 0 0,cell_of_cells?_one l,⟨rfl,Reads.nil _ _⟩,Ob _,by simp,by simp⟩
   ·subst f;have I:b<=zs.length:=by rw[T];simp;omega
    refine⟨zs.take b,Sl.mk (some a2) b x,cell_of_cells?_one l,⟨by simp;omega,?_⟩,F,λn U=>G n (List.mem_of_mem_take U),?_⟩
    ·intro j v y;refine⟨a2,rfl,?_⟩;have V:j<b:=by have:=(List.getElem?_eq_some_iff.1 y).1;simp at this;omega
     have h1:=u j (by omega);rw[List.getElem?_map,List.getElem?_take,if_pos V] at y;have J:zs[j]?=some (zs.getD j 0):=by simp[List.getD,N8 (show j<zs.length by omega)]
     rw[J] at y;simp only[Option.map_some,O4] at y;rw[<-y];exact h1
    ·have o:elems[i].1∈elems.map (·.1):=List.mem_map_of_mem (List.getElem_mem _);rw[K] at o;have hw:((lits (H:=H) k (zs.take b)).length+(lits (H:=H) k (zs.drop b)).length)*P.bytesOf e2∈UZ P e (DataW.slice (lits (H:=H) k (zs.take b)) (lits k (zs.drop b))):=by
      simp[UZ,w]
     have z:=C _ (by
      rw[hd];unfold UZ;rw[A];simp only;exact List.mem_cons_of_mem _ (Oe.2 (.inl (qA hw o))))
     refine Nat.le_trans (Nat.mul_le_mul_right _ ?_) z;simp[lits]
  have:=collect (Q:=λi zs=>∃c,cK W.heap (a.add i)=some (Sl.v c)/\Ints k W.heap c zs/\c.n<=c.c/\(∀n∈zs,(UT k n).wf=true)/\zs.length*P.bytesOf e2<=reachBytes) len each;obtain⟨ls,h1,J⟩:=this;refine⟨Sl.mk (some a) len cap,ls,one_cell A g p,h1.symm,hl,λi hi=>?_⟩;obtain⟨c,q⟩:=J i hi;exact⟨a,c,rfl,q⟩
end
end Go.Proofs.YtmkbhnholcaghaaGreatDoor
