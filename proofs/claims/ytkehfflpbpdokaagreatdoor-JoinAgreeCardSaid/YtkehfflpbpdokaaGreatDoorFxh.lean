/-
 Ground, eighth text: from a contract said of the heap to the given statement on a law; the arguments' readings.
-/
import Derived.Test.YtkehfflpbpdokaaGreatDoorFxg
import Derived.ProofKit
open Go.DataW renaming TrodAll->U4
open Go.Lit renaming int->WS
open Go.Value renaming okWide->VY
open List renaming getElem?_eq_getElem->Qg,mem_cons_self->Qp,mem_append_left->VX,mem_append_right->XV
open Nat renaming le_refl->Qm
open Option.some renaming injEq->Rv
namespace Go.Proofs.YtkehfflpbpdokaaGreatDoor
open Go.RowKit Go.WideShapes Go.ChangeShapes Go.WideElems
section
variable {H:Type}{enc:TypeId×Value->H}{P:Program}
theorem oQ {W a:World}(he:Ext W.heap a.heap)(b:Alike W a):Below W.heap.size W {a with tape:=W.tape}:=
 ⟨b.os,rfl,b.output,he.size,λk hk=>he.same k hk id⟩
theorem rF (g:laidOutB P=true){W e:World}(he:Ext W.heap e.heap)(i:Alike W e){sp:Nat->Bool}:∀{ts:List TypeId} {vs:List Value} {ds:List (DataW H)} {ps:List MemPlace},
  (∀t∈ts,P.readableRec t=true/\t<P.types.size)->U4 enc P W 0 (λ_=>true) true ts vs ds ps->(∀p∈ps,p.block<W.heap.size)->(∀p∈ps,sp p.block=true)->U4 enc P e 0 sp true ts vs ds ps
 |[],[],[],ps,_,h,_,_=>h
 |t::ts,v::vs,d::ds,ps,hr,h,b,c=>by
   obtain⟨p,q,h1,j,rfl⟩:=h;have k:=oQ he i;refine⟨p,q,Trod_stays g (hr t Qp).1 (hr t Qp).2 h1 (λx a=>?_) (λx a=>c x (VX _ a)),rF g he i (λt' f=>hr t' (List.mem_cons_of_mem _ f)) j (λx a=>b x (XV _ a)) (λx a=>c x (XV _ a)),rfl⟩;exact k.same (b x (VX _ a))
 |[],_::_,_,_,_,h,_,_=>h.elim
 |[],[],_::_,_,_,h,_,_=>h.elim
 |_::_,[],_,_,_,h,_,_=>h.elim
 |_::_,_::_,[],_,_,h,_,_=>h.elim
theorem GY {f:Func}{s:ChangeSpec}{apart fresh handsOn again:Bool}{W l:World}{args:Array Value}{ds gs:List (DataW H)}{before:List MemPlace}{D:TypeId}
  (G:laidOutB P=true) (hr:∀t∈f.params.toList,P.readableRec t=true/\t<P.types.size) (m:f.resultTypes=#[D]) (n:P.underlying D=some .bool) (o:s.vars=[])
  (u:(s.fn H (ds++gs)).results=[.lit (.bool true)]) (i:(s.fn H (ds++gs)).args=ds) (j:(s.fn H (ds++gs)).vars=[])
  (w:DataW.Whole enc P f.params.toList s.vars apart W args.toList ds gs before) (he:Ext W.heap l.heap) (E:Alike W l):
  s.post enc P f apart fresh handsOn again W args (.bool true) l:=by
 have F:=oQ he E;obtain⟨p,q,I,y,h,z,A⟩:=id w;rw[o] at y;have J:q=[]:=by
  cases gs with
  |nil=>exact y
  |cons g r=>exact y.elim
 subst J;rw[List.append_nil] at h;have k:∀x∈before,x.block<W.heap.size:=λx e=>w.lt x e;have hold:∀x∈before,(λb=>decide (b<W.heap.size)) x.block=true:=λx e=>by simpa using k x e
 have a:∀(b:Nat) (sp:Nat->Bool) (hd:Bool),U4 enc P l b sp hd f.resultTypes.toList ((Value.bool true).resultList f.resultTypes.size) (s.fn H (ds++gs)).results []:=by
  intro b sp hd;rw[u,m];exact trodAll_mk1 (shut_bool n true)
 have c:∀sp:Nat->Bool,(∀x∈before,sp x.block=true)->U4 enc P l 0 sp true f.params.toList args.toList (s.fn H (ds++gs)).args before:=by
  intro sp B;rw[i,h];exact rF G he E hr I (λx e=>k x (by rw[h];exact e)) (λx e=>B x (by rw[h];exact e))
 have d:∀sp:Nat->Bool,DataW.TrodVars enc P l sp s.vars (s.fn H (ds++gs)).vars []:=by
  intro sp;rw[j,o];rfl
 refine⟨ds,gs,before,[],before,[],w,a _ _ _,c _ hold,d _,World.keptBut_mono (λx e=>⟨e,Or.inr (by simpa using e)⟩) (F.frame (·∈before)),λ_=>?_⟩;refine⟨ok_one m rfl (okWide_bool_mk n _),_,_,([]++before)++[],⟨[]++before,[],trodAll_append (c _ (λ_ _=>rfl)) (a _ _ _),d _,rfl,?_,?_⟩,?_⟩
 ·intro b off K;have v:MemPlace.cell b off∈before:=by simpa using K
  have:=F.frozen (p:=⟨b,off,none⟩) (k _ v);exact this.trans (z b off v)
 ·intro C;simpa using A C
 ·intro x e _;simpa using e
theorem one_cell {r:Reach}{d:Nat}{W:World}{t e:TypeId}{v:Value}{a:Option Addr}{n c:Nat}(f:P.underlying t=some (.slice e))(b:VY P W r d t v)(h:v.cells.toList=[.slice a n c]):v=.slice a n c:=by
 unfold VY at b;rw[f] at b;simp only at b;cases v<;>simp_all [Value.cells,Cell.okWide,Cell.ok]
theorem collect {α:Type}{Q:Nat->α->Prop}:∀len,(∀i,i<len->∃zs,Q i zs)->∃ls:List α,ls.length=len/\∀i (hi:i<ls.length),Q i ls[i]
 |0,_=>⟨[],rfl,λi hi=>by simp at hi⟩
 |m+1,each=>by
   obtain⟨ls,h1,a⟩:=collect m (λi hi=>each i (by omega));obtain⟨zs,b⟩:=each m (by omega);refine⟨ls++[zs],by simp[h1],λi hi=>?_⟩;simp at hi;by_cases q:i<ls.length
   ·rw[List.getElem_append_left q];exact a i q
   ·have:i=m:=by omega
    subst this;simp[List.getElem_append_right (by omega:ls.length<=i),h1];exact b
theorem lM {r:Reach}{D:Nat}{W:World}{t e e2:TypeId}{k:IntKind}{v:Value}{d:DataW H}{ps:List MemPlace}(w:P.underlying t=some (.slice e))(x:P.underlying e=some (.slice e2))(he:P.underlying e2=some (.int k))(y:P.cellsOf e=1)(E:P.cellsOf e2=1)
  (g:VY P W r D t v) (h:DataW.Trod enc P W 0 (λ_=>true) true t v d ps):
  ∃(s:Sl) (ls:List (List Int)),v=Sl.v s/\s.n=ls.length/\s.n<=s.c/\∀i (hi:i<ls.length),∃ad b,s.a=some ad/\cg W.heap (ad.add i)=some (Sl.v b)/\Ints k W.heap b ls[i]/\b.n<=b.c/\∀n∈ls[i],(WS k n).wf=true:=by
 obtain⟨fuel,F⟩:=h;rcases DataW.trod_slice w F with ⟨o,_⟩|⟨a,len,cap,elems,rest,n,_,o,_,_,G,hm,hlen,z,_,_⟩
 ·exact⟨Sl.mk none 0 0,[],one_cell w g o,rfl,Qm _,λi hi=>by simp at hi⟩
 ·have each:∀i,i<len->∃(b:Sl) (zs:List Int),cg W.heap (a.add i)=some (Sl.v b)/\Ints k W.heap b zs/\b.n<=b.c/\∀m∈zs,(WS k m).wf=true:=by
   intro i hi;have h1:=z i hi;rw[y,Nat.mul_one,Qg (by omega),Option.bind_eq_some_iff] at h1;obtain⟨I,l,J⟩:=h1;rcases open_ints x he E J with ⟨f,K⟩|⟨a2,c,cap2,zs,f,_,A,L,hz,K,p,B⟩
   ·subst f;exact⟨Sl.mk none 0 0,[],cell_of_cells?_one l,⟨rfl,Reads.nil _ _⟩,Qm _,by simp⟩
   ·subst f;have hlen:c<=zs.length:=by rw[hz];simp;omega
    refine⟨Sl.mk (some a2) c cap2,zs.take c,cell_of_cells?_one l,⟨by simp;omega,?_⟩,A,λn M=>B n (List.mem_of_mem_take M)⟩;intro j v u;refine⟨a2,rfl,?_⟩;have N:j<c:=by have:=(List.getElem?_eq_some_iff.1 u).1;simp at this;omega
    have h1:=p j (by omega);rw[List.getElem?_map,List.getElem?_take,if_pos N] at u;have C:zs[j]?=some (zs.getD j 0):=by simp[List.getD,Qg (show j<zs.length by omega)]
    rw[C] at u;simp only[Option.map_some,Rv] at u;rw[<-u];exact h1
  have:=collect (Q:=λi zs=>∃b,cg W.heap (a.add i)=some (Sl.v b)/\Ints k W.heap b zs/\b.n<=b.c/\∀n∈zs,(WS k n).wf=true) len (λi hi=>by
   obtain⟨b,zs,q⟩:=each i hi;exact⟨zs,b,q⟩)
  obtain⟨ls,h1,C⟩:=this;refine⟨Sl.mk (some a) len cap,ls,one_cell w g o,h1.symm,G,λi hi=>?_⟩;obtain⟨b,q⟩:=C i hi;exact⟨a,b,rfl,q⟩
end
end Go.Proofs.YtkehfflpbpdokaaGreatDoor
