/-
 Ground, eighth text: from a contract said of the heap to the given statement on a law; the arguments' readings.
-/
import Derived.Test.YtmkbhnholcaghaaGreatDoorFxg
import Derived.ProofKit
open Go.DataW renaming Trod->Sg,TrodAll->SL
open Go.Lit renaming int->Uz
open Go.MemPlace renaming cell->Zw
open Go.Value renaming okWide->To
open List renaming getElem?_eq_some_iff->Om,getElem?_eq_getElem->On,getElem?_map->Oy,mem_cons_self->OO,getElem?_take->Pd,mem_of_mem_take->Pu,getD->PB,mem_append_left->TT,mem_append_right->VA
open Nat renaming le_refl->Ot
open Option renaming map_some->Q2
open Option.some renaming injEq->Pj
namespace Go.Proofs.YtmkbhnholcaghaaGreatDoor
open Go.RowKit Go.WideShapes Go.ChangeShapes Go.WideElems
section
variable {H:Type}{enc:TypeId×Value->H}{P:Program}
theorem pk {W a:World}(he:Ext W.heap a.heap)(b:Alike W a):Below W.heap.size W {a with tape:=W.tape}:=
 ⟨b.os,rfl,b.output,he.size,λk hk=>he.same k hk id⟩
theorem qA (hl:laidOutB P=true){W f:World}(he:Ext W.heap f.heap)(j:Alike W f){sp:Nat->Bool}:∀{e:List TypeId} {vs:List Value} {ds:List (DataW H)} {ps:List MemPlace},
  (∀t∈e,P.readableRec t=true/\t<P.types.size)->SL enc P W 0 (λ_=>true) true e vs ds ps->(∀p∈ps,p.block<W.heap.size)->(∀p∈ps,sp p.block=true)->SL enc P f 0 sp true e vs ds ps
 |[],[],[],ps,_,h,_,_=>h
 |t::e,v::vs,d::ds,ps,g,h,b,c=>by
   obtain⟨p,q,h1,k,rfl⟩:=h;have l:=pk he j;refine⟨p,q,Trod_stays hl (g t OO).1 (g t OO).2 h1 (λx a=>?_) (λx a=>c x (TT _ a)),qA hl he j (λm i=>g m (List.mem_cons_of_mem _ i)) k (λx a=>b x (VA _ a)) (λx a=>c x (VA _ a)),rfl⟩;exact l.same (b x (TT _ a))
 |[],_::_,_,_,_,h,_,_=>h.elim
 |[],[],_::_,_,_,h,_,_=>h.elim
 |_::_,[],_,_,_,h,_,_=>h.elim
 |_::_,_::_,[],_,_,h,_,_=>h.elim
theorem FM {f:Func}{s:ChangeSpec}{apart fresh handsOn again:Bool}{W l:World}{args:Array Value}{ds gs:List (DataW H)}{before:List MemPlace}{D:TypeId}
  (hl:laidOutB P=true) (G:∀t∈f.params.toList,P.readableRec t=true/\t<P.types.size) (m:f.resultTypes=#[D]) (n:P.underlying D=some .bool) (o:s.vars=[])
  (u:(s.fn H (ds++gs)).results=[.lit (.bool true)]) (i:(s.fn H (ds++gs)).args=ds) (j:(s.fn H (ds++gs)).vars=[])
  (w:DataW.Whole enc P f.params.toList s.vars apart W args.toList ds gs before) (he:Ext W.heap l.heap) (E:Alike W l):
  s.post enc P f apart fresh handsOn again W args (.bool true) l:=by
 have F:=pk he E;obtain⟨p,q,I,y,h,z,A⟩:=id w;rw[o] at y;have J:q=[]:=by
  cases gs with
  |nil=>exact y
  |cons g r=>exact y.elim
 subst J;rw[List.append_nil] at h;have k:∀x∈before,x.block<W.heap.size:=λx e=>w.lt x e;have hold:∀x∈before,(λb=>decide (b<W.heap.size)) x.block=true:=λx e=>by simpa using k x e
 have a:∀(b:Nat) (sp:Nat->Bool) (hd:Bool),SL enc P l b sp hd f.resultTypes.toList ((Value.bool true).resultList f.resultTypes.size) (s.fn H (ds++gs)).results []:=by
  intro b sp hd;rw[u,m];exact trodAll_mk1 (shut_bool n true)
 have c:∀sp:Nat->Bool,(∀x∈before,sp x.block=true)->SL enc P l 0 sp true f.params.toList args.toList (s.fn H (ds++gs)).args before:=by
  intro sp B;rw[i,h];exact qA hl he E G I (λx e=>k x (by rw[h];exact e)) (λx e=>B x (by rw[h];exact e))
 have d:∀sp:Nat->Bool,DataW.TrodVars enc P l sp s.vars (s.fn H (ds++gs)).vars []:=by
  intro sp;rw[j,o];rfl
 refine⟨ds,gs,before,[],before,[],w,a _ _ _,c _ hold,d _,World.keptBut_mono (λx e=>⟨e,Or.inr (by simpa using e)⟩) (F.frame (·∈before)),λ_=>?_⟩;refine⟨ok_one m rfl (okWide_bool_mk n _),_,_,([]++before)++[],⟨[]++before,[],trodAll_append (c _ (λ_ _=>rfl)) (a _ _ _),d _,rfl,?_,?_⟩,?_⟩
 ·intro b off K;have v:Zw b off∈before:=by simpa using K
  have:=F.frozen (p:=⟨b,off,none⟩) (k _ v);exact this.trans (z b off v)
 ·intro C;simpa using A C
 ·intro x e _;simpa using e
theorem one_cell {r:Reach}{d:Nat}{W:World}{t e:TypeId}{v:Value}{a:Option Addr}{n c:Nat}(f:P.underlying t=some (.slice e))(b:To P W r d t v)(h:v.cells.toList=[.slice a n c]):v=.slice a n c:=by
 unfold To at b;rw[f] at b;simp only at b;cases v<;>simp_all [Value.cells,Cell.okWide,Cell.ok]
theorem wJ {r:Reach}{m:Nat}{W:World}{t e:TypeId}{k:IntKind}{v:Value}{d:DataW H}{ps:List MemPlace}(j:P.underlying t=some (.slice e))(he:P.underlying e=some (.int k))(o:P.cellsOf e=1)
  (b:To P W r m t v) (h:Sg enc P W 0 (λ_=>true) true t v d ps):
  ∃(s:Sl) (zs:List Int),v=Sl.v s/\Ints k W.heap s zs/\s.n<=s.c/\∀n∈zs,(Uz k n).wf=true:=by
 obtain⟨fuel,p⟩:=h;rcases open_ints j he o p with ⟨c,q⟩|⟨a,len,cap,zs,c,_,hl,hm,u,q,f,l⟩
 ·exact⟨Sl.mk none 0 0,[],one_cell j b c,⟨rfl,Reads.nil _ _⟩,Ot _,by simp⟩
 ·have hlen:len<=zs.length:=by rw[u];simp;omega
  refine⟨Sl.mk (some a) len cap,zs.take len,one_cell j b c,⟨by simp;omega,?_⟩,hl,λn w=>l n (Pu w)⟩;intro i v g;refine⟨a,rfl,?_⟩;have hi:i<len:=by have:=(Om.1 g).1;simp at this;omega
  have h1:=f i (by omega);rw[Oy,Pd,if_pos hi] at g;have x:zs[i]?=some (zs.getD i 0):=by simp[PB,On (show i<zs.length by omega)]
  rw[x] at g;simp only[Q2,Pj] at g;rw[<-g];exact h1
theorem collect {α:Type}{Q:Nat->α->Prop}:∀len,(∀i,i<len->∃zs,Q i zs)->∃ls:List α,ls.length=len/\∀i (hi:i<ls.length),Q i ls[i]
 |0,_=>⟨[],rfl,λi hi=>by simp at hi⟩
 |m+1,each=>by
   obtain⟨ls,h1,a⟩:=collect m (λi hi=>each i (by omega));obtain⟨zs,b⟩:=each m (by omega);refine⟨ls++[zs],by simp[h1],λi hi=>?_⟩;simp at hi;by_cases q:i<ls.length
   ·rw[List.getElem_append_left q];exact a i q
   ·have:i=m:=by omega
    subst this;simp[List.getElem_append_right (by omega:ls.length<=i),h1];exact b
theorem gW {r:Reach}{E:Nat}{W:World}{t e e2:TypeId}{k:IntKind}{v:Value}{d:DataW H}{ps:List MemPlace}(x:P.underlying t=some (.slice e))(y:P.underlying e=some (.slice e2))(he:P.underlying e2=some (.int k))(z:P.cellsOf e=1)(F:P.cellsOf e2=1)
  (g:To P W r E t v) (h:Sg enc P W 0 (λ_=>true) true t v d ps):
  ∃(s:Sl) (ls:List (List Int)),v=Sl.v s/\s.n=ls.length/\s.n<=s.c/\∀i (hi:i<ls.length),∃ad b,s.a=some ad/\cI W.heap (ad.add i)=some (Sl.v b)/\Ints k W.heap b ls[i]/\b.n<=b.c/\∀n∈ls[i],(Uz k n).wf=true:=by
 obtain⟨fuel,G⟩:=h;rcases DataW.trod_slice x G with ⟨o,_⟩|⟨a,len,cap,elems,rest,n,_,o,_,_,hl,hm,hlen,A,_,_⟩
 ·exact⟨Sl.mk none 0 0,[],one_cell x g o,rfl,Ot _,λi hi=>by simp at hi⟩
 ·have each:∀i,i<len->∃(b:Sl) (zs:List Int),cI W.heap (a.add i)=some (Sl.v b)/\Ints k W.heap b zs/\b.n<=b.c/\∀m∈zs,(Uz k m).wf=true:=by
   intro i hi;have h1:=A i hi;rw[z,Nat.mul_one,On (by omega),Option.bind_eq_some_iff] at h1;obtain⟨I,l,J⟩:=h1;rcases open_ints y he F J with ⟨f,K⟩|⟨a2,c,u,zs,f,_,B,L,M,K,p,C⟩
   ·subst f;exact⟨Sl.mk none 0 0,[],cell_of_cells?_one l,⟨rfl,Reads.nil _ _⟩,Ot _,by simp⟩
   ·subst f;have hlen:c<=zs.length:=by rw[M];simp;omega
    refine⟨Sl.mk (some a2) c u,zs.take c,cell_of_cells?_one l,⟨by simp;omega,?_⟩,B,λn N=>C n (Pu N)⟩;intro j v w;refine⟨a2,rfl,?_⟩;have O:j<c:=by have:=(Om.1 w).1;simp at this;omega
    have h1:=p j (by omega);rw[Oy,Pd,if_pos O] at w;have D:zs[j]?=some (zs.getD j 0):=by simp[PB,On (show j<zs.length by omega)]
    rw[D] at w;simp only[Q2,Pj] at w;rw[<-w];exact h1
  have:=collect (Q:=λi zs=>∃b,cI W.heap (a.add i)=some (Sl.v b)/\Ints k W.heap b zs/\b.n<=b.c/\∀n∈zs,(Uz k n).wf=true) len (λi hi=>by
   obtain⟨b,zs,q⟩:=each i hi;exact⟨zs,b,q⟩)
  obtain⟨ls,h1,D⟩:=this;refine⟨Sl.mk (some a) len cap,ls,one_cell x g o,h1.symm,hl,λi hi=>?_⟩;obtain⟨b,q⟩:=D i hi;exact⟨a,b,rfl,q⟩
end
end Go.Proofs.YtmkbhnholcaghaaGreatDoor
