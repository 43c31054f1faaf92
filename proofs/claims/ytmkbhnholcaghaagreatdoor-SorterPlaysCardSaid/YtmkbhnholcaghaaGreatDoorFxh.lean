/-
 Ground, eighth text: from a contract said of the heap to the given statement on a law; the arguments' readings.
-/
import Derived.Test.YtmkbhnholcaghaaGreatDoorFxg
import Derived.ProofKit
open Go.DataW renaming TrodAll->TD
open Go.MemPlace renaming cell->Zj
open Go.Value renaming okWide->RU
open List renaming mem_cons_self->OA,mem_append_left->TE,mem_append_right->Vk
namespace Go.Proofs.YtmkbhnholcaghaaGreatDoor
open Go.RowKit Go.WideShapes Go.ChangeShapes Go.WideElems
section
variable {H:Type}{enc:TypeId×Value->H}{P:Program}
theorem oZ {W a:World}(he:Ext W.heap a.heap)(b:Alike W a):Below W.heap.size W {a with tape:=W.tape}:=
 ⟨b.os,rfl,b.output,he.size,λk hk=>he.same k hk id⟩
theorem qo (hl:laidOutB P=true){W f:World}(he:Ext W.heap f.heap)(j:Alike W f){sp:Nat->Bool}:∀{e:List TypeId} {vs:List Value} {ds:List (DataW H)} {ps:List MemPlace},
  (∀t∈e,P.readableRec t=true/\t<P.types.size)->TD enc P W 0 (λ_=>true) true e vs ds ps->(∀p∈ps,p.block<W.heap.size)->(∀p∈ps,sp p.block=true)->TD enc P f 0 sp true e vs ds ps
 |[],[],[],ps,_,h,_,_=>h
 |t::e,v::vs,d::ds,ps,g,h,b,c=>by
   obtain⟨p,q,h1,k,rfl⟩:=h;have l:=oZ he j;refine⟨p,q,Trod_stays hl (g t OA).1 (g t OA).2 h1 (λx a=>?_) (λx a=>c x (TE _ a)),qo hl he j (λm i=>g m (List.mem_cons_of_mem _ i)) k (λx a=>b x (Vk _ a)) (λx a=>c x (Vk _ a)),rfl⟩;exact l.same (b x (TE _ a))
 |[],_::_,_,_,_,h,_,_=>h.elim
 |[],[],_::_,_,_,h,_,_=>h.elim
 |_::_,[],_,_,_,h,_,_=>h.elim
 |_::_,_::_,[],_,_,h,_,_=>h.elim
theorem FC {f:Func}{s:ChangeSpec}{apart fresh handsOn again:Bool}{W l:World}{args:Array Value}{ds gs:List (DataW H)}{before:List MemPlace}{D:TypeId}
  (hl:laidOutB P=true) (G:∀t∈f.params.toList,P.readableRec t=true/\t<P.types.size) (m:f.resultTypes=#[D]) (n:P.underlying D=some .bool) (o:s.vars=[])
  (u:(s.fn H (ds++gs)).results=[.lit (.bool true)]) (i:(s.fn H (ds++gs)).args=ds) (j:(s.fn H (ds++gs)).vars=[])
  (w:DataW.Whole enc P f.params.toList s.vars apart W args.toList ds gs before) (he:Ext W.heap l.heap) (E:Alike W l):
  s.post enc P f apart fresh handsOn again W args (.bool true) l:=by
 have F:=oZ he E;obtain⟨p,q,I,y,h,z,A⟩:=id w;rw[o] at y;have J:q=[]:=by
  cases gs with
  |nil=>exact y
  |cons g r=>exact y.elim
 subst J;rw[List.append_nil] at h;have k:∀x∈before,x.block<W.heap.size:=λx e=>w.lt x e;have hold:∀x∈before,(λb=>decide (b<W.heap.size)) x.block=true:=λx e=>by simpa using k x e
 have a:∀(b:Nat) (sp:Nat->Bool) (hd:Bool),TD enc P l b sp hd f.resultTypes.toList ((Value.bool true).resultList f.resultTypes.size) (s.fn H (ds++gs)).results []:=by
  intro b sp hd;rw[u,m];exact trodAll_mk1 (shut_bool n true)
 have c:∀sp:Nat->Bool,(∀x∈before,sp x.block=true)->TD enc P l 0 sp true f.params.toList args.toList (s.fn H (ds++gs)).args before:=by
  intro sp B;rw[i,h];exact qo hl he E G I (λx e=>k x (by rw[h];exact e)) (λx e=>B x (by rw[h];exact e))
 have d:∀sp:Nat->Bool,DataW.TrodVars enc P l sp s.vars (s.fn H (ds++gs)).vars []:=by
  intro sp;rw[j,o];rfl
 refine⟨ds,gs,before,[],before,[],w,a _ _ _,c _ hold,d _,World.keptBut_mono (λx e=>⟨e,Or.inr (by simpa using e)⟩) (F.frame (·∈before)),λ_=>?_⟩;refine⟨ok_one m rfl (okWide_bool_mk n _),_,_,([]++before)++[],⟨[]++before,[],trodAll_append (c _ (λ_ _=>rfl)) (a _ _ _),d _,rfl,?_,?_⟩,?_⟩
 ·intro b off K;have v:Zj b off∈before:=by simpa using K
  have:=F.frozen (p:=⟨b,off,none⟩) (k _ v);exact this.trans (z b off v)
 ·intro C;simpa using A C
 ·intro x e _;simpa using e
theorem one_cell {r:Reach}{d:Nat}{W:World}{t e:TypeId}{v:Value}{a:Option Addr}{n c:Nat}(f:P.underlying t=some (.slice e))(b:RU P W r d t v)(h:v.cells.toList=[.slice a n c]):v=.slice a n c:=by
 unfold RU at b;rw[f] at b;simp only at b;cases v<;>simp_all [Value.cells,Cell.okWide,Cell.ok]
theorem collect {α:Type}{Q:Nat->α->Prop}:∀len,(∀i,i<len->∃zs,Q i zs)->∃ls:List α,ls.length=len/\∀i (hi:i<ls.length),Q i ls[i]
 |0,_=>⟨[],rfl,λi hi=>by simp at hi⟩
 |m+1,each=>by
   obtain⟨ls,h1,a⟩:=collect m (λi hi=>each i (by omega));obtain⟨zs,b⟩:=each m (by omega);refine⟨ls++[zs],by simp[h1],λi hi=>?_⟩;simp at hi;by_cases q:i<ls.length
   ·rw[List.getElem_append_left q];exact a i q
   ·have:i=m:=by omega
    subst this;simp[List.getElem_append_right (by omega:ls.length<=i),h1];exact b
end
end Go.Proofs.YtmkbhnholcaghaaGreatDoor
