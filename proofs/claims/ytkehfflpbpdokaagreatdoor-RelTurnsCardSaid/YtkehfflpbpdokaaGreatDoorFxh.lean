/-
 Ground, eighth text: from a contract said of the heap to the given statement on a law; the arguments' readings.
-/
import Derived.Test.YtkehfflpbpdokaaGreatDoorFxg
import Derived.ProofKit
open Go.DataW renaming TrodAll->Ov
open Go.Lit renaming int->Ql
open Go.MemPlace renaming cell->UL
open Go.Value renaming okWide->N7
open List renaming getElem?_eq_getElem->Kg,mem_cons_self->Kw,mem_append_left->Pr,mem_append_right->Ro
open Nat renaming le_refl->Kl
open Option.some renaming injEq->Lr
namespace Go.Proofs.YtkehfflpbpdokaaGreatDoor
open Go.RowKit Go.WideShapes Go.ChangeShapes Go.WideElems
section
variable {H:Type}{enc:TypeId×Value->H}{P:Program}
theorem lS {W W':World}(he:Ext W.heap W'.heap)(ha:Alike W W'):Below W.heap.size W {W' with tape:=W.tape}:=
 ⟨ha.os,rfl,ha.output,he.size,λk hk=>he.same k hk id⟩
theorem nH (hl:laidOutB P=true){W W':World}(he:Ext W.heap W'.heap)(ha:Alike W W'){sp:Nat->Bool}:∀{ts:List TypeId} {vs:List Value} {ds:List (DataW H)} {ps:List MemPlace},
  (∀t∈ts,P.readableRec t=true/\t<P.types.size)->Ov enc P W 0 (λ_=>true) true ts vs ds ps->(∀p∈ps,p.block<W.heap.size)->(∀p∈ps,sp p.block=true)->Ov enc P W' 0 sp true ts vs ds ps
 |[],[],[],ps,_,h,_,_=>h
 |t::ts,v::vs,d::ds,ps,hr,h,hlt,hsp=>by
   obtain⟨p,q,h1,h2,rfl⟩:=h
   have hb:=lS he ha
   refine⟨p,q,Trod_stays hl (hr t Kw).1 (hr t Kw).2 h1 (λx hx=>?_) (λx hx=>hsp x (Pr _ hx)),nH hl he ha (λt' ht'=>hr t' (List.mem_cons_of_mem _ ht')) h2 (λx hx=>hlt x (Ro _ hx)) (λx hx=>hsp x (Ro _ hx)),rfl⟩
   exact hb.same (hlt x (Pr _ hx))
 |[],_::_,_,_,_,h,_,_=>h.elim
 |[],[],_::_,_,_,h,_,_=>h.elim
 |_::_,[],_,_,_,h,_,_=>h.elim
 |_::_,_::_,[],_,_,h,_,_=>h.elim
theorem BZ {f:Func}{s:ChangeSpec}{apart fresh handsOn again:Bool}{W W':World}{args:Array Value}{ds gs:List (DataW H)}{before:List MemPlace}{tb:TypeId}
  (hl:laidOutB P=true) (hr:∀t∈f.params.toList,P.readableRec t=true/\t<P.types.size) (hrt:f.resultTypes=#[tb]) (htb:P.underlying tb=some .bool) (hvs:s.vars=[])
  (hres:(s.fn H (ds++gs)).results=[.lit (.bool true)]) (hargs:(s.fn H (ds++gs)).args=ds) (hvars:(s.fn H (ds++gs)).vars=[])
  (hW:DataW.Whole enc P f.params.toList s.vars apart W args.toList ds gs before) (he:Ext W.heap W'.heap) (ha:Alike W W'):
  s.post enc P f apart fresh handsOn again W args (.bool true) W':=by
 have hb:=lS he ha
 obtain⟨p,q,hA,hV,hpq,hfz,hnd⟩:=id hW
 rw[hvs] at hV
 have hq:q=[]:=by
  cases gs with
  |nil=>exact hV
  |cons g r=>exact hV.elim
 subst hq
 rw[List.append_nil] at hpq
 have hlt:∀x∈before,x.block<W.heap.size:=λx hx=>hW.lt x hx
 have hold:∀x∈before,(λb=>decide (b<W.heap.size)) x.block=true:=λx hx=>by simpa using hlt x hx
 have hresult:∀(b:Nat) (sp:Nat->Bool) (hd:Bool),Ov enc P W' b sp hd f.resultTypes.toList ((Value.bool true).resultList f.resultTypes.size) (s.fn H (ds++gs)).results []:=by
  intro b sp hd
  rw[hres,hrt]
  exact trodAll_mk1 (shut_bool htb true)
 have hargsT:∀sp:Nat->Bool,(∀x∈before,sp x.block=true)->Ov enc P W' 0 sp true f.params.toList args.toList (s.fn H (ds++gs)).args before:=by
  intro sp hsp
  rw[hargs,hpq]
  exact nH hl he ha hr hA (λx hx=>hlt x (by rw[hpq];exact hx)) (λx hx=>hsp x (by rw[hpq];exact hx))
 have hvarsT:∀sp:Nat->Bool,DataW.TrodVars enc P W' sp s.vars (s.fn H (ds++gs)).vars []:=by
  intro sp;rw[hvars,hvs];rfl
 refine⟨ds,gs,before,[],before,[],hW,hresult _ _ _,hargsT _ hold,hvarsT _,World.keptBut_mono (λx hx=>⟨hx,Or.inr (by simpa using hx)⟩) (hb.frame (·∈before)),λ_=>?_⟩
 refine⟨ok_one hrt rfl (okWide_bool_mk htb _),_,_,([]++before)++[],⟨[]++before,[],trodAll_append (hargsT _ (λ_ _=>rfl)) (hresult _ _ _),hvarsT _,rfl,?_,?_⟩,?_⟩
 ·intro b off hp
  have hin:UL b off∈before:=by simpa using hp
  have:=hb.frozen (p:=⟨b,off,none⟩) (hlt _ hin)
  exact this.trans (hfz b off hin)
 ·intro ha'
  simpa using hnd ha'
 ·intro x hx _
  simpa using hx
theorem one_cell {r:Reach}{b0:Nat}{W:World}{t e:TypeId}{v:Value}{a:Option Addr}{n c:Nat}(ht:P.underlying t=some (.slice e))(hval:N7 P W r b0 t v)(h:v.cells.toList=[.slice a n c]):v=.slice a n c:=by
 unfold N7 at hval
 rw[ht] at hval
 simp only at hval
 cases v<;>simp_all [Value.cells,Cell.okWide,Cell.ok]
theorem collect {α:Type}{Q:Nat->α->Prop}:∀len,(∀i,i<len->∃zs,Q i zs)->∃ls:List α,ls.length=len/\∀i (hi:i<ls.length),Q i ls[i]
 |0,_=>⟨[],rfl,λi hi=>by simp at hi⟩
 |m+1,each=>by
   obtain⟨ls,h1,h2⟩:=collect m (λi hi=>each i (by omega))
   obtain⟨zs,h3⟩:=each m (by omega)
   refine⟨ls++[zs],by simp[h1],λi hi=>?_⟩
   simp at hi
   by_cases q:i<ls.length
   ·rw[List.getElem_append_left q];exact h2 i q
   ·have:i=m:=by omega
    subst this
    simp[List.getElem_append_right (by omega:ls.length<=i),h1];exact h3
theorem od {r:Reach}{b0:Nat}{W:World}{t e e2:TypeId}{k:IntKind}{v:Value}{d:DataW H}{ps:List MemPlace}(ht:P.underlying t=some (.slice e))(hte:P.underlying e=some (.slice e2))(he:P.underlying e2=some (.int k))(hc1:P.cellsOf e=1)(hc:P.cellsOf e2=1)
  (hval:N7 P W r b0 t v) (h:DataW.Trod enc P W 0 (λ_=>true) true t v d ps):
  ∃(s:Sl) (ls:List (List Int)),v=Sl.v s/\s.n=ls.length/\s.n<=s.c/\∀i (hi:i<ls.length),∃ad rr,s.a=some ad/\bI W.heap (ad.add i)=some (Sl.v rr)/\Ints k W.heap rr ls[i]/\rr.n<=rr.c/\∀n∈ls[i],(Ql k n).wf=true:=by
 obtain⟨fuel,hf⟩:=h
 rcases DataW.trod_slice ht hf with ⟨hcs,_⟩|⟨a,len,cap,elems,rest,n,_,hcs,_,_,hl,hm,hlen,hel,_,_⟩
 ·exact⟨Sl.mk none 0 0,[],one_cell ht hval hcs,rfl,Kl _,λi hi=>by simp at hi⟩
 ·have each:∀i,i<len->∃(rr:Sl) (zs:List Int),bI W.heap (a.add i)=some (Sl.v rr)/\Ints k W.heap rr zs/\rr.n<=rr.c/\∀m∈zs,(Ql k m).wf=true:=by
   intro i hi
   have h1:=hel i hi
   rw[hc1,Nat.mul_one,Kg (by omega),Option.bind_eq_some_iff] at h1
   obtain⟨cs',hcs',hy⟩:=h1
   rcases open_ints hte he hc hy with ⟨hcs2,hx⟩|⟨a2,len2,cap2,zs,hcs2,_,hl2,hm2,hz,hx,hcell,hwz⟩
   ·subst hcs2
    exact⟨Sl.mk none 0 0,[],cell_of_cells?_one hcs',⟨rfl,Reads.nil _ _⟩,Kl _,by simp⟩
   ·subst hcs2
    have hlen:len2<=zs.length:=by rw[hz];simp;omega
    refine⟨Sl.mk (some a2) len2 cap2,zs.take len2,cell_of_cells?_one hcs',⟨by simp;omega,?_⟩,hl2,λn hn=>hwz n (List.mem_of_mem_take hn)⟩
    intro j v hv
    refine⟨a2,rfl,?_⟩
    have hj:j<len2:=by have:=(List.getElem?_eq_some_iff.1 hv).1;simp at this;omega
    have h1:=hcell j (by omega)
    rw[List.getElem?_map,List.getElem?_take,if_pos hj] at hv
    have h2:zs[j]?=some (zs.getD j 0):=by simp[List.getD,Kg (show j<zs.length by omega)]
    rw[h2] at hv
    simp only[Option.map_some,Lr] at hv
    rw[<-hv]
    exact h1
  have:=collect (Q:=λi zs=>∃rr,bI W.heap (a.add i)=some (Sl.v rr)/\Ints k W.heap rr zs/\rr.n<=rr.c/\∀n∈zs,(Ql k n).wf=true) len (λi hi=>by
   obtain⟨rr,zs,q⟩:=each i hi
   exact⟨zs,rr,q⟩)
  obtain⟨ls,h1,h2⟩:=this
  refine⟨Sl.mk (some a) len cap,ls,one_cell ht hval hcs,h1.symm,hl,λi hi=>?_⟩
  obtain⟨rr,q⟩:=h2 i hi
  exact⟨a,rr,rfl,q⟩
end
end Go.Proofs.YtkehfflpbpdokaaGreatDoor
