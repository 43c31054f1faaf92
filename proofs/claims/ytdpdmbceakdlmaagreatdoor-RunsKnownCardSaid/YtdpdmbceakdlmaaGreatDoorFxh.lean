/-
 Ground, eighth text: from a contract said of the heap to the given statement on a law; the arguments' readings.
-/
import Derived.Test.YtdpdmbceakdlmaaGreatDoorFxg
import Derived.ProofKit
open Go.DataW renaming TrodAll->OX
open Go.MemPlace renaming cell->UB
open List renaming mem_cons_self->KV,mem_append_left->NY,mem_append_right->Rh
namespace Go.Proofs.YtdpdmbceakdlmaaGreatDoor
open Go.RowKit Go.WideShapes Go.ChangeShapes Go.WideElems
section
variable {H:Type}{enc:TypeId×Value->H}{P:Program}
theorem nM {W W':World}(he:Ext W.heap W'.heap)(ha:Alike W W'):Below W.heap.size W {W' with tape:=W.tape}:=
 ⟨ha.os,rfl,ha.output,he.size,λk hk=>he.same k hk id⟩
theorem pA (hl:laidOutB P=true){W W':World}(he:Ext W.heap W'.heap)(ha:Alike W W'){sp:Nat->Bool}:∀{ts:List TypeId} {vs:List Value} {ds:List (DataW H)} {ps:List MemPlace},
  (∀t∈ts,P.readableRec t=true/\t<P.types.size)->OX enc P W 0 (λ_=>true) true ts vs ds ps->(∀p∈ps,p.block<W.heap.size)->(∀p∈ps,sp p.block=true)->OX enc P W' 0 sp true ts vs ds ps
 |[],[],[],ps,_,h,_,_=>h
 |t::ts,v::vs,d::ds,ps,hr,h,hlt,hsp=>by
   obtain⟨p,q,h1,h2,rfl⟩:=h
   have hb:=nM he ha
   refine⟨p,q,Trod_stays hl (hr t KV).1 (hr t KV).2 h1 (λx hx=>?_) (λx hx=>hsp x (NY _ hx)),pA hl he ha (λt' ht'=>hr t' (List.mem_cons_of_mem _ ht')) h2 (λx hx=>hlt x (Rh _ hx)) (λx hx=>hsp x (Rh _ hx)),rfl⟩
   exact hb.same (hlt x (NY _ hx))
 |[],_::_,_,_,_,h,_,_=>h.elim
 |[],[],_::_,_,_,h,_,_=>h.elim
 |_::_,[],_,_,_,h,_,_=>h.elim
 |_::_,_::_,[],_,_,h,_,_=>h.elim
theorem DD {f:Func}{s:ChangeSpec}{apart fresh handsOn again:Bool}{W W':World}{args:Array Value}{ds gs:List (DataW H)}{before:List MemPlace}{tb:TypeId}
  (hl:laidOutB P=true) (hr:∀t∈f.params.toList,P.readableRec t=true/\t<P.types.size) (hrt:f.resultTypes=#[tb]) (htb:P.underlying tb=some .bool) (hvs:s.vars=[])
  (hres:(s.fn H (ds++gs)).results=[.lit (.bool true)]) (hargs:(s.fn H (ds++gs)).args=ds) (hvars:(s.fn H (ds++gs)).vars=[])
  (hW:DataW.Whole enc P f.params.toList s.vars apart W args.toList ds gs before) (he:Ext W.heap W'.heap) (ha:Alike W W'):
  s.post enc P f apart fresh handsOn again W args (.bool true) W':=by
 have hb:=nM he ha
 obtain⟨p,q,hA,hV,hpq,hfz,hnd⟩:=id hW
 rw[hvs] at hV
 have hq:q=[]:=by
  cases gs with
  |nil=>exact hV
  |cons g r=>exact hV.elim
 subst hq
 rw[List.append_nil] at hpq
 have hlt:∀x∈before,x.block<W.heap.size:=λx hx=>hW.lt x hx
 have hold:∀x∈before,(λb=>decide (b<W.heap.size)) x.block=true:=λx hx=>by simpa using hlt x hx
 have hresult:∀(b:Nat) (sp:Nat->Bool) (hd:Bool),OX enc P W' b sp hd f.resultTypes.toList ((Value.bool true).resultList f.resultTypes.size) (s.fn H (ds++gs)).results []:=by
  intro b sp hd
  rw[hres,hrt]
  exact trodAll_mk1 (shut_bool htb true)
 have hargsT:∀sp:Nat->Bool,(∀x∈before,sp x.block=true)->OX enc P W' 0 sp true f.params.toList args.toList (s.fn H (ds++gs)).args before:=by
  intro sp hsp
  rw[hargs,hpq]
  exact pA hl he ha hr hA (λx hx=>hlt x (by rw[hpq];exact hx)) (λx hx=>hsp x (by rw[hpq];exact hx))
 have hvarsT:∀sp:Nat->Bool,DataW.TrodVars enc P W' sp s.vars (s.fn H (ds++gs)).vars []:=by
  intro sp;rw[hvars,hvs];rfl
 refine⟨ds,gs,before,[],before,[],hW,hresult _ _ _,hargsT _ hold,hvarsT _,World.keptBut_mono (λx hx=>⟨hx,Or.inr (by simpa using hx)⟩) (hb.frame (·∈before)),λ_=>?_⟩
 refine⟨ok_one hrt rfl (okWide_bool_mk htb _),_,_,([]++before)++[],⟨[]++before,[],trodAll_append (hargsT _ (λ_ _=>rfl)) (hresult _ _ _),hvarsT _,rfl,?_,?_⟩,?_⟩
 ·intro b off hp
  have hin:UB b off∈before:=by simpa using hp
  have:=hb.frozen (p:=⟨b,off,none⟩) (hlt _ hin)
  exact this.trans (hfz b off hin)
 ·intro ha'
  simpa using hnd ha'
 ·intro x hx _
  simpa using hx
end
end Go.Proofs.YtdpdmbceakdlmaaGreatDoor
