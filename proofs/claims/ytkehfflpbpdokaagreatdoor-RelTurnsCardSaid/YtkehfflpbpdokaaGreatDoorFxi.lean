/-
 Ground, ninth text: maps.
-/
import Derived.Test.YtkehfflpbpdokaaGreatDoorFxg
import Derived.ProofKit
open Array renaming eraseIdxIfInBounds->NL
open Go.Builtin renaming delete_->LJ
open Go.Instr renaming lookup->LC,mapUpdate->Ml,checkKey->OW,findKey->O7
open Go.MapKept renaming run_getObj_map->Mq,run_setObj_map->MJ
open Go.Result renaming andThen->Mu
open Go.Sem renaming run->Md
open List renaming mem_of_getElem?->Ki,getElem?_eq_some_iff->Kj,getElem?_map->KC,mem_eraseIdx_iff_getElem?->MK
open Nat renaming le_refl->Kl
namespace Go.Proofs.YtkehfflpbpdokaaGreatDoor
open Go.MapKept
structure dq (d:TypeDesc)(H:aa)(r:Nat)(es:Array MapEntry)(clk:Nat):Prop where
 obj:H[r]?=some (.map es clk)
 stamped:Stamped es clk
 keys:∀x∈es.toList,IsKey d x.key
def dJ (es:Array MapEntry)(k v:Value):Prop:=∃e∈es.toList,e.key=k/\e.val=v
theorem dq.lt {d:TypeDesc}{H:aa}{r:Nat}{es:Array MapEntry}{clk:Nat}(h:dq d H r es clk):r<H.size:=(Array.getElem?_eq_some_iff.1 h.obj).1
theorem dq.new (d:TypeDesc)(H:aa):dq d (H.push (.map #[] 0)) H.size #[] 0:=⟨by simp,stamped_empty 0,by simp⟩
section
variable {P:Program}{t kt et:TypeId}{d:TypeDesc}{H:aa}{r:Nat}{es:Array MapEntry}{clk:Nat}{k:Value}
theorem oN {z:Value}{inf:TypeInfo}(ht:P.underlying t=some (.map kt et))(hd:P.underlying kt=some d)(hi:P.info? et=some inf)(hz:inf.zero=some z)(hm:dq d H r es clk)(hk:IsKey d k){c:eJ}{K:c.α->Prop}
  (hfound:∀v,dJ es k v->∃x:c.α,c.enc x=.tuple #[v,.bool true]/\K x) (hnone:(∀v,¬dJ es k v)->∃x:c.α,c.enc x=.tuple #[z,.bool false]/\K x):
  AD c P (LC t (.map (some r)) k true) H K:=by
 have hck:∀(e:Bool) (w:World),(OW e 10000 kt k).run P w=.ok () w:=λe w=>run_checkKey hd hk e 9999
 rcases findNow_spec hk es.toList 0 hm.keys with ⟨h1,h2⟩|⟨j,e,h1,h2,h3⟩
 ·obtain⟨x,hx,hK⟩:=hnone (λv ⟨e,he,hek,_⟩=>h2 e he hek)
  refine⟨x,λw hw=>?_,hK⟩
  subst hw
  have hf:(O7 kt k es.toList).run P w=.ok none w:=run_findKey hd h1
  have ho:=hm.obj
  rw[hx]
  simp[LC,run_underlying ht,getObj,Md,ho,hck,hf,zeroValue,typeInfo,hi,hz]
 ·obtain⟨x,hx,hK⟩:=hfound e.val ⟨e,Ki h2,h3,rfl⟩
  refine⟨x,λw hw=>?_,hK⟩
  subst hw
  have hf:(O7 kt k es.toList).run P w=.ok (some (0+j,e.val)) w:=run_findKey hd h1
  have ho:=hm.obj
  rw[hx]
  simp[LC,run_underlying ht,getObj,Md,ho,hck,hf]
theorem dq.set {H:aa}{es es':Array MapEntry}{clk clk':Nat}(h:dq d H r es clk)(hs:Stamped es' clk')(hk:∀x∈es'.toList,IsKey d x.key):
  dq d (H.setIfInBounds r (.map es' clk')) r es' clk'/\Mod (λb=>b=r) H (H.setIfInBounds r (.map es' clk')):=
 ⟨⟨by simp[h.lt],hs,hk⟩,⟨by simp,λb _ hn=>Array.getElem?_setIfInBounds_ne (λe=>hn e.symm)⟩⟩
theorem lC {v:Value}{K:aa->Prop}(ht:P.underlying t=some (.map kt et))(hd:P.underlying kt=some d)(hm:dq d H r es clk)(hk:IsKey d k)(hno:∀u,¬dJ es k u)
  (hK:∀H',dq d H' r (es.push {key:=k,val:=v,born:=clk}) (clk+1)->Mod (λb=>b=r) H H'->H'.size=H.size->K H'):ur P (Ml t (.map (some r)) k v) H K:=by
 intro w hw
 subst hw
 have hb:=hm.obj
 rcases findNow_spec hk es.toList 0 hm.keys with ⟨h1,h2⟩|⟨j,e,h1,h2,h3⟩
 ·obtain⟨m1,m2⟩:=hm.set (stamped_push (val:=v) hm.stamped h2) (by
   intro x hx
   simp only[Array.toList_push,List.mem_append,List.mem_singleton] at hx
   rcases hx with hx|rfl
   ·exact hm.keys x hx
   ·exact hk)
  refine⟨(),{w with heap:=w.heap.setIfInBounds r (.map (es.push {key:=k,val:=v,born:=clk}) (clk+1))},?_,hK _ m1 m2 (by simp),(.of_le rfl (Kl _))⟩
  simp[Ml,run_underlying ht,Mq hb,run_checkKey hd hk,run_findKey hd h1,MJ _ hb,Mu]
 ·exact absurd ⟨e,Ki h2,h3,rfl⟩ (hno e.val)
theorem pK {ty:TypeId}{K:Value->aa->Prop}(ht:P.underlying t=some (.map kt et))(hd:P.underlying kt=some d)(hm:dq d H r es clk)(hk:IsKey d k){t2:TypeId}
  (hK:∀es' H',dq d H' r es' clk->(∀k' v,dJ es' k' v↔dJ es k' v/\k'≠k)->(∀u,dJ es k u->es'.size+1=es.size)->Mod (λb=>b=r) H H'->H'.size=H.size->K (.tuple #[]) H'):bo iz P (LJ #[t,t2] ty #[.map (some r),k]) H K:=by
 intro w hw
 subst hw
 have hb:=hm.obj
 have hck:∀(e:Bool) (w:World),(OW e 10000 kt k).run P w=.ok () w:=λe w=>run_checkKey hd hk e 9999
 rcases findNow_spec hk es.toList 0 hm.keys with ⟨h1,h2⟩|⟨j,e,h1,h2,h3⟩
 ·obtain⟨m1,m2⟩:=hm.set hm.stamped hm.keys
  refine⟨.tuple #[],{w with heap:=w.heap.setIfInBounds r (.map es clk)},?_,⟨.tuple #[],rfl,hK _ _ m1 (λk' v=>⟨λ⟨e,he,q1,q2⟩=>⟨⟨e,he,q1,q2⟩,by rw[<-q1];exact h2 e he⟩,λh=>h.1⟩) (λu ⟨e,he,q1,_⟩=>absurd q1 (h2 e he)) m2 (by simp)⟩,(.of_le rfl (Kl _))⟩
  simp[LJ,run_underlying ht,Mq hb,hck,run_findKey hd h1,MJ _ hb,Mu]
 ·have hj:j<es.toList.length:=(Kj.1 h2).1
  have hj':j<es.size:=by simpa using hj
  have et':(es.eraseIdxIfInBounds j).toList=es.toList.eraseIdx j:=by
   unfold NL
   rw[dif_pos hj'];simp
  have hsub:∀x∈(es.eraseIdxIfInBounds j).toList,x∈es.toList:=by
   intro x hx;rw[et'] at hx;exact List.mem_of_mem_eraseIdx hx
  obtain⟨m1,m2⟩:=hm.set (stamped_erase hm.stamped j) (λx hx=>hm.keys x (hsub x hx))
  refine⟨.tuple #[],{w with heap:=w.heap.setIfInBounds r (.map (es.eraseIdxIfInBounds j) clk)},?_,⟨.tuple #[],rfl,hK _ _ m1 (λk' v=>?_) (λ_ _=>by unfold NL;rw[dif_pos hj'];simp;omega) m2 (by simp)⟩,(.of_le rfl (Kl _))⟩
  ·simp[LJ,run_underlying ht,Mq hb,hck,run_findKey hd h1,MJ _ hb,Mu]
  ·have hnd:=hm.stamped.2.2
   have huniq:∀i x,es.toList[i]?=some x->x.key=k->i=j:=by
    intro i x hx hxk
    have hi:i<es.toList.length:=(Kj.1 hx).1
    have e1:(es.toList.map (·.key))[i]?=(es.toList.map (·.key))[j]?:=by
     rw[KC,KC,hx,h2];simp[hxk,h3]
    exact(List.getElem?_inj (by simpa using hi) hnd).1 e1
   constructor
   ·rintro⟨x,hx,q1,q2⟩
    rw[et',MK] at hx
    obtain⟨i,hij,hxi⟩:=hx
    refine⟨⟨x,Ki hxi,q1,q2⟩,λhkk=>hij (huniq i x hxi (by rw[q1];exact hkk))⟩
   ·rintro⟨⟨x,hx,q1,q2⟩,hne⟩
    refine⟨x,?_,q1,q2⟩
    rw[et',MK]
    obtain⟨i,hxi⟩:=List.mem_iff_getElem?.1 hx
    refine⟨i,λhij=>?_,hxi⟩
    subst hij
    rw[h2] at hxi
    cases hxi
    exact hne (by rw[<-q1];exact h3)
end
end Go.Proofs.YtkehfflpbpdokaaGreatDoor
