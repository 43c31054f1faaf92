/-
 Ground, ninth text: maps.
-/
import Derived.Test.YtkehfflpbpdokaaGreatDoorFxg
import Derived.ProofKit
open Array renaming eraseIdxIfInBounds->Uk
open Go.Builtin renaming delete_->RN
open Go.Instr renaming lookup->RK,mapUpdate->Sr,checkKey->Vt,findKey->VE
open Go.MapKept renaming run_getObj_map->Sy,run_setObj_map->SV
open Go.Result renaming andThen->SG
open Go.Sem renaming run->Sg
open List renaming mem_of_getElem?->Qi,getElem?_eq_some_iff->Qk,getElem?_map->QC,mem_eraseIdx_iff_getElem?->S9
open Nat renaming le_refl->Qm
namespace Go.Proofs.YtkehfflpbpdokaaGreatDoor
open Go.MapKept
structure eU (d:TypeDesc)(H:aa)(r:Nat)(es:Array MapEntry)(clk:Nat):Prop where
 obj:H[r]?=some (.map es clk)
 stamped:Stamped es clk
 keys:∀x∈es.toList,IsKey d x.key
def fN (es:Array MapEntry)(k v:Value):Prop:=∃e∈es.toList,e.key=k/\e.val=v
theorem eU.lt {d:TypeDesc}{H:aa}{r:Nat}{es:Array MapEntry}{clk:Nat}(h:eU d H r es clk):r<H.size:=(Array.getElem?_eq_some_iff.1 h.obj).1
theorem eU.new (d:TypeDesc)(H:aa):eU d (H.push (.map #[] 0)) H.size #[] 0:=⟨by simp,stamped_empty 0,by simp⟩
section
variable {P:Program}{t kt et:TypeId}{d:TypeDesc}{H:aa}{r:Nat}{es:Array MapEntry}{clk:Nat}{k:Value}
theorem sF {z:Value}{inf:TypeInfo}(o:P.underlying t=some (.map kt et))(hd:P.underlying kt=some d)(hi:P.info? et=some inf)(hz:inf.zero=some z)(hm:eU d H r es clk)(hk:IsKey d k){c:gz}{K:c.α->Prop}
  (a:∀v,fN es k v->∃x:c.α,c.enc x=.tuple #[v,.bool true]/\K x) (b:(∀v,¬fN es k v)->∃x:c.α,c.enc x=.tuple #[z,.bool false]/\K x):
  EW c P (RK t (.map (some r)) k true) H K:=by
 have f:∀(e:Bool) (w:World),(Vt e 10000 kt k).run P w=.ok () w:=λe w=>run_checkKey hd hk e 9999;rcases findNow_spec hk es.toList 0 hm.keys with ⟨h1,g⟩|⟨j,e,h1,g,p⟩
 ·obtain⟨x,h,i⟩:=b (λv ⟨e,he,l,_⟩=>g e he l);refine⟨x,λw hw=>?_,i⟩;subst hw;have m:(VE kt k es.toList).run P w=.ok none w:=run_findKey hd h1;have n:=hm.obj;rw[h];simp[RK,run_underlying o,getObj,Sg,n,f,m,zeroValue,typeInfo,hi,hz]
 ·obtain⟨x,h,i⟩:=a e.val ⟨e,Qi g,p,rfl⟩;refine⟨x,λw hw=>?_,i⟩;subst hw;have m:(VE kt k es.toList).run P w=.ok (some (0+j,e.val)) w:=run_findKey hd h1;have n:=hm.obj;rw[h];simp[RK,run_underlying o,getObj,Sg,n,f,m]
theorem eU.set {H:aa}{es c:Array MapEntry}{clk a:Nat}(h:eU d H r es clk)(hs:Stamped c a)(hk:∀x∈c.toList,IsKey d x.key):
  eU d (H.setIfInBounds r (.map c a)) r c a/\Mod (λb=>b=r) H (H.setIfInBounds r (.map c a)):=
 ⟨⟨by simp[h.lt],hs,hk⟩,⟨by simp,λb _ f=>Array.getElem?_setIfInBounds_ne (λe=>f e.symm)⟩⟩
theorem ot {v:Value}{K:aa->Prop}(h:P.underlying t=some (.map kt et))(hd:P.underlying kt=some d)(hm:eU d H r es clk)(hk:IsKey d k)(c:∀u,¬fN es k u)
  (i:∀H',eU d H' r (es.push {key:=k,val:=v,born:=clk}) (clk+1)->Mod (λb=>b=r) H H'->H'.size=H.size->K H'):xJ P (Sr t (.map (some r)) k v) H K:=by
 intro w hw;subst hw;have g:=hm.obj;rcases findNow_spec hk es.toList 0 hm.keys with ⟨h1,f⟩|⟨j,e,h1,f,l⟩
 ·obtain⟨m1,m2⟩:=hm.set (stamped_push (val:=v) hm.stamped f) (by
   intro x a;simp only[Array.toList_push,List.mem_append,List.mem_singleton] at a;rcases a with a|rfl
   ·exact hm.keys x a
   ·exact hk)
  refine⟨(),{w with heap:=w.heap.setIfInBounds r (.map (es.push {key:=k,val:=v,born:=clk}) (clk+1))},?_,i _ m1 m2 (by simp),(.of_le rfl (Qm _))⟩;simp[Sr,run_underlying h,Sy g,run_checkKey hd hk,run_findKey hd h1,SV _ g,SG]
 ·exact absurd ⟨e,Qi f,l,rfl⟩ (c e.val)
theorem sQ {ty:TypeId}{K:Value->aa->Prop}(F:P.underlying t=some (.map kt et))(hd:P.underlying kt=some d)(hm:eU d H r es clk)(hk:IsKey d k){t2:TypeId}
  (G:∀g H',eU d H' r g clk->(∀p v,fN g p v↔fN es p v/\p≠k)->(∀u,fN es k u->g.size+1=es.size)->Mod (λb=>b=r) H H'->H'.size=H.size->K (.tuple #[]) H'):bI jF P (RN #[t,t2] ty #[.map (some r),k]) H K:=by
 intro w hw;subst hw;have A:=hm.obj;have q:∀(e:Bool) (w:World),(Vt e 10000 kt k).run P w=.ok () w:=λe w=>run_checkKey hd hk e 9999;rcases findNow_spec hk es.toList 0 hm.keys with ⟨h1,o⟩|⟨j,e,h1,o,I⟩
 ·obtain⟨m1,m2⟩:=hm.set hm.stamped hm.keys;refine⟨.tuple #[],{w with heap:=w.heap.setIfInBounds r (.map es clk)},?_,⟨.tuple #[],rfl,G _ _ m1 (λp v=>⟨λ⟨e,he,f,s⟩=>⟨⟨e,he,f,s⟩,by rw[<-f];exact o e he⟩,λh=>h.1⟩) (λu ⟨e,he,f,_⟩=>absurd f (o e he)) m2 (by simp)⟩,(.of_le rfl (Qm _))⟩;simp[RN,run_underlying F,Sy A,q,run_findKey hd h1,SV _ A,SG]
 ·have J:j<es.toList.length:=(Qk.1 o).1;have y:j<es.size:=by simpa using J
  have l:(es.eraseIdxIfInBounds j).toList=es.toList.eraseIdx j:=by
   unfold Uk;rw[dif_pos y];simp
  have z:∀x∈(es.eraseIdxIfInBounds j).toList,x∈es.toList:=by
   intro x c;rw[l] at c;exact List.mem_of_mem_eraseIdx c
  obtain⟨m1,m2⟩:=hm.set (stamped_erase hm.stamped j) (λx c=>hm.keys x (z x c));refine⟨.tuple #[],{w with heap:=w.heap.setIfInBounds r (.map (es.eraseIdxIfInBounds j) clk)},?_,⟨.tuple #[],rfl,G _ _ m1 (λp v=>?_) (λ_ _=>by unfold Uk;rw[dif_pos y];simp;omega) m2 (by simp)⟩,(.of_le rfl (Qm _))⟩
  ·simp[RN,run_underlying F,Sy A,q,run_findKey hd h1,SV _ A,SG]
  ·have B:=hm.stamped.2.2;have m:∀i x,es.toList[i]?=some x->x.key=k->i=j:=by
    intro i x c C;have hi:i<es.toList.length:=(Qk.1 c).1;have L:(es.toList.map (·.key))[i]?=(es.toList.map (·.key))[j]?:=by
     rw[QC,QC,c,o];simp[C,I]
    exact(List.getElem?_inj (by simpa using hi) B).1 L
   constructor
   ·rintro⟨x,c,f,s⟩;rw[l,S9] at c;obtain⟨i,n,a⟩:=c;refine⟨⟨x,Qi a,f,s⟩,λD=>n (m i x a (by rw[f];exact D))⟩
   ·rintro⟨⟨x,c,f,s⟩,E⟩;refine⟨x,?_,f,s⟩;rw[l,S9];obtain⟨i,a⟩:=List.mem_iff_getElem?.1 c;refine⟨i,λn=>?_,a⟩;subst n;rw[o] at a;cases a;exact E (by rw[<-f];exact I)
end
end Go.Proofs.YtkehfflpbpdokaaGreatDoor
