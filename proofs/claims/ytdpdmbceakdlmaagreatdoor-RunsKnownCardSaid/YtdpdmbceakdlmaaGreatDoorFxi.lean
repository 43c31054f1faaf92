/-
 Ground, ninth text: maps.
-/
import Derived.Test.YtdpdmbceakdlmaaGreatDoorFxg
import Derived.ProofKit
open Array renaming getElem?_eq_some_iff->KO,filter->Ll,getElem?_setIfInBounds_ne->LW,mem_filter->ML,eraseIdxIfInBounds->N4,mem_append->P5,map->Rs
open Go.Builtin renaming delete_->Mk
open Go.Instr renaming lookup->L3,entry->L8,next->Mo,range->Mv,mapUpdate->My,checkKey->PM,findKey->P4
open Go.MapKept renaming run_getObj_map->Mh,run_setObj_map->MX
open Go.Result renaming andThen->Mr
open Go.Sem renaming run->L4
open Go.Value renaming bool->PZ,tuple->Qy
open List renaming mem_of_getElem?->KH,getElem?_eq_some_iff->KI,getElem?_map->Le,mem_eraseIdx_iff_getElem?->MY
open Nat renaming le_refl->KN
namespace Go.Proofs.YtdpdmbceakdlmaaGreatDoor
open Go.MapKept
structure cd (d:TypeDesc)(H:Heap)(r:Nat)(es:Array MapEntry)(clk:Nat):Prop where
 obj:H[r]?=some (.map es clk)
 stamped:Stamped es clk
 keys:∀x∈es.toList,IsKey d x.key
def fH (es:Array MapEntry)(k v:Value):Prop:=∃e∈es.toList,e.key=k/\e.val=v
theorem cd.lt {d:TypeDesc}{H:Heap}{r:Nat}{es:Array MapEntry}{clk:Nat}(h:cd d H r es clk):r<H.size:=(KO.1 h.obj).1
theorem cd.mod {d:TypeDesc}{F:Nat->Prop}{H H':Heap}{r:Nat}{es:Array MapEntry}{clk:Nat}(h:cd d H r es clk)(hm:Mod F H H')(hn:¬F r):cd d H' r es clk:=
 ⟨(hm.same r h.lt hn).trans h.obj,h.stamped,h.keys⟩
theorem cd.new (d:TypeDesc)(H:Heap):cd d (H.push (.map #[] 0)) H.size #[] 0:=⟨by simp,stamped_empty 0,by simp⟩
section
variable {P:Program}{t kt et:TypeId}{d:TypeDesc}{H:Heap}{r:Nat}{es:Array MapEntry}{clk:Nat}{k:Value}
theorem rh {z:Value}{inf:TypeInfo}(ht:P.underlying t=some (.map kt et))(hd:P.underlying kt=some d)(hi:P.info? et=some inf)(hz:inf.zero=some z)(hm:cd d H r es clk)(hk:IsKey d k){c:eN}{K:c.α->Prop}
  (hfound:∀v,fH es k v->∃x:c.α,c.enc x=.tuple #[v,.bool true]/\K x) (hnone:(∀v,¬fH es k v)->∃x:c.α,c.enc x=.tuple #[z,.bool false]/\K x):
  Di c P (L3 t (.map (some r)) k true) H K:=by
 have hck:∀(e:Bool) (w:World),(PM e 10000 kt k).run P w=.ok () w:=λe w=>run_checkKey hd hk e 9999
 rcases findNow_spec hk es.toList 0 hm.keys with ⟨h1,h2⟩|⟨j,e,h1,h2,h3⟩
 ·obtain⟨x,hx,hK⟩:=hnone (λv ⟨e,he,hek,_⟩=>h2 e he hek)
  refine⟨x,λw hw=>?_,hK⟩
  subst hw
  have hf:(P4 kt k es.toList).run P w=.ok none w:=run_findKey hd h1
  have ho:=hm.obj
  rw[hx]
  simp[L3,run_underlying ht,getObj,L4,ho,hck,hf,zeroValue,typeInfo,hi,hz]
 ·obtain⟨x,hx,hK⟩:=hfound e.val ⟨e,KH h2,h3,rfl⟩
  refine⟨x,λw hw=>?_,hK⟩
  subst hw
  have hf:(P4 kt k es.toList).run P w=.ok (some (0+j,e.val)) w:=run_findKey hd h1
  have ho:=hm.obj
  rw[hx]
  simp[L3,run_underlying ht,getObj,L4,ho,hck,hf]
theorem cd.set {H:Heap}{es es':Array MapEntry}{clk clk':Nat}(h:cd d H r es clk)(hs:Stamped es' clk')(hk:∀x∈es'.toList,IsKey d x.key):
  cd d (H.setIfInBounds r (.map es' clk')) r es' clk'/\Mod (λb=>b=r) H (H.setIfInBounds r (.map es' clk')):=
 ⟨⟨by simp[h.lt],hs,hk⟩,⟨by simp,λb _ hn=>LW (λe=>hn e.symm)⟩⟩
theorem mF {v:Value}{K:Heap->Prop}(ht:P.underlying t=some (.map kt et))(hd:P.underlying kt=some d)(hm:cd d H r es clk)(hk:IsKey d k)(hno:∀u,¬fH es k u)
  (hK:∀H',cd d H' r (es.push {key:=k,val:=v,born:=clk}) (clk+1)->Mod (λb=>b=r) H H'->H'.size=H.size->K H'):lQ P (My t (.map (some r)) k v) H K:=by
 intro w hw
 subst hw
 have hb:=hm.obj
 rcases findNow_spec hk es.toList 0 hm.keys with ⟨h1,h2⟩|⟨j,e,h1,h2,h3⟩
 ·obtain⟨m1,m2⟩:=hm.set (stamped_push (val:=v) hm.stamped h2) (by
   intro x hx
   simp only[Array.toList_push,List.mem_append,List.mem_singleton] at hx
   rcases hx with hx|rfl
   ·exact hm.keys x hx
   ·exact hk)
  refine⟨(),{w with heap:=w.heap.setIfInBounds r (.map (es.push {key:=k,val:=v,born:=clk}) (clk+1))},?_,hK _ m1 m2 (by simp),(.of_le rfl (KN _))⟩
  simp[My,run_underlying ht,Mh hb,run_checkKey hd hk,run_findKey hd h1,MX _ hb,Mr]
 ·exact absurd ⟨e,KH h2,h3,rfl⟩ (hno e.val)
theorem xM {ty:TypeId}{K:Value->Heap->Prop}(ht:P.underlying t=some (.map kt et))(hd:P.underlying kt=some d)(hm:cd d H r es clk)(hk:IsKey d k){t2:TypeId}
  (hK:∀es' H',cd d H' r es' clk->(∀k' v,fH es' k' v↔fH es k' v/\k'≠k)->(∀u,fH es k u->es'.size+1=es.size)->Mod (λb=>b=r) H H'->H'.size=H.size->K (.tuple #[]) H'):bt jG P (Mk #[t,t2] ty #[.map (some r),k]) H K:=by
 intro w hw
 subst hw
 have hb:=hm.obj
 have hck:∀(e:Bool) (w:World),(PM e 10000 kt k).run P w=.ok () w:=λe w=>run_checkKey hd hk e 9999
 rcases findNow_spec hk es.toList 0 hm.keys with ⟨h1,h2⟩|⟨j,e,h1,h2,h3⟩
 ·obtain⟨m1,m2⟩:=hm.set hm.stamped hm.keys
  refine⟨.tuple #[],{w with heap:=w.heap.setIfInBounds r (.map es clk)},?_,⟨.tuple #[],rfl,hK _ _ m1 (λk' v=>⟨λ⟨e,he,q1,q2⟩=>⟨⟨e,he,q1,q2⟩,by rw[<-q1];exact h2 e he⟩,λh=>h.1⟩) (λu ⟨e,he,q1,_⟩=>absurd q1 (h2 e he)) m2 (by simp)⟩,(.of_le rfl (KN _))⟩
  simp[Mk,run_underlying ht,Mh hb,hck,run_findKey hd h1,MX _ hb,Mr]
 ·have hj:j<es.toList.length:=(KI.1 h2).1
  have hj':j<es.size:=by simpa using hj
  have et':(es.eraseIdxIfInBounds j).toList=es.toList.eraseIdx j:=by
   unfold N4
   rw[dif_pos hj'];simp
  have hsub:∀x∈(es.eraseIdxIfInBounds j).toList,x∈es.toList:=by
   intro x hx;rw[et'] at hx;exact List.mem_of_mem_eraseIdx hx
  obtain⟨m1,m2⟩:=hm.set (stamped_erase hm.stamped j) (λx hx=>hm.keys x (hsub x hx))
  refine⟨.tuple #[],{w with heap:=w.heap.setIfInBounds r (.map (es.eraseIdxIfInBounds j) clk)},?_,⟨.tuple #[],rfl,hK _ _ m1 (λk' v=>?_) (λ_ _=>by unfold N4;rw[dif_pos hj'];simp;omega) m2 (by simp)⟩,(.of_le rfl (KN _))⟩
  ·simp[Mk,run_underlying ht,Mh hb,hck,run_findKey hd h1,MX _ hb,Mr]
  ·have hnd:=hm.stamped.2.2
   have huniq:∀i x,es.toList[i]?=some x->x.key=k->i=j:=by
    intro i x hx hxk
    have hi:i<es.toList.length:=(KI.1 hx).1
    have e1:(es.toList.map (·.key))[i]?=(es.toList.map (·.key))[j]?:=by
     rw[Le,Le,hx,h2];simp[hxk,h3]
    exact(List.getElem?_inj (by simpa using hi) hnd).1 e1
   constructor
   ·rintro⟨x,hx,q1,q2⟩
    rw[et',MY] at hx
    obtain⟨i,hij,hxi⟩:=hx
    refine⟨⟨x,KH hxi,q1,q2⟩,λhkk=>hij (huniq i x hxi (by rw[q1];exact hkk))⟩
   ·rintro⟨⟨x,hx,q1,q2⟩,hne⟩
    refine⟨x,?_,q1,q2⟩
    rw[et',MY]
    obtain⟨i,hxi⟩:=List.mem_iff_getElem?.1 hx
    refine⟨i,λhij=>?_,hxi⟩
    subst hij
    rw[h2] at hxi
    cases hxi
    exact hne (by rw[<-q1];exact h3)
theorem oM {K:Option Addr->Heap->Prop}(ht:P.underlying t=some (.map kt et))(hm:cd d H r es clk)
  (hK:∀H',H'[H.size]?=some (.mapIter (some r) clk #[] clk)->Ext H H'->K (some ⟨H.size,0,none⟩) H'):bt ar P (Mv t (.map (some r))) H K:=by
 intro w hw
 subst hw
 have hb:=hm.obj
 refine⟨.pointer (some ⟨w.heap.size,0,none⟩),{w with heap:=w.heap.push (.mapIter (some r) clk #[] clk)},?_,⟨some ⟨w.heap.size,0,none⟩,rfl,hK _ (by simp) (Mod.push _ _ _)⟩,(.of_le rfl (KN _))⟩
 simp[Mv,run_underlying ht,Mh hb,Mr,newObj,L4]
theorem AL {it:Nat}{seen:Array Nat}{e:MapEntry}{K:Value×Value->Heap->Prop}(hm:cd d H r es clk)(hit:H[it]?=some (.mapIter (some r) clk (seen.push e.born) clk))(he:e∈es.toList)
  (hK:K (e.key,e.val) H):bt nh P (L8 (.pointer (some ⟨it,0,none⟩))) H K:=by
 intro w hw
 subst hw
 have hb:=hm.obj
 have hfind:es.find? (λx=>x.born==e.born)=some e:=by
  rw[<-Array.find?_toList]
  have key:∀l:List MapEntry,(l.map (·.born)).Nodup->e∈l->l.find? (λx=>x.born==e.born)=some e:=by
   intro l
   induction l with
   |nil=>intro _ h;cases h
   |cons x l ih=>
     intro hnd he
     rw[List.map_cons,List.nodup_cons] at hnd
     rw[List.find?_cons]
     rcases List.mem_cons.1 he with q|q
     ·subst q;simp
     ·have hne:x.born≠e.born:=λh=>hnd.1 (by rw[h];exact List.mem_map_of_mem q)
      have:(x.born==e.born)=false:=by simpa using hne
      rw[this]
      exact ih hnd.2 q
  exact key _ hm.stamped.2.1 he
 refine⟨.tuple #[e.key,e.val],w,?_,⟨(e.key,e.val),rfl,hK⟩,.refl w⟩
 simp[L8,getObj,L4,hit,hb,hfind]
theorem yA (es:Array MapEntry)(seen:Array Nat)(clk:Nat)(hclk:∀x∈es.toList,x.born<clk)(cand:Array (Option MapEntry))(hc:((if (Ll (λx:MapEntry=>decide (x.born<clk)) (Ll (λe:MapEntry=>!seen.contains e.born) es)).isEmpty=true then #[none] else #[])++
   Rs some (Ll (λx:MapEntry=>decide (x.born<clk)) (Ll (λe:MapEntry=>!seen.contains e.born) es)++Ll (λx:MapEntry=>decide (x.born>=clk)) (Ll (λe:MapEntry=>!seen.contains e.born) es)))=cand):
  0<cand.size/\∀(i:Nat) (x:Option MapEntry),cand[i]?=some x->(x=none/\∀e∈es.toList,seen.contains e.born=true)\/∃e,x=some e/\e∈es.toList/\seen.contains e.born=false:=by
 subst hc
 constructor
 ·split
  ·simp;omega
  ·rename_i h
   have:0<(Ll (λx:MapEntry=>decide (x.born<clk)) (Ll (λe:MapEntry=>!seen.contains e.born) es)).size:=by
    rw[Array.isEmpty_iff_size_eq_zero] at h;omega
   simp only[Array.size_append,Array.size_map]
   omega
 ·intro i x hx
  have hmem:=Array.mem_of_getElem? hx
  rw[P5] at hmem
  rcases hmem with hmem|hmem
  ·split at hmem
   ·rename_i h
    left
    refine⟨by simpa using hmem,λe he=>?_⟩
    cases hs:seen.contains e.born with
    |true=>rfl
    |false=>
      have hin:e∈Ll (λx:MapEntry=>decide (x.born<clk)) (Ll (λe:MapEntry=>!seen.contains e.born) es):=by
       rw[ML,ML]
       exact⟨⟨by simpa using he,by rw[hs];rfl⟩,by simpa using hclk e he⟩
      rw[Array.isEmpty_iff] at h
      rw[h] at hin
      simp at hin
   ·simp at hmem
  ·right
   rw[Array.mem_map] at hmem
   obtain⟨e,he,rfl⟩:=hmem
   rw[P5] at he
   have h2:e∈Ll (λe:MapEntry=>!seen.contains e.born) es:=by
    rcases he with he|he
    ·exact(ML.1 he).1
    ·exact(ML.1 he).1
   obtain⟨h3,h4⟩:=ML.1 h2
   exact⟨e,rfl,by simpa using h3,by simpa using h4⟩
theorem CF {it:Nat}{seen:Array Nat}{ty:TypeId}{K:Bool×List Value->Heap->Prop}(hm:cd d H r es clk)(hit:H[it]?=some (.mapIter (some r) clk seen clk))
  (hstep:∀e∈es.toList,seen.contains e.born=false->∀H',H'[it]?=some (.mapIter (some r) clk (seen.push e.born) clk)->Mod (λb=>b=it) H H'->H'.size=H.size->K (true,[e.key,e.val]) H')
  (hover:(∀e∈es.toList,seen.contains e.born=true)->K (false,[]) H):bt fR P (Mo (.pointer (some ⟨it,0,none⟩)) false ty) H K:=by
 refine pC ?_
 have hlt:it<H.size:=(KO.1 hit).1
 have hb:=hm.obj
 unfold Mo
 refine gv _ _ ⟨_,hit,rfl,?_⟩
 refine gv _ _ ⟨_,hb,rfl,?_⟩
 have hlast:(!seen.isEmpty&&!es.isEmpty&&es.all (λx=>decide (x.born>=clk)))=false:=by
  cases hes:es.toList with
  | nil => have : es.isEmpty = true := by simp [Array.isEmpty, ← Array.length_toList, hes]
           rw[this];simp
  |cons x l=>
    have hx:x∈es.toList:=by rw[hes];exact List.mem_cons_self
    have h1:=hm.stamped.1 x hx
    have:es.all (λx=>decide (x.born>=clk))=false:=by
     rw[<-Array.all_toList,List.all_eq_false]
     exact⟨x,hx,by simp;omega⟩
    rw[this];simp
 simp only[hlast,wpS]
 rw[if_neg (by simp)]
 generalize hc:((if (Ll (λx:MapEntry=>decide (x.born<clk)) (Ll (λe:MapEntry=>!seen.contains e.born) es)).isEmpty=true then #[none] else #[])++
   Rs some (Ll (λx:MapEntry=>decide (x.born<clk)) (Ll (λe:MapEntry=>!seen.contains e.born) es)++Ll (λx:MapEntry=>decide (x.born>=clk)) (Ll (λe:MapEntry=>!seen.contains e.born) es)))=cand
 obtain⟨hsz,hx⟩:=yA es seen clk hm.stamped.1 cand hc
 have fin:∀i,i<cand.size->wpS P (match cand[i]? with
   |some (some e)=>do
     setObj it (Obj.mapIter (some r) clk (seen.push e.born) clk)
     pure (Qy #[PZ true,e.key,e.val])
   |some none=>pure (Qy #[PZ false])
   |none=>stuck "Next: no such candidate") H (λv H'=>∃x:fR.α,v=fR.enc x/\K x H'):=by
  intro i hi
  have hci:cand[i]?=some cand[i]:=Array.getElem?_eq_getElem hi
  rcases hx i _ hci with ⟨h1,h2⟩|⟨e,h1,h2,h3⟩
  ·rw[hci,h1]
   exact⟨(false,[]),rfl,hover h2⟩
  ·rw[hci,h1]
   refine gv _ _ ⟨⟨_,hit,rfl⟩,⟨(true,[e.key,e.val]),rfl,hstep e h2 h3 _ (by simp[hlt]) ⟨by simp,λb _ hn=>LW (λe=>hn e.symm)⟩ (by simp)⟩⟩
 refine gv _ _ ?_
 unfold choose
 simp only[wpS]
 split
 ·exact fin 0 hsz
 ·exact λt=>fin _ (Nat.mod_lt _ hsz)
end
end Go.Proofs.YtdpdmbceakdlmaaGreatDoor
