/-
 Ground, ninth text: maps.
-/
import Derived.Test.YtmkbhnholcaghaaGreatDoorFxg
import Derived.ProofKit
open Array renaming getElem?_eq_some_iff->Ow,filter->O9,getElem?_setIfInBounds_ne->PL,mem_filter->QN,eraseIdxIfInBounds->SG,mem_append->Uq,map->VR
open Go.Builtin renaming delete_->PV
open Go.Instr renaming lookup->PM,entry->P5,next->Qi,range->Qn,mapUpdate->Qt,checkKey->Ug,findKey->Up
open Go.MapKept renaming run_getObj_map->Qd,run_setObj_map->QR
open Go.Result renaming andThen->Qm
open Go.Sem renaming run->PY
open Go.Value renaming bool->Ul,tuple->UQ
open List renaming getElem?_eq_some_iff->Om,mem_of_getElem?->Oo,getElem?_map->Oy,mem_eraseIdx_iff_getElem?->QS
open Nat renaming le_refl->Ot
namespace Go.Proofs.YtmkbhnholcaghaaGreatDoor
open Go.MapKept
structure cc (d:TypeDesc)(H:aa)(r:Nat)(es:Array MapEntry)(clk:Nat):Prop where
 obj:H[r]?=some (.map es clk)
 stamped:Stamped es clk
 keys:∀x∈es.toList,IsKey d x.key
def eU (es:Array MapEntry)(k v:Value):Prop:=∃e∈es.toList,e.key=k/\e.val=v
theorem cc.lt {d:TypeDesc}{H:aa}{r:Nat}{es:Array MapEntry}{clk:Nat}(h:cc d H r es clk):r<H.size:=(Ow.1 h.obj).1
theorem cc.mod {d:TypeDesc}{F:Nat->Prop}{H H':aa}{r:Nat}{es:Array MapEntry}{clk:Nat}(h:cc d H r es clk)(hm:Mod F H H')(a:¬F r):cc d H' r es clk:=
 ⟨(hm.same r h.lt a).trans h.obj,h.stamped,h.keys⟩
theorem cc.new (d:TypeDesc)(H:aa):cc d (H.push (.map #[] 0)) H.size #[] 0:=⟨by simp,stamped_empty 0,by simp⟩
section
variable {P:Program}{t kt et:TypeId}{d:TypeDesc}{H:aa}{r:Nat}{es:Array MapEntry}{clk:Nat}{k:Value}
theorem sW {z:Value}{inf:TypeInfo}(o:P.underlying t=some (.map kt et))(hd:P.underlying kt=some d)(hi:P.info? et=some inf)(p:inf.zero=some z)(hm:cc d H r es clk)(hk:IsKey d k){c:eM}{K:c.α->Prop}
  (a:∀v,eU es k v->∃x:c.α,c.enc x=.tuple #[v,.bool true]/\K x) (b:(∀v,¬eU es k v)->∃x:c.α,c.enc x=.tuple #[z,.bool false]/\K x):
  DK c P (PM t (.map (some r)) k true) H K:=by
 have f:∀(e:Bool) (w:World),(Ug e 10000 kt k).run P w=.ok () w:=λe w=>run_checkKey hd hk e 9999;rcases findNow_spec hk es.toList 0 hm.keys with ⟨h1,g⟩|⟨j,e,h1,g,q⟩
 ·obtain⟨x,h,i⟩:=b (λv ⟨e,he,l,_⟩=>g e he l);refine⟨x,λw hw=>?_,i⟩;subst hw;have m:(Up kt k es.toList).run P w=.ok none w:=run_findKey hd h1;have n:=hm.obj;rw[h];simp[PM,run_underlying o,getObj,PY,n,f,m,zeroValue,typeInfo,hi,p]
 ·obtain⟨x,h,i⟩:=a e.val ⟨e,Oo g,q,rfl⟩;refine⟨x,λw hw=>?_,i⟩;subst hw;have m:(Up kt k es.toList).run P w=.ok (some (0+j,e.val)) w:=run_findKey hd h1;have n:=hm.obj;rw[h];simp[PM,run_underlying o,getObj,PY,n,f,m]
theorem cc.set {H:aa}{es c:Array MapEntry}{clk a:Nat}(h:cc d H r es clk)(hs:Stamped c a)(hk:∀x∈c.toList,IsKey d x.key):
  cc d (H.setIfInBounds r (.map c a)) r c a/\Mod (λb=>b=r) H (H.setIfInBounds r (.map c a)):=
 ⟨⟨by simp[h.lt],hs,hk⟩,⟨by simp,λb _ f=>PL (λe=>f e.symm)⟩⟩
theorem nM {v:Value}{K:aa->Prop}(h:P.underlying t=some (.map kt et))(hd:P.underlying kt=some d)(hm:cc d H r es clk)(hk:IsKey d k)(c:∀u,¬eU es k u)
  (i:∀H',cc d H' r (es.push {key:=k,val:=v,born:=clk}) (clk+1)->Mod (λb=>b=r) H H'->H'.size=H.size->K H'):jo P (Qt t (.map (some r)) k v) H K:=by
 intro w hw;subst hw;have g:=hm.obj;rcases findNow_spec hk es.toList 0 hm.keys with ⟨h1,f⟩|⟨j,e,h1,f,l⟩
 ·obtain⟨m1,m2⟩:=hm.set (stamped_push (val:=v) hm.stamped f) (by
   intro x a;simp only[Array.toList_push,List.mem_append,List.mem_singleton] at a;rcases a with a|rfl
   ·exact hm.keys x a
   ·exact hk)
  refine⟨(),{w with heap:=w.heap.setIfInBounds r (.map (es.push {key:=k,val:=v,born:=clk}) (clk+1))},?_,i _ m1 m2 (by simp),(.of_le rfl (Ot _))⟩;simp[Qt,run_underlying h,Qd g,run_checkKey hd hk,run_findKey hd h1,QR _ g,Qm]
 ·exact absurd ⟨e,Oo f,l,rfl⟩ (c e.val)
theorem tt {ty:TypeId}{K:Value->aa->Prop}(F:P.underlying t=some (.map kt et))(hd:P.underlying kt=some d)(hm:cc d H r es clk)(hk:IsKey d k){t2:TypeId}
  (G:∀g H',cc d H' r g clk->(∀p v,eU g p v↔eU es p v/\p≠k)->(∀u,eU es k u->g.size+1=es.size)->Mod (λb=>b=r) H H'->H'.size=H.size->K (.tuple #[]) H'):bf gn P (PV #[t,t2] ty #[.map (some r),k]) H K:=by
 intro w hw;subst hw;have A:=hm.obj;have q:∀(e:Bool) (w:World),(Ug e 10000 kt k).run P w=.ok () w:=λe w=>run_checkKey hd hk e 9999;rcases findNow_spec hk es.toList 0 hm.keys with ⟨h1,o⟩|⟨j,e,h1,o,I⟩
 ·obtain⟨m1,m2⟩:=hm.set hm.stamped hm.keys;refine⟨.tuple #[],{w with heap:=w.heap.setIfInBounds r (.map es clk)},?_,⟨.tuple #[],rfl,G _ _ m1 (λp v=>⟨λ⟨e,he,f,s⟩=>⟨⟨e,he,f,s⟩,by rw[<-f];exact o e he⟩,λh=>h.1⟩) (λu ⟨e,he,f,_⟩=>absurd f (o e he)) m2 (by simp)⟩,(.of_le rfl (Ot _))⟩;simp[PV,run_underlying F,Qd A,q,run_findKey hd h1,QR _ A,Qm]
 ·have J:j<es.toList.length:=(Om.1 o).1;have y:j<es.size:=by simpa using J
  have l:(es.eraseIdxIfInBounds j).toList=es.toList.eraseIdx j:=by
   unfold SG;rw[dif_pos y];simp
  have z:∀x∈(es.eraseIdxIfInBounds j).toList,x∈es.toList:=by
   intro x c;rw[l] at c;exact List.mem_of_mem_eraseIdx c
  obtain⟨m1,m2⟩:=hm.set (stamped_erase hm.stamped j) (λx c=>hm.keys x (z x c));refine⟨.tuple #[],{w with heap:=w.heap.setIfInBounds r (.map (es.eraseIdxIfInBounds j) clk)},?_,⟨.tuple #[],rfl,G _ _ m1 (λp v=>?_) (λ_ _=>by unfold SG;rw[dif_pos y];simp;omega) m2 (by simp)⟩,(.of_le rfl (Ot _))⟩
  ·simp[PV,run_underlying F,Qd A,q,run_findKey hd h1,QR _ A,Qm]
  ·have B:=hm.stamped.2.2;have m:∀i x,es.toList[i]?=some x->x.key=k->i=j:=by
    intro i x c C;have hi:i<es.toList.length:=(Om.1 c).1;have L:(es.toList.map (·.key))[i]?=(es.toList.map (·.key))[j]?:=by
     rw[Oy,Oy,c,o];simp[C,I]
    exact(List.getElem?_inj (by simpa using hi) B).1 L
   constructor
   ·rintro⟨x,c,f,s⟩;rw[l,QS] at c;obtain⟨i,n,a⟩:=c;refine⟨⟨x,Oo a,f,s⟩,λD=>n (m i x a (by rw[f];exact D))⟩
   ·rintro⟨⟨x,c,f,s⟩,E⟩;refine⟨x,?_,f,s⟩;rw[l,QS];obtain⟨i,a⟩:=List.mem_iff_getElem?.1 c;refine⟨i,λn=>?_,a⟩;subst n;rw[o] at a;cases a;exact E (by rw[<-f];exact I)
theorem pJ {K:Option Addr->aa->Prop}(a:P.underlying t=some (.map kt et))(hm:cc d H r es clk)
  (b:∀H',H'[H.size]?=some (.mapIter (some r) clk #[] clk)->Ext H H'->K (some ⟨H.size,0,none⟩) H'):bf aw P (Qn t (.map (some r))) H K:=by
 intro w hw;subst hw;have c:=hm.obj;refine⟨.pointer (some ⟨w.heap.size,0,none⟩),{w with heap:=w.heap.push (.mapIter (some r) clk #[] clk)},?_,⟨some ⟨w.heap.size,0,none⟩,rfl,b _ (by simp) (Mod.push _ _ _)⟩,(.of_le rfl (Ot _))⟩;simp[Qn,run_underlying a,Qd c,Qm,newObj,PY]
theorem Ds {it:Nat}{seen:Array Nat}{e:MapEntry}{K:Value×Value->aa->Prop}(hm:cc d H r es clk)(c:H[it]?=some (.mapIter (some r) clk (seen.push e.born) clk))(he:e∈es.toList)
  (g:K (e.key,e.val) H):bf oM P (P5 (.pointer (some ⟨it,0,none⟩))) H K:=by
 intro w hw;subst hw;have i:=hm.obj;have a:es.find? (λx=>x.born==e.born)=some e:=by
  rw[<-Array.find?_toList];have key:∀l:List MapEntry,(l.map (·.born)).Nodup->e∈l->l.find? (λx=>x.born==e.born)=some e:=by
   intro l
   induction l with
   |nil=>intro _ h;cases h
   |cons x l j=>
     intro b he;rw[List.map_cons,List.nodup_cons] at b;rw[List.find?_cons];rcases List.mem_cons.1 he with q|q
     ·subst q;simp
     ·have f:x.born≠e.born:=λh=>b.1 (by rw[h];exact List.mem_map_of_mem q);have:(x.born==e.born)=false:=by simpa using f
      rw[this];exact j b.2 q
  exact key _ hm.stamped.2.1 he
 refine⟨.tuple #[e.key,e.val],w,?_,⟨(e.key,e.val),rfl,g⟩,.refl w⟩;simp[P5,getObj,PY,c,i,a]
theorem zU (es:Array MapEntry)(seen:Array Nat)(clk:Nat)(c:∀x∈es.toList,x.born<clk)(b:Array (Option MapEntry))(g:((if (O9 (λx:MapEntry=>decide (x.born<clk)) (O9 (λe:MapEntry=>!seen.contains e.born) es)).isEmpty=true then #[none] else #[])++
   VR some (O9 (λx:MapEntry=>decide (x.born<clk)) (O9 (λe:MapEntry=>!seen.contains e.born) es)++O9 (λx:MapEntry=>decide (x.born>=clk)) (O9 (λe:MapEntry=>!seen.contains e.born) es)))=b):
  0<b.size/\∀(i:Nat) (x:Option MapEntry),b[i]?=some x->(x=none/\∀e∈es.toList,seen.contains e.born=true)\/∃e,x=some e/\e∈es.toList/\seen.contains e.born=false:=by
 subst g;constructor
 ·split
  ·simp;omega
  ·rename_i h;have:0<(O9 (λx:MapEntry=>decide (x.born<clk)) (O9 (λe:MapEntry=>!seen.contains e.born) es)).size:=by
    rw[Array.isEmpty_iff_size_eq_zero] at h;omega
   simp only[Array.size_append,Array.size_map];omega
 ·intro i x j;have a:=Array.mem_of_getElem? j;rw[Uq] at a;rcases a with a|a
  ·split at a
   ·rename_i h;left;refine⟨by simpa using a,λe he=>?_⟩;cases hs:seen.contains e.born with
    |true=>rfl
    |false=>
      have f:e∈O9 (λx:MapEntry=>decide (x.born<clk)) (O9 (λe:MapEntry=>!seen.contains e.born) es):=by
       rw[QN,QN];exact⟨⟨by simpa using he,by rw[hs];rfl⟩,by simpa using c e he⟩
      rw[Array.isEmpty_iff] at h;rw[h] at f;simp at f
   ·simp at a
  ·right;rw[Array.mem_map] at a;obtain⟨e,he,rfl⟩:=a;rw[Uq] at he;have l:e∈O9 (λe:MapEntry=>!seen.contains e.born) es:=by
    rcases he with he|he
    ·exact(QN.1 he).1
    ·exact(QN.1 he).1
   obtain⟨m,n⟩:=QN.1 l;exact⟨e,rfl,by simpa using m,by simpa using n⟩
theorem Ex {it:Nat}{seen:Array Nat}{ty:TypeId}{K:Bool×List Value->aa->Prop}(hm:cc d H r es clk)(hit:H[it]?=some (.mapIter (some r) clk seen clk))
  (hstep:∀e∈es.toList,seen.contains e.born=false->∀H',H'[it]?=some (.mapIter (some r) clk (seen.push e.born) clk)->Mod (λb=>b=it) H H'->H'.size=H.size->K (true,[e.key,e.val]) H')
  (hover:(∀e∈es.toList,seen.contains e.born=true)->K (false,[]) H):bf gd P (Qi (.pointer (some ⟨it,0,none⟩)) false ty) H K:=by
 refine qM ?_;have hlt:it<H.size:=(Ow.1 hit).1;have hb:=hm.obj;unfold Qi;refine gP _ _ ⟨_,hit,rfl,?_⟩;refine gP _ _ ⟨_,hb,rfl,?_⟩;have hlast:(!seen.isEmpty&&!es.isEmpty&&es.all (λx=>decide (x.born>=clk)))=false:=by
  cases hes:es.toList with
  | nil => have : es.isEmpty = true := by simp [Array.isEmpty, ← Array.length_toList, hes]
           rw[this];simp
  |cons x l=>
    have hx:x∈es.toList:=by rw[hes];exact List.mem_cons_self
    have h1:=hm.stamped.1 x hx;have:es.all (λx=>decide (x.born>=clk))=false:=by
     rw[<-Array.all_toList,List.all_eq_false];exact⟨x,hx,by simp;omega⟩
    rw[this];simp
 simp only[hlast,wpS];rw[if_neg (by simp)];generalize hc:((if (O9 (λx:MapEntry=>decide (x.born<clk)) (O9 (λe:MapEntry=>!seen.contains e.born) es)).isEmpty=true then #[none] else #[])++
   VR some (O9 (λx:MapEntry=>decide (x.born<clk)) (O9 (λe:MapEntry=>!seen.contains e.born) es)++O9 (λx:MapEntry=>decide (x.born>=clk)) (O9 (λe:MapEntry=>!seen.contains e.born) es)))=cand
 obtain⟨hsz,hx⟩:=zU es seen clk hm.stamped.1 cand hc;have fin:∀i,i<cand.size->wpS P (match cand[i]? with
   |some (some e)=>do
     setObj it (Obj.mapIter (some r) clk (seen.push e.born) clk)
     pure (UQ #[Ul true,e.key,e.val])
   |some none=>pure (UQ #[Ul false])
   |none=>stuck "Next: no such candidate") H (λv H'=>∃x:gd.α,v=gd.enc x/\K x H'):=by
  intro i hi;have hci:cand[i]?=some cand[i]:=Array.getElem?_eq_getElem hi;rcases hx i _ hci with ⟨h1,h2⟩|⟨e,h1,h2,h3⟩
  ·rw[hci,h1];exact⟨(false,[]),rfl,hover h2⟩
  ·rw[hci,h1];refine gP _ _ ⟨⟨_,hit,rfl⟩,⟨(true,[e.key,e.val]),rfl,hstep e h2 h3 _ (by simp[hlt]) ⟨by simp,λb _ hn=>PL (λe=>hn e.symm)⟩ (by simp)⟩⟩
 refine gP _ _ ?_;unfold choose;simp only[wpS];split
 ·exact fin 0 hsz
 ·exact λt=>fin _ (Nat.mod_lt _ hsz)
end
end Go.Proofs.YtmkbhnholcaghaaGreatDoor
