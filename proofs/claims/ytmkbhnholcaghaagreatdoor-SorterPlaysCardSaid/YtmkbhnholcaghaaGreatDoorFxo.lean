/-
 Ground, fourteenth text: maps whose keys are structs (or whatever has the kit's law on keys). The proofs are those of the ninth and the twelfth text.
-/
import Derived.Test.YtmkbhnholcaghaaGreatDoorFxm
import Derived.DeepKeys5
open Array renaming getElem?_eq_some_iff->Of,filter->OU,getElem?_setIfInBounds_ne->Pw,mem_filter->Qz,eraseIdxIfInBounds->Sk,mem_append->Uc,map->VD
open Go.Builtin renaming delete_->PF
open Go.Instr renaming lookup->Px,entry->PM,next->P5,range->P9,mapUpdate->Qe,checkKey->TY,findKey->Ub
open Go.MapKept renaming run_getObj_map->PX,run_setObj_map->QE
open Go.Result renaming andThen->P8
open Go.Sem renaming run->PJ
open Go.Value renaming bool->T7,tuple->UA
open Go.WideMaps renaming KeyLaw->S9
open List renaming getElem?_eq_some_iff->N7,mem_of_getElem?->N9,mem_append->Oe,mem_iff_getElem?->Oh,getElem?_map->Oi,nodup_append->PU,mem_eraseIdx_iff_getElem?->QF,getElem?_inj->Sc
open List.Nodup renaming length_le_of_subset->QG
open Nat renaming le_refl->Ob
namespace Go.Proofs.YtmkbhnholcaghaaGreatDoor
open Go.MapKept
def vF (P:Program)(kt:TypeId)(v:Value):Prop:=∃l,Go.keyOf P kt v=some l
structure iT (P:Program)(kt:TypeId)(H:aa)(r:Nat)(es:Array MapEntry)(clk:Nat):Prop where
 obj:H[r]?=some (.map es clk)
 stamped:Stamped es clk
 keys:∀x∈es.toList,vF P kt x.key
theorem iT.lt {P:Program}{kt:TypeId}{H:aa}{r:Nat}{es:Array MapEntry}{clk:Nat}(h:iT P kt H r es clk):r<H.size:=(Of.1 h.obj).1
theorem iT.mod {P:Program}{kt:TypeId}{F:Nat->Prop}{H H':aa}{r:Nat}{es:Array MapEntry}{clk:Nat}(h:iT P kt H r es clk)(hm:Mod F H H')(a:¬F r):iT P kt H' r es clk:=
 ⟨(hm.same r h.lt a).trans h.obj,h.stamped,h.keys⟩
theorem iT.find {P:Program}{kt:TypeId}{H:aa}{r:Nat}{es:Array MapEntry}{clk:Nat}{k:Value}(hm:iT P kt H r es clk)(i:S9 P kt)(hk:vF P kt k):
  ((∀w:World,(Ub kt k es.toList).run P w=.ok none w)/\∀e∈es.toList,e.key≠k)\/∃j e,(∀w:World,(Ub kt k es.toList).run P w=.ok (some (j,e.val)) w)/\es.toList[j]?=some e/\e.key=k:=by
 obtain⟨l,hl⟩:=hk;by_cases hex:∃e∈es.toList,e.key=k
 ·obtain⟨e,he,a⟩:=hex;obtain⟨j,c⟩:=Oh.1 he;refine .inr ⟨j,e,λw=>?_,c,a⟩;rcases i.find w hl es.toList hm.keys with ⟨_,b⟩|⟨d,m,h1,b,f⟩
  ·exact absurd a (b e he)
  ·have g:=(N7.1 c).1;have n:(es.toList.map (·.key))[j]?=(es.toList.map (·.key))[d]?:=by
    rw[Oi,Oi,c,b];simp[a,f]
   have:j=d:=(Sc (by simpa using g) hm.stamped.2.2).1 n;subst this;rw[c] at b;cases b;exact h1
 ·refine .inl ⟨λw=>?_,λe he h=>hex ⟨e,he,h⟩⟩;rcases i.find w hl es.toList hm.keys with ⟨h1,_⟩|⟨d,m,h1,b,f⟩
  ·exact h1
  ·exact absurd ⟨m,N9 b,f⟩ hex
section
variable {P:Program}{t kt et:TypeId}{H:aa}{r:Nat}{es:Array MapEntry}{clk:Nat}{k:Value}
theorem xA {z:Value}{inf:TypeInfo}(n:P.underlying t=some (.map kt et))(o:S9 P kt)(hi:P.info? et=some inf)(p:inf.zero=some z)(hm:iT P kt H r es clk)(hk:vF P kt k){c:eO}{K:c.α->Prop}
  (a:∀v,eT es k v->∃x:c.α,c.enc x=.tuple #[v,.bool true]/\K x) (b:(∀v,¬eT es k v)->∃x:c.α,c.enc x=.tuple #[z,.bool false]/\K x):
  Dw c P (Px t (.map (some r)) k true) H K:=by
 have d:∀(e:Bool) (w:World),(TY e 10000 kt k).run P w=.ok () w:=λe w=>o.check w e hk.choose_spec;rcases hm.find o hk with ⟨h1,f⟩|⟨j,e,h1,f,q⟩
 ·obtain⟨x,g,h⟩:=b (λv ⟨e,he,i,_⟩=>f e he i);refine⟨x,λw hw=>?_,h⟩;subst hw;have l:=h1 w;have m:=hm.obj;rw[g];simp[Px,run_underlying n,getObj,PJ,m,d,l,zeroValue,typeInfo,hi,p]
 ·obtain⟨x,g,h⟩:=a e.val ⟨e,N9 f,q,rfl⟩;refine⟨x,λw hw=>?_,h⟩;subst hw;have l:=h1 w;have m:=hm.obj;rw[g];simp[Px,run_underlying n,getObj,PJ,m,d,l]
theorem iT.set {H:aa}{es c:Array MapEntry}{clk a:Nat}(h:iT P kt H r es clk)(hs:Stamped c a)(hk:∀x∈c.toList,vF P kt x.key):
  iT P kt (H.setIfInBounds r (.map c a)) r c a/\Mod (λb=>b=r) H (H.setIfInBounds r (.map c a)):=
 ⟨⟨by simp[h.lt],hs,hk⟩,⟨by simp,λb _ d=>Pw (λe=>d e.symm)⟩⟩
theorem xl {v:Value}{K:aa->Prop}(h:P.underlying t=some (.map kt et))(f:S9 P kt)(hm:iT P kt H r es clk)(hk:vF P kt k)(c:∀u,¬eT es k u)
  (i:∀H',iT P kt H' r (es.push {key:=k,val:=v,born:=clk}) (clk+1)->Mod (λb=>b=r) H H'->H'.size=H.size->K H'):jk P (Qe t (.map (some r)) k v) H K:=by
 intro w hw;subst hw;have g:=hm.obj;rcases hm.find f hk with ⟨h1,d⟩|⟨j,e,h1,d,l⟩
 ·obtain⟨m1,m2⟩:=hm.set (stamped_push (val:=v) hm.stamped d) (by
   intro x a;simp only[Array.toList_push,Oe,List.mem_singleton] at a;rcases a with a|rfl
   ·exact hm.keys x a
   ·exact hk)
  refine⟨(),{w with heap:=w.heap.setIfInBounds r (.map (es.push {key:=k,val:=v,born:=clk}) (clk+1))},?_,i _ m1 m2 (by simp),(.of_le rfl (Ob _))⟩;simp[Qe,run_underlying h,PX g,f.check _ _ hk.choose_spec,h1 _,QE _ g,P8]
 ·exact absurd ⟨e,N9 d,l,rfl⟩ (c e.val)
theorem wY {ty:TypeId}{K:Value->aa->Prop}(E:P.underlying t=some (.map kt et))(F:S9 P kt)(hm:iT P kt H r es clk)(hk:vF P kt k){t2:TypeId}
  (G:∀f H',iT P kt H' r f clk->(∀o v,eT f o v↔eT es o v/\o≠k)->(∀u,eT es k u->f.size+1=es.size)->Mod (λb=>b=r) H H'->H'.size=H.size->K (.tuple #[]) H'):ba gi P (PF #[t,t2] ty #[.map (some r),k]) H K:=by
 intro w hw;subst hw;have z:=hm.obj;have p:∀(e:Bool) (w:World),(TY e 10000 kt k).run P w=.ok () w:=λe w=>F.check w e hk.choose_spec;rcases hm.find F hk with ⟨h1,n⟩|⟨j,e,h1,n,I⟩
 ·obtain⟨m1,m2⟩:=hm.set hm.stamped hm.keys;refine⟨.tuple #[],{w with heap:=w.heap.setIfInBounds r (.map es clk)},?_,⟨.tuple #[],rfl,G _ _ m1 (λo v=>⟨λ⟨e,he,d,q⟩=>⟨⟨e,he,d,q⟩,by rw[<-d];exact n e he⟩,λh=>h.1⟩) (λu ⟨e,he,d,_⟩=>absurd d (n e he)) m2 (by simp)⟩,(.of_le rfl (Ob _))⟩;simp[PF,run_underlying E,PX z,p,h1 _,QE _ z,P8]
 ·have J:j<es.toList.length:=(N7.1 n).1;have s:j<es.size:=by simpa using J
  have g:(es.eraseIdxIfInBounds j).toList=es.toList.eraseIdx j:=by
   unfold Sk;rw[dif_pos s];simp
  have y:∀x∈(es.eraseIdxIfInBounds j).toList,x∈es.toList:=by
   intro x c;rw[g] at c;exact List.mem_of_mem_eraseIdx c
  obtain⟨m1,m2⟩:=hm.set (stamped_erase hm.stamped j) (λx c=>hm.keys x (y x c));refine⟨.tuple #[],{w with heap:=w.heap.setIfInBounds r (.map (es.eraseIdxIfInBounds j) clk)},?_,⟨.tuple #[],rfl,G _ _ m1 (λo v=>?_) (λ_ _=>by unfold Sk;rw[dif_pos s];simp;omega) m2 (by simp)⟩,(.of_le rfl (Ob _))⟩
  ·simp[PF,run_underlying E,PX z,p,h1 _,QE _ z,P8]
  ·have A:=hm.stamped.2.2;have l:∀i x,es.toList[i]?=some x->x.key=k->i=j:=by
    intro i x c B;have hi:i<es.toList.length:=(N7.1 c).1;have L:(es.toList.map (·.key))[i]?=(es.toList.map (·.key))[j]?:=by
     rw[Oi,Oi,c,n];simp[B,I]
    exact(Sc (by simpa using hi) A).1 L
   constructor
   ·rintro⟨x,c,d,q⟩;rw[g,QF] at c;obtain⟨i,m,a⟩:=c;refine⟨⟨x,N9 a,d,q⟩,λC=>m (l i x a (by rw[d];exact C))⟩
   ·rintro⟨⟨x,c,d,q⟩,D⟩;refine⟨x,?_,d,q⟩;rw[g,QF];obtain⟨i,a⟩:=Oh.1 c;refine⟨i,λm=>?_,a⟩;subst m;rw[n] at a;cases a;exact D (by rw[<-d];exact I)
theorem nV {K:Option Addr->aa->Prop}(a:P.underlying t=some (.map kt et))(hm:iT P kt H r es clk)
  (b:∀H',H'[H.size]?=some (.mapIter (some r) clk #[] clk)->Ext H H'->K (some ⟨H.size,0,none⟩) H'):ba av P (P9 t (.map (some r))) H K:=by
 intro w hw;subst hw;have c:=hm.obj;refine⟨.pointer (some ⟨w.heap.size,0,none⟩),{w with heap:=w.heap.push (.mapIter (some r) clk #[] clk)},?_,⟨some ⟨w.heap.size,0,none⟩,rfl,b _ (by simp) (Mod.push _ _ _)⟩,(.of_le rfl (Ob _))⟩;simp[P9,run_underlying a,PX c,P8,newObj,PJ]
theorem zt {it:Nat}{seen:Array Nat}{e:MapEntry}{K:Value×Value->aa->Prop}(hm:iT P kt H r es clk)(c:H[it]?=some (.mapIter (some r) clk (seen.push e.born) clk))(he:e∈es.toList)
  (f:K (e.key,e.val) H):ba oH P (PM (.pointer (some ⟨it,0,none⟩))) H K:=by
 intro w hw;subst hw;have g:=hm.obj;have a:es.find? (λx=>x.born==e.born)=some e:=by
  rw[<-Array.find?_toList];have key:∀l:List MapEntry,(l.map (·.born)).Nodup->e∈l->l.find? (λx=>x.born==e.born)=some e:=by
   intro l
   induction l with
   |nil=>intro _ h;cases h
   |cons x l i=>
     intro b he;rw[List.map_cons,List.nodup_cons] at b;rw[List.find?_cons];rcases List.mem_cons.1 he with q|q
     ·subst q;simp
     ·have d:x.born≠e.born:=λh=>b.1 (by rw[h];exact List.mem_map_of_mem q);have:(x.born==e.born)=false:=by simpa using d
      rw[this];exact i b.2 q
  exact key _ hm.stamped.2.1 he
 refine⟨.tuple #[e.key,e.val],w,?_,⟨(e.key,e.val),rfl,f⟩,.refl w⟩;simp[PM,getObj,PJ,c,g,a]
theorem xK (es:Array MapEntry)(seen:Array Nat)(clk:Nat)(c:∀x∈es.toList,x.born<clk)(b:Array (Option MapEntry))(f:((if (OU (λx:MapEntry=>decide (x.born<clk)) (OU (λe:MapEntry=>!seen.contains e.born) es)).isEmpty=true then #[none] else #[])++
   VD some (OU (λx:MapEntry=>decide (x.born<clk)) (OU (λe:MapEntry=>!seen.contains e.born) es)++OU (λx:MapEntry=>decide (x.born>=clk)) (OU (λe:MapEntry=>!seen.contains e.born) es)))=b):
  0<b.size/\∀(i:Nat) (x:Option MapEntry),b[i]?=some x->(x=none/\∀e∈es.toList,seen.contains e.born=true)\/∃e,x=some e/\e∈es.toList/\seen.contains e.born=false:=by
 subst f;constructor
 ·split
  ·simp;omega
  ·rename_i h;have:0<(OU (λx:MapEntry=>decide (x.born<clk)) (OU (λe:MapEntry=>!seen.contains e.born) es)).size:=by
    rw[Array.isEmpty_iff_size_eq_zero] at h;omega
   simp only[Array.size_append,Array.size_map];omega
 ·intro i x g;have a:=Array.mem_of_getElem? g;rw[Uc] at a;rcases a with a|a
  ·split at a
   ·rename_i h;left;refine⟨by simpa using a,λe he=>?_⟩;cases hs:seen.contains e.born with
    |true=>rfl
    |false=>
      have d:e∈OU (λx:MapEntry=>decide (x.born<clk)) (OU (λe:MapEntry=>!seen.contains e.born) es):=by
       rw[Qz,Qz];exact⟨⟨by simpa using he,by rw[hs];rfl⟩,by simpa using c e he⟩
      rw[Array.isEmpty_iff] at h;rw[h] at d;simp at d
   ·simp at a
  ·right;rw[Array.mem_map] at a;obtain⟨e,he,rfl⟩:=a;rw[Uc] at he;have j:e∈OU (λe:MapEntry=>!seen.contains e.born) es:=by
    rcases he with he|he
    ·exact(Qz.1 he).1
    ·exact(Qz.1 he).1
   obtain⟨l,m⟩:=Qz.1 j;exact⟨e,rfl,by simpa using l,by simpa using m⟩
theorem CE {it:Nat}{seen:Array Nat}{ty:TypeId}{K:Bool×List Value->aa->Prop}(hm:iT P kt H r es clk)(hit:H[it]?=some (.mapIter (some r) clk seen clk))
  (hstep:∀e∈es.toList,seen.contains e.born=false->∀H',H'[it]?=some (.mapIter (some r) clk (seen.push e.born) clk)->Mod (λb=>b=it) H H'->H'.size=H.size->K (true,[e.key,e.val]) H')
  (hover:(∀e∈es.toList,seen.contains e.born=true)->K (false,[]) H):ba fW P (P5 (.pointer (some ⟨it,0,none⟩)) false ty) H K:=by
 refine qD ?_;have hlt:it<H.size:=(Of.1 hit).1;have hb:=hm.obj;unfold P5;refine gM _ _ ⟨_,hit,rfl,?_⟩;refine gM _ _ ⟨_,hb,rfl,?_⟩;have hlast:(!seen.isEmpty&&!es.isEmpty&&es.all (λx=>decide (x.born>=clk)))=false:=by
  cases hes:es.toList with
  | nil => have : es.isEmpty = true := by simp [Array.isEmpty, ← Array.length_toList, hes]
           rw[this];simp
  |cons x l=>
    have hx:x∈es.toList:=by rw[hes];exact List.mem_cons_self
    have h1:=hm.stamped.1 x hx;have:es.all (λx=>decide (x.born>=clk))=false:=by
     rw[<-Array.all_toList,List.all_eq_false];exact⟨x,hx,by simp;omega⟩
    rw[this];simp
 simp only[hlast,wpS];rw[if_neg (by simp)];generalize hc:((if (OU (λx:MapEntry=>decide (x.born<clk)) (OU (λe:MapEntry=>!seen.contains e.born) es)).isEmpty=true then #[none] else #[])++
   VD some (OU (λx:MapEntry=>decide (x.born<clk)) (OU (λe:MapEntry=>!seen.contains e.born) es)++OU (λx:MapEntry=>decide (x.born>=clk)) (OU (λe:MapEntry=>!seen.contains e.born) es)))=cand
 obtain⟨hsz,hx⟩:=xK es seen clk hm.stamped.1 cand hc;have fin:∀i,i<cand.size->wpS P (match cand[i]? with
   |some (some e)=>do
     setObj it (Obj.mapIter (some r) clk (seen.push e.born) clk)
     pure (UA #[T7 true,e.key,e.val])
   |some none=>pure (UA #[T7 false])
   |none=>stuck "Next: no such candidate") H (λv H'=>∃x:fW.α,v=fW.enc x/\K x H'):=by
  intro i hi;have hci:cand[i]?=some cand[i]:=Array.getElem?_eq_getElem hi;rcases hx i _ hci with ⟨h1,h2⟩|⟨e,h1,h2,h3⟩
  ·rw[hci,h1];exact⟨(false,[]),rfl,hover h2⟩
  ·rw[hci,h1];refine gM _ _ ⟨⟨_,hit,rfl⟩,⟨(true,[e.key,e.val]),rfl,hstep e h2 h3 _ (by simp[hlt]) ⟨by simp,λb _ hn=>Pw (λe=>hn e.symm)⟩ (by simp)⟩⟩
 refine gM _ _ ?_;unfold choose;simp only[wpS];split
 ·exact fin 0 hsz
 ·exact λt=>fin _ (Nat.mod_lt _ hsz)
end
theorem nY {P:Program}{kt:TypeId}{H:aa}{r:Nat}{es:Array MapEntry}{clk it:Nat}{α:Type}{x0:α}{ty:TypeId}
  {B:(α->aa->Prop)->α->(Value×Value)->aa->Prop} {E:α->aa->Prop} (I:List MapEntry->α->aa->Prop)
  (hm:iT P kt H r es clk) (F:H[it]?=some (.mapIter (some r) clk #[] clk)) (T:I [] x0 H)
  (G:∀l x A d,I l x A->Mod (λb=>b=it) A d->d.size=A.size->I l x d)
  (hs:∀l e x A next,I l x A->e∈es.toList->e∉l->(∀y∈l,y∈es.toList)->l.Nodup->A[r]?=some (.map es clk)->(∃o,A[it]?=some o)->
   (∀J d,I (l++[e]) J d->d[r]?=A[r]?->d[it]?=A[it]?->next J d)->B next x (e.key,e.val) A)
  (U:∀l x A,I l x A->l.Perm es.toList->A[r]?=some (.map es clk)->E x A):
  aw α x0 H (λnext x V=>ba fW P (P5 (.pointer (some ⟨it,0,none⟩)) false ty) V λ(W:Bool×List Value) Q=>
   br W.1 (ba oH P (PM (.pointer (some ⟨it,0,none⟩))) Q λ(X:Value×Value) Y=>B next x X Y) (E x Q)):=by
 have g:=hm.stamped;have K:=nt g;refine⟨List MapEntry,λl x A=>I l x A/\A[it]?=some (.mapIter (some r) clk (l.map (·.born)).toArray clk)/\A[r]?=some (.map es clk)/\l.Nodup/\(∀y∈l,y∈es.toList),λl=>es.size - l.length,⟨[],T,by simpa using F,hm.obj,List.nodup_nil,by simp⟩,?_⟩;rintro l x A ⟨R,hi,n,hl,c⟩;have p:iT P kt A r es clk:=⟨n,g,hm.keys⟩;have s:r≠it:=by intro e;rw[<-e,n] at hi;cases hi
 refine CE p hi ?_ ?_
 ·intro e he u d i f L;have j:e∉l:=λh=>by
   have:(l.map (·.born)).toArray.contains e.born=true:=by simp;exact⟨e,h,rfl⟩
   rw[this] at u;cases u
  have v:d[r]?=some (.map es clk):=(f.same r (aA n) s).trans n;refine zt (p.mod f s) i he ?_;refine hs l e x d _ (G l x A d R f L) he j c hl v ⟨_,i⟩ λJ Z w h1 h2=>⟨l++[e],⟨w,?_,by rw[h1];exact v,?_,?_⟩,?_⟩
  ·rw[h2,i];simp
  ·rw[PU];exact⟨hl,by simp,by intro a M b C;simp at C;subst C;intro e2;subst e2;exact j M⟩
  ·intro y m;rcases Oe.1 m with q|q
   ·exact c y q
   ·simp at q;subst q;exact he
  ·have N:(l++[e]).length<=es.toList.length:=by
    refine QG ?_ ?_
    ·rw[PU];exact⟨hl,by simp,by intro a M b C;simp at C;subst C;intro e2;subst e2;exact j M⟩
    ·intro y m;rcases Oe.1 m with q|q
     ·exact c y q
     ·simp at q;subst q;exact he
   simp at N ⊢;omega
 ·intro D;refine U l x A R ?_ n;rw[List.perm_ext_iff_of_nodup hl K];intro y;refine⟨c y,λm=>?_⟩;have h1:=D y m;simp at h1;obtain⟨z,S,O⟩:=h1;have:=oU g (c z S) m O;rw[<-this];exact S
end Go.Proofs.YtmkbhnholcaghaaGreatDoor
