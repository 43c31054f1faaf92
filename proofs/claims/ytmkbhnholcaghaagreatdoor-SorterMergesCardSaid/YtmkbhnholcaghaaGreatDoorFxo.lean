/-
 Ground, fourteenth text: maps whose keys are structs (or whatever has the kit's law on keys). The proofs are those of the ninth and the twelfth text.
-/
import Derived.Test.YtmkbhnholcaghaaGreatDoorFxm
import Derived.DeepKeys5
open Array renaming getElem?_eq_some_iff->Ow,filter->O9,getElem?_setIfInBounds_ne->PL,mem_filter->QN,eraseIdxIfInBounds->SG,mem_append->Uq,map->VR
open Go.Builtin renaming delete_->PV
open Go.Instr renaming lookup->PM,entry->P5,next->Qi,range->Qn,mapUpdate->Qt,checkKey->Ug,findKey->Up
open Go.MapKept renaming run_getObj_map->Qd,run_setObj_map->QR
open Go.Result renaming andThen->Qm
open Go.Sem renaming run->PY
open Go.Value renaming bool->Ul,tuple->UQ
open Go.WideMaps renaming KeyLaw->Tp
open List renaming getElem?_eq_some_iff->Om,mem_of_getElem?->Oo,mem_append->Ox,getElem?_map->Oy,mem_iff_getElem?->Oz,nodup_append->Qb,mem_eraseIdx_iff_getElem?->QS,getElem?_inj->Sr
open List.Nodup renaming length_le_of_subset->QT
open Nat renaming le_refl->Ot
namespace Go.Proofs.YtmkbhnholcaghaaGreatDoor
open Go.MapKept
def vN (P:Program)(kt:TypeId)(v:Value):Prop:=∃l,Go.keyOf P kt v=some l
structure iW (P:Program)(kt:TypeId)(H:aa)(r:Nat)(es:Array MapEntry)(clk:Nat):Prop where
 obj:H[r]?=some (.map es clk)
 stamped:Stamped es clk
 keys:∀x∈es.toList,vN P kt x.key
theorem iW.lt {P:Program}{kt:TypeId}{H:aa}{r:Nat}{es:Array MapEntry}{clk:Nat}(h:iW P kt H r es clk):r<H.size:=(Ow.1 h.obj).1
theorem iW.mod {P:Program}{kt:TypeId}{F:Nat->Prop}{H H':aa}{r:Nat}{es:Array MapEntry}{clk:Nat}(h:iW P kt H r es clk)(hm:Mod F H H')(a:¬F r):iW P kt H' r es clk:=
 ⟨(hm.same r h.lt a).trans h.obj,h.stamped,h.keys⟩
theorem iW.find {P:Program}{kt:TypeId}{H:aa}{r:Nat}{es:Array MapEntry}{clk:Nat}{k:Value}(hm:iW P kt H r es clk)(i:Tp P kt)(hk:vN P kt k):
  ((∀w:World,(Up kt k es.toList).run P w=.ok none w)/\∀e∈es.toList,e.key≠k)\/∃j e,(∀w:World,(Up kt k es.toList).run P w=.ok (some (j,e.val)) w)/\es.toList[j]?=some e/\e.key=k:=by
 obtain⟨l,hl⟩:=hk;by_cases hex:∃e∈es.toList,e.key=k
 ·obtain⟨e,he,a⟩:=hex;obtain⟨j,c⟩:=Oz.1 he;refine .inr ⟨j,e,λw=>?_,c,a⟩;rcases i.find w hl es.toList hm.keys with ⟨_,b⟩|⟨d,m,h1,b,f⟩
  ·exact absurd a (b e he)
  ·have g:=(Om.1 c).1;have n:(es.toList.map (·.key))[j]?=(es.toList.map (·.key))[d]?:=by
    rw[Oy,Oy,c,b];simp[a,f]
   have:j=d:=(Sr (by simpa using g) hm.stamped.2.2).1 n;subst this;rw[c] at b;cases b;exact h1
 ·refine .inl ⟨λw=>?_,λe he h=>hex ⟨e,he,h⟩⟩;rcases i.find w hl es.toList hm.keys with ⟨h1,_⟩|⟨d,m,h1,b,f⟩
  ·exact h1
  ·exact absurd ⟨m,Oo b,f⟩ hex
section
variable {P:Program}{t kt et:TypeId}{H:aa}{r:Nat}{es:Array MapEntry}{clk:Nat}{k:Value}
theorem xK {z:Value}{inf:TypeInfo}(n:P.underlying t=some (.map kt et))(o:Tp P kt)(hi:P.info? et=some inf)(p:inf.zero=some z)(hm:iW P kt H r es clk)(hk:vN P kt k){c:eM}{K:c.α->Prop}
  (a:∀v,eU es k v->∃x:c.α,c.enc x=.tuple #[v,.bool true]/\K x) (b:(∀v,¬eU es k v)->∃x:c.α,c.enc x=.tuple #[z,.bool false]/\K x):
  DK c P (PM t (.map (some r)) k true) H K:=by
 have d:∀(e:Bool) (w:World),(Ug e 10000 kt k).run P w=.ok () w:=λe w=>o.check w e hk.choose_spec;rcases hm.find o hk with ⟨h1,f⟩|⟨j,e,h1,f,q⟩
 ·obtain⟨x,g,h⟩:=b (λv ⟨e,he,i,_⟩=>f e he i);refine⟨x,λw hw=>?_,h⟩;subst hw;have l:=h1 w;have m:=hm.obj;rw[g];simp[PM,run_underlying n,getObj,PY,m,d,l,zeroValue,typeInfo,hi,p]
 ·obtain⟨x,g,h⟩:=a e.val ⟨e,Oo f,q,rfl⟩;refine⟨x,λw hw=>?_,h⟩;subst hw;have l:=h1 w;have m:=hm.obj;rw[g];simp[PM,run_underlying n,getObj,PY,m,d,l]
theorem iW.set {H:aa}{es c:Array MapEntry}{clk a:Nat}(h:iW P kt H r es clk)(hs:Stamped c a)(hk:∀x∈c.toList,vN P kt x.key):
  iW P kt (H.setIfInBounds r (.map c a)) r c a/\Mod (λb=>b=r) H (H.setIfInBounds r (.map c a)):=
 ⟨⟨by simp[h.lt],hs,hk⟩,⟨by simp,λb _ d=>PL (λe=>d e.symm)⟩⟩
theorem xy {v:Value}{K:aa->Prop}(h:P.underlying t=some (.map kt et))(f:Tp P kt)(hm:iW P kt H r es clk)(hk:vN P kt k)(c:∀u,¬eU es k u)
  (i:∀H',iW P kt H' r (es.push {key:=k,val:=v,born:=clk}) (clk+1)->Mod (λb=>b=r) H H'->H'.size=H.size->K H'):jo P (Qt t (.map (some r)) k v) H K:=by
 intro w hw;subst hw;have g:=hm.obj;rcases hm.find f hk with ⟨h1,d⟩|⟨j,e,h1,d,l⟩
 ·obtain⟨m1,m2⟩:=hm.set (stamped_push (val:=v) hm.stamped d) (by
   intro x a;simp only[Array.toList_push,Ox,List.mem_singleton] at a;rcases a with a|rfl
   ·exact hm.keys x a
   ·exact hk)
  refine⟨(),{w with heap:=w.heap.setIfInBounds r (.map (es.push {key:=k,val:=v,born:=clk}) (clk+1))},?_,i _ m1 m2 (by simp),(.of_le rfl (Ot _))⟩;simp[Qt,run_underlying h,Qd g,f.check _ _ hk.choose_spec,h1 _,QR _ g,Qm]
 ·exact absurd ⟨e,Oo d,l,rfl⟩ (c e.val)
theorem xf {ty:TypeId}{K:Value->aa->Prop}(E:P.underlying t=some (.map kt et))(F:Tp P kt)(hm:iW P kt H r es clk)(hk:vN P kt k){t2:TypeId}
  (G:∀f H',iW P kt H' r f clk->(∀o v,eU f o v↔eU es o v/\o≠k)->(∀u,eU es k u->f.size+1=es.size)->Mod (λb=>b=r) H H'->H'.size=H.size->K (.tuple #[]) H'):bf gn P (PV #[t,t2] ty #[.map (some r),k]) H K:=by
 intro w hw;subst hw;have z:=hm.obj;have p:∀(e:Bool) (w:World),(Ug e 10000 kt k).run P w=.ok () w:=λe w=>F.check w e hk.choose_spec;rcases hm.find F hk with ⟨h1,n⟩|⟨j,e,h1,n,I⟩
 ·obtain⟨m1,m2⟩:=hm.set hm.stamped hm.keys;refine⟨.tuple #[],{w with heap:=w.heap.setIfInBounds r (.map es clk)},?_,⟨.tuple #[],rfl,G _ _ m1 (λo v=>⟨λ⟨e,he,d,q⟩=>⟨⟨e,he,d,q⟩,by rw[<-d];exact n e he⟩,λh=>h.1⟩) (λu ⟨e,he,d,_⟩=>absurd d (n e he)) m2 (by simp)⟩,(.of_le rfl (Ot _))⟩;simp[PV,run_underlying E,Qd z,p,h1 _,QR _ z,Qm]
 ·have J:j<es.toList.length:=(Om.1 n).1;have s:j<es.size:=by simpa using J
  have g:(es.eraseIdxIfInBounds j).toList=es.toList.eraseIdx j:=by
   unfold SG;rw[dif_pos s];simp
  have y:∀x∈(es.eraseIdxIfInBounds j).toList,x∈es.toList:=by
   intro x c;rw[g] at c;exact List.mem_of_mem_eraseIdx c
  obtain⟨m1,m2⟩:=hm.set (stamped_erase hm.stamped j) (λx c=>hm.keys x (y x c));refine⟨.tuple #[],{w with heap:=w.heap.setIfInBounds r (.map (es.eraseIdxIfInBounds j) clk)},?_,⟨.tuple #[],rfl,G _ _ m1 (λo v=>?_) (λ_ _=>by unfold SG;rw[dif_pos s];simp;omega) m2 (by simp)⟩,(.of_le rfl (Ot _))⟩
  ·simp[PV,run_underlying E,Qd z,p,h1 _,QR _ z,Qm]
  ·have A:=hm.stamped.2.2;have l:∀i x,es.toList[i]?=some x->x.key=k->i=j:=by
    intro i x c B;have hi:i<es.toList.length:=(Om.1 c).1;have L:(es.toList.map (·.key))[i]?=(es.toList.map (·.key))[j]?:=by
     rw[Oy,Oy,c,n];simp[B,I]
    exact(Sr (by simpa using hi) A).1 L
   constructor
   ·rintro⟨x,c,d,q⟩;rw[g,QS] at c;obtain⟨i,m,a⟩:=c;refine⟨⟨x,Oo a,d,q⟩,λC=>m (l i x a (by rw[d];exact C))⟩
   ·rintro⟨⟨x,c,d,q⟩,D⟩;refine⟨x,?_,d,q⟩;rw[g,QS];obtain⟨i,a⟩:=Oz.1 c;refine⟨i,λm=>?_,a⟩;subst m;rw[n] at a;cases a;exact D (by rw[<-d];exact I)
theorem od {K:Option Addr->aa->Prop}(a:P.underlying t=some (.map kt et))(hm:iW P kt H r es clk)
  (b:∀H',H'[H.size]?=some (.mapIter (some r) clk #[] clk)->Ext H H'->K (some ⟨H.size,0,none⟩) H'):bf aw P (Qn t (.map (some r))) H K:=by
 intro w hw;subst hw;have c:=hm.obj;refine⟨.pointer (some ⟨w.heap.size,0,none⟩),{w with heap:=w.heap.push (.mapIter (some r) clk #[] clk)},?_,⟨some ⟨w.heap.size,0,none⟩,rfl,b _ (by simp) (Mod.push _ _ _)⟩,(.of_le rfl (Ot _))⟩;simp[Qn,run_underlying a,Qd c,Qm,newObj,PY]
theorem zM {it:Nat}{seen:Array Nat}{e:MapEntry}{K:Value×Value->aa->Prop}(hm:iW P kt H r es clk)(c:H[it]?=some (.mapIter (some r) clk (seen.push e.born) clk))(he:e∈es.toList)
  (f:K (e.key,e.val) H):bf oM P (P5 (.pointer (some ⟨it,0,none⟩))) H K:=by
 intro w hw;subst hw;have g:=hm.obj;have a:es.find? (λx=>x.born==e.born)=some e:=by
  rw[<-Array.find?_toList];have key:∀l:List MapEntry,(l.map (·.born)).Nodup->e∈l->l.find? (λx=>x.born==e.born)=some e:=by
   intro l
   induction l with
   |nil=>intro _ h;cases h
   |cons x l i=>
     intro b he;rw[List.map_cons,List.nodup_cons] at b;rw[List.find?_cons];rcases List.mem_cons.1 he with q|q
     ·subst q;simp
     ·have d:x.born≠e.born:=λh=>b.1 (by rw[h];exact List.mem_map_of_mem q);have:(x.born==e.born)=false:=by simpa using d
      rw[this];exact i b.2 q
  exact key _ hm.stamped.2.1 he
 refine⟨.tuple #[e.key,e.val],w,?_,⟨(e.key,e.val),rfl,f⟩,.refl w⟩;simp[P5,getObj,PY,c,g,a]
theorem xT (es:Array MapEntry)(seen:Array Nat)(clk:Nat)(c:∀x∈es.toList,x.born<clk)(b:Array (Option MapEntry))(f:((if (O9 (λx:MapEntry=>decide (x.born<clk)) (O9 (λe:MapEntry=>!seen.contains e.born) es)).isEmpty=true then #[none] else #[])++
   VR some (O9 (λx:MapEntry=>decide (x.born<clk)) (O9 (λe:MapEntry=>!seen.contains e.born) es)++O9 (λx:MapEntry=>decide (x.born>=clk)) (O9 (λe:MapEntry=>!seen.contains e.born) es)))=b):
  0<b.size/\∀(i:Nat) (x:Option MapEntry),b[i]?=some x->(x=none/\∀e∈es.toList,seen.contains e.born=true)\/∃e,x=some e/\e∈es.toList/\seen.contains e.born=false:=by
 subst f;constructor
 ·split
  ·simp;omega
  ·rename_i h;have:0<(O9 (λx:MapEntry=>decide (x.born<clk)) (O9 (λe:MapEntry=>!seen.contains e.born) es)).size:=by
    rw[Array.isEmpty_iff_size_eq_zero] at h;omega
   simp only[Array.size_append,Array.size_map];omega
 ·intro i x g;have a:=Array.mem_of_getElem? g;rw[Uq] at a;rcases a with a|a
  ·split at a
   ·rename_i h;left;refine⟨by simpa using a,λe he=>?_⟩;cases hs:seen.contains e.born with
    |true=>rfl
    |false=>
      have d:e∈O9 (λx:MapEntry=>decide (x.born<clk)) (O9 (λe:MapEntry=>!seen.contains e.born) es):=by
       rw[QN,QN];exact⟨⟨by simpa using he,by rw[hs];rfl⟩,by simpa using c e he⟩
      rw[Array.isEmpty_iff] at h;rw[h] at d;simp at d
   ·simp at a
  ·right;rw[Array.mem_map] at a;obtain⟨e,he,rfl⟩:=a;rw[Uq] at he;have j:e∈O9 (λe:MapEntry=>!seen.contains e.born) es:=by
    rcases he with he|he
    ·exact(QN.1 he).1
    ·exact(QN.1 he).1
   obtain⟨l,m⟩:=QN.1 j;exact⟨e,rfl,by simpa using l,by simpa using m⟩
theorem CU {it:Nat}{seen:Array Nat}{ty:TypeId}{K:Bool×List Value->aa->Prop}(hm:iW P kt H r es clk)(hit:H[it]?=some (.mapIter (some r) clk seen clk))
  (hstep:∀e∈es.toList,seen.contains e.born=false->∀H',H'[it]?=some (.mapIter (some r) clk (seen.push e.born) clk)->Mod (λb=>b=it) H H'->H'.size=H.size->K (true,[e.key,e.val]) H')
  (hover:(∀e∈es.toList,seen.contains e.born=true)->K (false,[]) H):bf gd P (Qi (.pointer (some ⟨it,0,none⟩)) false ty) H K:=by
 refine qM ?_;have hlt:it<H.size:=(Ow.1 hit).1;have hb:=hm.obj;unfold Qi;refine gP _ _ ⟨_,hit,rfl,?_⟩;refine gP _ _ ⟨_,hb,rfl,?_⟩;have hlast:(!seen.isEmpty&&!es.isEmpty&&es.all (λx=>decide (x.born>=clk)))=false:=by
  cases hes:es.toList with
  | nil => have : es.isEmpty = true := by simp [Array.isEmpty, ← Array.length_toList, hes]
           rw[this];simp
  |cons x l=>
    have hx:x∈es.toList:=by rw[hes];exact List.mem_cons_self
    have h1:=hm.stamped.1 x hx;have:es.all (λx=>decide (x.born>=clk))=false:=by
     rw[<-Array.all_toList,List.all_eq_false];exact⟨x,hx,by simp;omega⟩
    rw[this];simp
 simp only[hlast,wpS];rw[if_neg (by simp)];generalize hc:((if (O9 (λx:MapEntry=>decide (x.born<clk)) (O9 (λe:MapEntry=>!seen.contains e.born) es)).isEmpty=true then #[none] else #[])++
   VR some (O9 (λx:MapEntry=>decide (x.born<clk)) (O9 (λe:MapEntry=>!seen.contains e.born) es)++O9 (λx:MapEntry=>decide (x.born>=clk)) (O9 (λe:MapEntry=>!seen.contains e.born) es)))=cand
 obtain⟨hsz,hx⟩:=xT es seen clk hm.stamped.1 cand hc;have fin:∀i,i<cand.size->wpS P (match cand[i]? with
   |some (some e)=>do
     setObj it (Obj.mapIter (some r) clk (seen.push e.born) clk)
     pure (UQ #[Ul true,e.key,e.val])
   |some none=>pure (UQ #[Ul false])
   |none=>stuck "Next: no such candidate") H (λv H'=>∃x:gd.α,v=gd.enc x/\K x H'):=by
  intro i hi;have hci:cand[i]?=some cand[i]:=Array.getElem?_eq_getElem hi;rcases hx i _ hci with ⟨h1,h2⟩|⟨e,h1,h2,h3⟩
  ·rw[hci,h1];exact⟨(false,[]),rfl,hover h2⟩
  ·rw[hci,h1];refine gP _ _ ⟨⟨_,hit,rfl⟩,⟨(true,[e.key,e.val]),rfl,hstep e h2 h3 _ (by simp[hlt]) ⟨by simp,λb _ hn=>PL (λe=>hn e.symm)⟩ (by simp)⟩⟩
 refine gP _ _ ?_;unfold choose;simp only[wpS];split
 ·exact fin 0 hsz
 ·exact λt=>fin _ (Nat.mod_lt _ hsz)
end
theorem og {P:Program}{kt:TypeId}{H:aa}{r:Nat}{es:Array MapEntry}{clk it:Nat}{α:Type}{x0:α}{ty:TypeId}
  {B:(α->aa->Prop)->α->(Value×Value)->aa->Prop} {E:α->aa->Prop} (I:List MapEntry->α->aa->Prop)
  (hm:iW P kt H r es clk) (F:H[it]?=some (.mapIter (some r) clk #[] clk)) (S:I [] x0 H)
  (G:∀l x A d,I l x A->Mod (λb=>b=it) A d->d.size=A.size->I l x d)
  (hs:∀l e x A next,I l x A->e∈es.toList->e∉l->(∀y∈l,y∈es.toList)->l.Nodup->A[r]?=some (.map es clk)->(∃o,A[it]?=some o)->
   (∀x' d,I (l++[e]) x' d->d[r]?=A[r]?->d[it]?=A[it]?->next x' d)->B next x (e.key,e.val) A)
  (T:∀l x A,I l x A->l.Perm es.toList->A[r]?=some (.map es clk)->E x A):
  ax α x0 H (λnext x U=>bf gd P (Qi (.pointer (some ⟨it,0,none⟩)) false ty) U λ(V:Bool×List Value) O=>
   br V.1 (bf oM P (P5 (.pointer (some ⟨it,0,none⟩))) O λ(W:Value×Value) X=>B next x W X) (E x O)):=by
 have g:=hm.stamped;have J:=nG g;refine⟨List MapEntry,λl x A=>I l x A/\A[it]?=some (.mapIter (some r) clk (l.map (·.born)).toArray clk)/\A[r]?=some (.map es clk)/\l.Nodup/\(∀y∈l,y∈es.toList),λl=>es.size - l.length,⟨[],S,by simpa using F,hm.obj,List.nodup_nil,by simp⟩,?_⟩;rintro l x A ⟨Q,hi,n,hl,c⟩;have p:iW P kt A r es clk:=⟨n,g,hm.keys⟩;have s:r≠it:=by intro e;rw[<-e,n] at hi;cases hi
 refine CU p hi ?_ ?_
 ·intro e he u d i f K;have j:e∉l:=λh=>by
   have:(l.map (·.born)).toArray.contains e.born=true:=by simp;exact⟨e,h,rfl⟩
   rw[this] at u;cases u
  have v:d[r]?=some (.map es clk):=(f.same r (aA n) s).trans n;refine zM (p.mod f s) i he ?_;refine hs l e x d _ (G l x A d Q f K) he j c hl v ⟨_,i⟩ λx' Y w h1 Z=>⟨l++[e],⟨w,?_,by rw[h1];exact v,?_,?_⟩,?_⟩
  ·rw[Z,i];simp
  ·rw[Qb];exact⟨hl,by simp,by intro a L b C;simp at C;subst C;intro e2;subst e2;exact j L⟩
  ·intro y m;rcases Ox.1 m with q|q
   ·exact c y q
   ·simp at q;subst q;exact he
  ·have M:(l++[e]).length<=es.toList.length:=by
    refine QT ?_ ?_
    ·rw[Qb];exact⟨hl,by simp,by intro a L b C;simp at C;subst C;intro e2;subst e2;exact j L⟩
    ·intro y m;rcases Ox.1 m with q|q
     ·exact c y q
     ·simp at q;subst q;exact he
   simp at M ⊢;omega
 ·intro D;refine T l x A Q ?_ n;rw[List.perm_ext_iff_of_nodup hl J];intro y;refine⟨c y,λm=>?_⟩;have h1:=D y m;simp at h1;obtain⟨z,R,N⟩:=h1;have:=pa g (c z R) m N;rw[<-this];exact R
end Go.Proofs.YtmkbhnholcaghaaGreatDoor
