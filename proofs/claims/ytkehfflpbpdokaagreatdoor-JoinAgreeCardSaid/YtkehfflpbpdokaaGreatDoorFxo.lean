/-
 Ground, fourteenth text: maps whose keys are structs (or whatever has the kit's law on keys). The proofs are those of the ninth and the twelfth text.
-/
import Derived.Test.YtkehfflpbpdokaaGreatDoorFxm
import Derived.DeepKeys5
open Array renaming getElem?_eq_some_iff->Qv,getElem?_setIfInBounds_ne->RT,filter->R0,eraseIdxIfInBounds->Uk,mem_filter->U5,mem_append->YI
open Go.Builtin renaming delete_->RN
open Go.Instr renaming lookup->RK,mapUpdate->Sr,entry->Ui,next->Ux,range->UQ,checkKey->Vt,findKey->VE
open Go.MapKept renaming run_getObj_map->Sy,run_setObj_map->SV
open Go.Result renaming andThen->SG
open Go.Sem renaming run->Sg
open Go.Value renaming bool->Yi,tuple->YY
open Go.WideMaps renaming KeyLaw->UF
open List renaming mem_of_getElem?->Qi,mem_append->Qj,getElem?_eq_some_iff->Qk,mem_iff_getElem?->Qr,getElem?_map->QC,nodup_append->QY,getElem?_inj->RM,mem_eraseIdx_iff_getElem?->S9
open List.Nodup renaming length_le_of_subset->VZ
open Nat renaming le_refl->Qm
namespace Go.Proofs.YtkehfflpbpdokaaGreatDoor
open Go.MapKept
def xe (P:Program)(kt:TypeId)(v:Value):Prop:=∃l,Go.keyOf P kt v=some l
structure jL (P:Program)(kt:TypeId)(H:aa)(r:Nat)(es:Array MapEntry)(clk:Nat):Prop where
 obj:H[r]?=some (.map es clk)
 stamped:Stamped es clk
 keys:∀x∈es.toList,xe P kt x.key
theorem jL.lt {P:Program}{kt:TypeId}{H:aa}{r:Nat}{es:Array MapEntry}{clk:Nat}(h:jL P kt H r es clk):r<H.size:=(Qv.1 h.obj).1
theorem jL.mod {P:Program}{kt:TypeId}{F:Nat->Prop}{H H':aa}{r:Nat}{es:Array MapEntry}{clk:Nat}(h:jL P kt H r es clk)(hm:Mod F H H')(a:¬F r):jL P kt H' r es clk:=
 ⟨(hm.same r h.lt a).trans h.obj,h.stamped,h.keys⟩
theorem jL.find {P:Program}{kt:TypeId}{H:aa}{r:Nat}{es:Array MapEntry}{clk:Nat}{k:Value}(hm:jL P kt H r es clk)(i:UF P kt)(hk:xe P kt k):
  ((∀w:World,(VE kt k es.toList).run P w=.ok none w)/\∀e∈es.toList,e.key≠k)\/∃j e,(∀w:World,(VE kt k es.toList).run P w=.ok (some (j,e.val)) w)/\es.toList[j]?=some e/\e.key=k:=by
 obtain⟨l,m⟩:=hk;by_cases hex:∃e∈es.toList,e.key=k
 ·obtain⟨e,he,a⟩:=hex;obtain⟨j,c⟩:=Qr.1 he;refine .inr ⟨j,e,λw=>?_,c,a⟩;rcases i.find w m es.toList hm.keys with ⟨_,b⟩|⟨d,n,h1,b,f⟩
  ·exact absurd a (b e he)
  ·have g:=(Qk.1 c).1;have o:(es.toList.map (·.key))[j]?=(es.toList.map (·.key))[d]?:=by
    rw[QC,QC,c,b];simp[a,f]
   have:j=d:=(RM (by simpa using g) hm.stamped.2.2).1 o;subst this;rw[c] at b;cases b;exact h1
 ·refine .inl ⟨λw=>?_,λe he h=>hex ⟨e,he,h⟩⟩;rcases i.find w m es.toList hm.keys with ⟨h1,_⟩|⟨d,n,h1,b,f⟩
  ·exact h1
  ·exact absurd ⟨n,Qi b,f⟩ hex
section
variable {P:Program}{t kt et:TypeId}{H:aa}{r:Nat}{es:Array MapEntry}{clk:Nat}{k:Value}
theorem y8 {z:Value}{inf:TypeInfo}(n:P.underlying t=some (.map kt et))(o:UF P kt)(hi:P.info? et=some inf)(hz:inf.zero=some z)(hm:jL P kt H r es clk)(hk:xe P kt k){c:gz}{K:c.α->Prop}
  (a:∀v,fN es k v->∃x:c.α,c.enc x=.tuple #[v,.bool true]/\K x) (b:(∀v,¬fN es k v)->∃x:c.α,c.enc x=.tuple #[z,.bool false]/\K x):
  EW c P (RK t (.map (some r)) k true) H K:=by
 have d:∀(e:Bool) (w:World),(Vt e 10000 kt k).run P w=.ok () w:=λe w=>o.check w e hk.choose_spec;rcases hm.find o hk with ⟨h1,f⟩|⟨j,e,h1,f,p⟩
 ·obtain⟨x,g,h⟩:=b (λv ⟨e,he,i,_⟩=>f e he i);refine⟨x,λw hw=>?_,h⟩;subst hw;have l:=h1 w;have m:=hm.obj;rw[g];simp[RK,run_underlying n,getObj,Sg,m,d,l,zeroValue,typeInfo,hi,hz]
 ·obtain⟨x,g,h⟩:=a e.val ⟨e,Qi f,p,rfl⟩;refine⟨x,λw hw=>?_,h⟩;subst hw;have l:=h1 w;have m:=hm.obj;rw[g];simp[RK,run_underlying n,getObj,Sg,m,d,l]
theorem jL.set {H:aa}{es c:Array MapEntry}{clk a:Nat}(h:jL P kt H r es clk)(hs:Stamped c a)(hk:∀x∈c.toList,xe P kt x.key):
  jL P kt (H.setIfInBounds r (.map c a)) r c a/\Mod (λb=>b=r) H (H.setIfInBounds r (.map c a)):=
 ⟨⟨by simp[h.lt],hs,hk⟩,⟨by simp,λb _ d=>RT (λe=>d e.symm)⟩⟩
theorem yX {v:Value}{K:aa->Prop}(h:P.underlying t=some (.map kt et))(f:UF P kt)(hm:jL P kt H r es clk)(hk:xe P kt k)(c:∀u,¬fN es k u)
  (i:∀H',jL P kt H' r (es.push {key:=k,val:=v,born:=clk}) (clk+1)->Mod (λb=>b=r) H H'->H'.size=H.size->K H'):xJ P (Sr t (.map (some r)) k v) H K:=by
 intro w hw;subst hw;have g:=hm.obj;rcases hm.find f hk with ⟨h1,d⟩|⟨j,e,h1,d,l⟩
 ·obtain⟨m1,m2⟩:=hm.set (stamped_push (val:=v) hm.stamped d) (by
   intro x a;simp only[Array.toList_push,Qj,List.mem_singleton] at a;rcases a with a|rfl
   ·exact hm.keys x a
   ·exact hk)
  refine⟨(),{w with heap:=w.heap.setIfInBounds r (.map (es.push {key:=k,val:=v,born:=clk}) (clk+1))},?_,i _ m1 m2 (by simp),(.of_le rfl (Qm _))⟩;simp[Sr,run_underlying h,Sy g,f.check _ _ hk.choose_spec,h1 _,SV _ g,SG]
 ·exact absurd ⟨e,Qi d,l,rfl⟩ (c e.val)
theorem yH {ty:TypeId}{K:Value->aa->Prop}(E:P.underlying t=some (.map kt et))(F:UF P kt)(hm:jL P kt H r es clk)(hk:xe P kt k){t2:TypeId}
  (G:∀f H',jL P kt H' r f clk->(∀o v,fN f o v↔fN es o v/\o≠k)->(∀u,fN es k u->f.size+1=es.size)->Mod (λb=>b=r) H H'->H'.size=H.size->K (.tuple #[]) H'):bI jF P (RN #[t,t2] ty #[.map (some r),k]) H K:=by
 intro w hw;subst hw;have z:=hm.obj;have p:∀(e:Bool) (w:World),(Vt e 10000 kt k).run P w=.ok () w:=λe w=>F.check w e hk.choose_spec;rcases hm.find F hk with ⟨h1,n⟩|⟨j,e,h1,n,I⟩
 ·obtain⟨m1,m2⟩:=hm.set hm.stamped hm.keys;refine⟨.tuple #[],{w with heap:=w.heap.setIfInBounds r (.map es clk)},?_,⟨.tuple #[],rfl,G _ _ m1 (λo v=>⟨λ⟨e,he,d,q⟩=>⟨⟨e,he,d,q⟩,by rw[<-d];exact n e he⟩,λh=>h.1⟩) (λu ⟨e,he,d,_⟩=>absurd d (n e he)) m2 (by simp)⟩,(.of_le rfl (Qm _))⟩;simp[RN,run_underlying E,Sy z,p,h1 _,SV _ z,SG]
 ·have J:j<es.toList.length:=(Qk.1 n).1;have s:j<es.size:=by simpa using J
  have g:(es.eraseIdxIfInBounds j).toList=es.toList.eraseIdx j:=by
   unfold Uk;rw[dif_pos s];simp
  have y:∀x∈(es.eraseIdxIfInBounds j).toList,x∈es.toList:=by
   intro x c;rw[g] at c;exact List.mem_of_mem_eraseIdx c
  obtain⟨m1,m2⟩:=hm.set (stamped_erase hm.stamped j) (λx c=>hm.keys x (y x c));refine⟨.tuple #[],{w with heap:=w.heap.setIfInBounds r (.map (es.eraseIdxIfInBounds j) clk)},?_,⟨.tuple #[],rfl,G _ _ m1 (λo v=>?_) (λ_ _=>by unfold Uk;rw[dif_pos s];simp;omega) m2 (by simp)⟩,(.of_le rfl (Qm _))⟩
  ·simp[RN,run_underlying E,Sy z,p,h1 _,SV _ z,SG]
  ·have A:=hm.stamped.2.2;have l:∀i x,es.toList[i]?=some x->x.key=k->i=j:=by
    intro i x c B;have hi:i<es.toList.length:=(Qk.1 c).1;have L:(es.toList.map (·.key))[i]?=(es.toList.map (·.key))[j]?:=by
     rw[QC,QC,c,n];simp[B,I]
    exact(RM (by simpa using hi) A).1 L
   constructor
   ·rintro⟨x,c,d,q⟩;rw[g,S9] at c;obtain⟨i,m,a⟩:=c;refine⟨⟨x,Qi a,d,q⟩,λC=>m (l i x a (by rw[d];exact C))⟩
   ·rintro⟨⟨x,c,d,q⟩,D⟩;refine⟨x,?_,d,q⟩;rw[g,S9];obtain⟨i,a⟩:=Qr.1 c;refine⟨i,λm=>?_,a⟩;subst m;rw[n] at a;cases a;exact D (by rw[<-d];exact I)
theorem uV {K:Option Addr->aa->Prop}(a:P.underlying t=some (.map kt et))(hm:jL P kt H r es clk)
  (b:∀H',H'[H.size]?=some (.mapIter (some r) clk #[] clk)->Ext H H'->K (some ⟨H.size,0,none⟩) H'):bI aq P (UQ t (.map (some r))) H K:=by
 intro w hw;subst hw;have c:=hm.obj;refine⟨.pointer (some ⟨w.heap.size,0,none⟩),{w with heap:=w.heap.push (.mapIter (some r) clk #[] clk)},?_,⟨some ⟨w.heap.size,0,none⟩,rfl,b _ (by simp) (Mod.push _ _ _)⟩,(.of_le rfl (Qm _))⟩;simp[UQ,run_underlying a,Sy c,SG,newObj,Sg]
theorem B6 {it:Nat}{seen:Array Nat}{e:MapEntry}{K:Value×Value->aa->Prop}(hm:jL P kt H r es clk)(c:H[it]?=some (.mapIter (some r) clk (seen.push e.born) clk))(he:e∈es.toList)
  (f:K (e.key,e.val) H):bI Bo P (Ui (.pointer (some ⟨it,0,none⟩))) H K:=by
 intro w hw;subst hw;have g:=hm.obj;have a:es.find? (λx=>x.born==e.born)=some e:=by
  rw[<-Array.find?_toList];have key:∀l:List MapEntry,(l.map (·.born)).Nodup->e∈l->l.find? (λx=>x.born==e.born)=some e:=by
   intro l
   induction l with
   |nil=>intro _ h;cases h
   |cons x l i=>
     intro b he;rw[List.map_cons,List.nodup_cons] at b;rw[List.find?_cons];rcases List.mem_cons.1 he with q|q
     ·subst q;simp
     ·have d:x.born≠e.born:=λh=>b.1 (by rw[h];exact List.mem_map_of_mem q);have:(x.born==e.born)=false:=by simpa using d
      rw[this];exact i b.2 q
  exact key _ hm.stamped.2.1 he
 refine⟨.tuple #[e.key,e.val],w,?_,⟨(e.key,e.val),rfl,f⟩,.refl w⟩;simp[Ui,getObj,Sg,c,g,a]
theorem yW (es:Array MapEntry)(seen:Array Nat)(clk:Nat)(c:∀x∈es.toList,x.born<clk)(b:Array (Option MapEntry))(f:((if (R0 (λx:MapEntry=>decide (x.born<clk)) (R0 (λe:MapEntry=>!seen.contains e.born) es)).isEmpty=true then #[none] else #[])++
   Array.map some (R0 (λx:MapEntry=>decide (x.born<clk)) (R0 (λe:MapEntry=>!seen.contains e.born) es)++R0 (λx:MapEntry=>decide (x.born>=clk)) (R0 (λe:MapEntry=>!seen.contains e.born) es)))=b):
  0<b.size/\∀(i:Nat) (x:Option MapEntry),b[i]?=some x->(x=none/\∀e∈es.toList,seen.contains e.born=true)\/∃e,x=some e/\e∈es.toList/\seen.contains e.born=false:=by
 subst f;constructor
 ·split
  ·simp;omega
  ·rename_i h;have:0<(R0 (λx:MapEntry=>decide (x.born<clk)) (R0 (λe:MapEntry=>!seen.contains e.born) es)).size:=by
    rw[Array.isEmpty_iff_size_eq_zero] at h;omega
   simp only[Array.size_append,Array.size_map];omega
 ·intro i x g;have a:=Array.mem_of_getElem? g;rw[YI] at a;rcases a with a|a
  ·split at a
   ·rename_i h;left;refine⟨by simpa using a,λe he=>?_⟩;cases hs:seen.contains e.born with
    |true=>rfl
    |false=>
      have d:e∈R0 (λx:MapEntry=>decide (x.born<clk)) (R0 (λe:MapEntry=>!seen.contains e.born) es):=by
       rw[U5,U5];exact⟨⟨by simpa using he,by rw[hs];rfl⟩,by simpa using c e he⟩
      rw[Array.isEmpty_iff] at h;rw[h] at d;simp at d
   ·simp at a
  ·right;rw[Array.mem_map] at a;obtain⟨e,he,rfl⟩:=a;rw[YI] at he;have j:e∈R0 (λe:MapEntry=>!seen.contains e.born) es:=by
    rcases he with he|he
    ·exact(U5.1 he).1
    ·exact(U5.1 he).1
   obtain⟨l,m⟩:=U5.1 j;exact⟨e,rfl,by simpa using l,by simpa using m⟩
theorem Ez {it:Nat}{seen:Array Nat}{ty:TypeId}{K:Bool×List Value->aa->Prop}(hm:jL P kt H r es clk)(hit:H[it]?=some (.mapIter (some r) clk seen clk))
  (hstep:∀e∈es.toList,seen.contains e.born=false->∀H',H'[it]?=some (.mapIter (some r) clk (seen.push e.born) clk)->Mod (λb=>b=it) H H'->H'.size=H.size->K (true,[e.key,e.val]) H')
  (hover:(∀e∈es.toList,seen.contains e.born=true)->K (false,[]) H):bI pG P (Ux (.pointer (some ⟨it,0,none⟩)) false ty) H K:=by
 refine yY ?_;have hlt:it<H.size:=(Qv.1 hit).1;have hb:=hm.obj;unfold Ux;refine pM _ _ ⟨_,hit,rfl,?_⟩;refine pM _ _ ⟨_,hb,rfl,?_⟩;have hlast:(!seen.isEmpty&&!es.isEmpty&&es.all (λx=>decide (x.born>=clk)))=false:=by
  cases hes:es.toList with
  | nil => have : es.isEmpty = true := by simp [Array.isEmpty, ← Array.length_toList, hes]
           rw[this];simp
  |cons x l=>
    have hx:x∈es.toList:=by rw[hes];exact List.mem_cons_self
    have h1:=hm.stamped.1 x hx;have:es.all (λx=>decide (x.born>=clk))=false:=by
     rw[<-Array.all_toList,List.all_eq_false];exact⟨x,hx,by simp;omega⟩
    rw[this];simp
 simp only[hlast,wpS];rw[if_neg (by simp)];generalize hc:((if (R0 (λx:MapEntry=>decide (x.born<clk)) (R0 (λe:MapEntry=>!seen.contains e.born) es)).isEmpty=true then #[none] else #[])++
   Array.map some (R0 (λx:MapEntry=>decide (x.born<clk)) (R0 (λe:MapEntry=>!seen.contains e.born) es)++R0 (λx:MapEntry=>decide (x.born>=clk)) (R0 (λe:MapEntry=>!seen.contains e.born) es)))=cand
 obtain⟨hsz,hx⟩:=yW es seen clk hm.stamped.1 cand hc;have fin:∀i,i<cand.size->wpS P (match cand[i]? with
   |some (some e)=>do
     setObj it (Obj.mapIter (some r) clk (seen.push e.born) clk)
     pure (YY #[Yi true,e.key,e.val])
   |some none=>pure (YY #[Yi false])
   |none=>stuck "Next: no such candidate") H (λv H'=>∃x:pG.α,v=pG.enc x/\K x H'):=by
  intro i hi;have hci:cand[i]?=some cand[i]:=Array.getElem?_eq_getElem hi;rcases hx i _ hci with ⟨h1,h2⟩|⟨e,h1,h2,h3⟩
  ·rw[hci,h1];exact⟨(false,[]),rfl,hover h2⟩
  ·rw[hci,h1];refine pM _ _ ⟨⟨_,hit,rfl⟩,⟨(true,[e.key,e.val]),rfl,hstep e h2 h3 _ (by simp[hlt]) ⟨by simp,λb _ hn=>RT (λe=>hn e.symm)⟩ (by simp)⟩⟩
 refine pM _ _ ?_;unfold choose;simp only[wpS];split
 ·exact fin 0 hsz
 ·exact λt=>fin _ (Nat.mod_lt _ hsz)
end
theorem uP {P:Program}{kt:TypeId}{H:aa}{r:Nat}{es:Array MapEntry}{clk it:Nat}{α:Type}{x0:α}{ty:TypeId}
  {B:(α->aa->Prop)->α->(Value×Value)->aa->Prop} {E:α->aa->Prop} (I:List MapEntry->α->aa->Prop)
  (hm:jL P kt H r es clk) (F:H[it]?=some (.mapIter (some r) clk #[] clk)) (R:I [] x0 H)
  (G:∀l x A d,I l x A->Mod (λb=>b=it) A d->d.size=A.size->I l x d)
  (hs:∀l e x A next,I l x A->e∈es.toList->e∉l->(∀y∈l,y∈es.toList)->l.Nodup->A[r]?=some (.map es clk)->(∃o,A[it]?=some o)->
   (∀x' d,I (l++[e]) x' d->d[r]?=A[r]?->d[it]?=A[it]?->next x' d)->B next x (e.key,e.val) A)
  (S:∀l x A,I l x A->l.Perm es.toList->A[r]?=some (.map es clk)->E x A):
  aF α x0 H (λnext x T=>bI pG P (Ux (.pointer (some ⟨it,0,none⟩)) false ty) T λ(nx:Bool×List Value) O=>
   br nx.1 (bI Bo P (Ui (.pointer (some ⟨it,0,none⟩))) O λ(U:Value×Value) V=>B next x U V) (E x O)):=by
 have g:=hm.stamped;have J:=vd g;refine⟨List MapEntry,λl x A=>I l x A/\A[it]?=some (.mapIter (some r) clk (l.map (·.born)).toArray clk)/\A[r]?=some (.map es clk)/\l.Nodup/\(∀y∈l,y∈es.toList),λl=>es.size - l.length,⟨[],R,by simpa using F,hm.obj,List.nodup_nil,by simp⟩,?_⟩;rintro l x A ⟨Q,hi,hr,D,c⟩;have n:jL P kt A r es clk:=⟨hr,g,hm.keys⟩;have p:r≠it:=by intro e;rw[<-e,hr] at hi;cases hi
 refine Ez n hi ?_ ?_
 ·intro e he s d i f K;have j:e∉l:=λh=>by
   have:(l.map (·.born)).toArray.contains e.born=true:=by simp;exact⟨e,h,rfl⟩
   rw[this] at s;cases s
  have u:d[r]?=some (.map es clk):=(f.same r (aI hr) p).trans hr;refine B6 (n.mod f p) i he ?_;refine hs l e x d _ (G l x A d Q f K) he j c D u ⟨_,i⟩ λx' W v h1 X=>⟨l++[e],⟨v,?_,by rw[h1];exact u,?_,?_⟩,?_⟩
  ·rw[X,i];simp
  ·rw[QY];exact⟨D,by simp,by intro a L b w;simp at w;subst w;intro e2;subst e2;exact j L⟩
  ·intro y m;rcases Qj.1 m with q|q
   ·exact c y q
   ·simp at q;subst q;exact he
  ·have M:(l++[e]).length<=es.toList.length:=by
    refine VZ ?_ ?_
    ·rw[QY];exact⟨D,by simp,by intro a L b w;simp at w;subst w;intro e2;subst e2;exact j L⟩
    ·intro y m;rcases Qj.1 m with q|q
     ·exact c y q
     ·simp at q;subst q;exact he
   simp at M ⊢;omega
 ·intro C;refine S l x A Q ?_ hr;rw[List.perm_ext_iff_of_nodup D J];intro y;refine⟨c y,λm=>?_⟩;have h1:=C y m;simp at h1;obtain⟨z,hz,N⟩:=h1;have:=xC g (c z hz) m N;rw[<-this];exact hz
end Go.Proofs.YtkehfflpbpdokaaGreatDoor
