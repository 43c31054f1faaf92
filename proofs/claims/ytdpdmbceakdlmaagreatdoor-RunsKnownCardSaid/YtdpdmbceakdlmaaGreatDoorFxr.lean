/-
 Ground, a text behind the first: a region that draws its order, where the class of heaps is asked for only from some operation on; it may be chosen there.
-/
import Derived.Test.YtdpdmbceakdlmaaGreatDoorFxa
open Array renaming getElem?_eq_some_iff->KO,getElem?_eq_getElem->K2,replicate->Lz,getElem?_toList->MD
open Bool renaming and_eq_true->KR,or_eq_true->LL
open Classical renaming byContradiction->QQ
open List renaming mem_range->KS,mem_cons_self->KV,mem_filter->K3,mem_cons_of_mem->K7,range->Lg,all_eq_true->Lv,getElem?_take->LB,filter_append->LH,filter_congr->LM,filter_eq_self->L1,getElem?_drop->L5,range'->MF,cons_append->M4,append_nil->Nd,filter_eq_nil_iff->Om,range_eq_range'->OU,range'_append_1->OV,mem_range'_1->PL
open List.Pairwise renaming filter->NW
open Nat renaming blt->LS,le_of_ble_eq_true->ME,ble->Ny
open Option.some renaming inj->K1
namespace Go.Proofs.YtdpdmbceakdlmaaGreatDoor
section
variable {P:Program}{M:Option (Heap->Prop)}{L:List Nat}{ops:Array Oper}{Q:Exit->Act->World->Prop}
def nu (P:Program)(L:List Nat)(ops:Array Oper)(x y:Oper):Bool:=b8 P L false ops x y&&(cH P L x==0||cH P L y==0)
def dO (P:Program)(L:List Nat)(lo k:Nat)(ops:Array Oper):Bool:=
 let B:=cE ops.toList []
 Ny lo ops.size&&Ny lo k&&Ny k ops.size&&iB P L k ops B&&(Lg ops.size).all λj=>match ops[j]? with
  |some oj=>(Lg j).all λi=>match ops[i]? with
    |some oi=>!LS i lo||(bif LS j lo then b8 P L false ops oi oj else nu P L ops oi oj)||waits B j i
    |none=>false
  |none=>false
theorem jY {lo k:Nat}(h:dO P L lo k ops=true):dh P L k ops=true/\lo<=ops.size/\lo<=k/\k<=ops.size:=by
 unfold dO at h
 simp only[KR] at h
 exact⟨h.1.2,ME h.1.1.1.1,ME h.1.1.1.2,ME h.1.1.2⟩
theorem pJ {lo k:Nat}(h:dO P L lo k ops=true){i j:Nat}{oi oj:Oper}(hi:ops[i]?=some oi)(hj:ops[j]?=some oj)(hij:i<j)(hil:i<lo):
  (if j<lo then b8 P L false ops oi oj=true else nu P L ops oi oj=true)\/waits (cE ops.toList []) j i=true:=by
 unfold dO at h
 simp only[KR] at h
 have hlt:j<ops.size:=(KO.1 hj).1
 have h1:=Lv.1 h.2 j (KS.2 hlt)
 rw[hj] at h1
 have h2:=Lv.1 h1 i (KS.2 hij)
 rw[hi] at h2
 simp only[LL] at h2
 rcases h2 with (h2|h2)|h2
 ·rw[eK.2 hil] at h2;cases h2
 ·by_cases hjl:j<lo
  ·rw[if_pos hjl];rw[eK.2 hjl] at h2;exact .inl h2
  ·rw[if_neg hjl];rw[qW hjl] at h2;exact .inl h2
 ·exact .inr h2
theorem sk {k:Nat}{K K':Act->World->Prop}(h:∀a w,K a w->K' a w):∀(l:List Nat) (a:Act) (w:World),cv P M k L ops K l a w->cv P M k L ops K' l a w
 |[],a,w,hh=>h a w hh
 |i::l,a,w,hh=>bV (λa w hk=>sk h l a w hk) hh
theorem pt {K K':Act->World->Prop}(h:∀a w,K a w->K' a w):∀(l:List Oper) (a:Act) (w:World),dw P M L ops K l a w->dw P M L ops K' l a w
 |[],a,w,hh=>h a w hh
 |o::l,a,w,hh=>lN (λa w hk=>pt h l a w hk) hh
theorem nz (k i:Nat):ks none k i=none:=by unfold ks;cases LS i k<;>rfl
theorem kV {K:Act->World->Prop}{k j:Nat}:∀(l1 l2:List Nat),(∀i∈l1,∃oi oj,ops[i]?=some oi/\ops[j]?=some oj/\b8 P L false ops oi oj=true)->
  ∀a w,cv P none k L ops K (l1++j::l2) a w->bF P none k L ops j (cv P none k L ops K (l1++l2)) a w
 |[],l2,_,a,w,h=>h
 |i::l1,l2,hc,a,w,h=>by
   have h1:bF P none k L ops i (bF P none k L ops j (cv P none k L ops K (l1++l2))) a w:=bV (kV l1 l2 (λk hk=>hc k (K7 _ hk))) h
   obtain⟨oi,oj,hi,hj,hcm⟩:=hc i KV
   have e:∀K',bF P none k L ops i K'=dx P none L ops oi K':=λK'=>by funext a w;simp only[bF,hi,nz]
   have e':∀K',bF P none k L ops j K'=dx P none L ops oj K':=λK'=>by funext a w;simp only[bF,hj,nz]
   rw[e,e'] at h1
   have h2:=ly hcm (λhb=>by cases hb) h1
   simp only[M4,cv]
   rw[e,e']
   exact h2
theorem Al {M M':Option (Heap->Prop)}{o:Oper}(hc:cH P L o=0){K:Act->World->Prop}{a:Act}{w:World}(h:dx P M L ops o K a w):dx P M' L ops o K a w:=by
 unfold dx at*
 split
 ·rename_i hw
  rw[if_pos hw,hc] at h
  rw[hc];exact h
 ·rename_i hw
  rw[if_neg hw] at h;exact h
theorem Fa {α:Type}{M:α->Option (Heap->Prop)}{o:Oper}(hc:cH P L o=0){X:α->World->Prop}{K:α->Act->World->Prop}{a:Act}{w:World}(hX:∀g w w',w.heap=w'.heap->X g w->X g w')(h:dx P none L ops o (λa w=>∃g,X g w/\K g a w) a w):
  ∃g,X g w/\dx P (M g) L ops o (K g) a w:=by
 unfold dx at*
 split at h
 ·rename_i hw
  rw[hc] at h
  obtain⟨v,h1,g,h2,h3⟩:=h
  refine⟨g,h2,?_⟩
  rw[if_pos hw,hc]
  exact⟨v,h1,h3⟩
 ·rename_i hw
  obtain⟨g,h2,h3⟩:=h
  refine⟨g,h2,?_⟩
  rw[if_neg hw];exact h3
def U1 (ops:Array Oper)(lo:Nat)(listed:Array Bool):List Nat:=(Lg ops.size).filter λi=>!listed.getD i true&&decide (i<lo)
def U2 (ops:Array Oper)(lo:Nat)(listed:Array Bool):List Nat:=(Lg ops.size).filter λi=>!listed.getD i true&&!decide (i<lo)
theorem vk (p:Nat->Bool)(lo:Nat):∀n:Nat,(Lg n).filter p=((Lg n).filter λi=>p i&&decide (i<lo))++((Lg n).filter λi=>p i&&!decide (i<lo))
 |0=>rfl
 |n+1=>by
   rw[List.range_succ,LH,LH,LH,vk p lo n]
   by_cases h:n<lo
   ·have e:((Lg n).filter λi=>p i&&!decide (i<lo))=[]:=by
     rw[Om]
     intro i hi
     have:=KS.1 hi
     simp;intro _;omega
    rw[e]
    cases hp:p n<;>simp[h,hp]
   ·cases hp:p n<;>simp[h,hp]
theorem ie (lo:Nat)(listed:Array Bool):ax ops listed=U1 ops lo listed++U2 ops lo listed:=vk _ lo ops.size
def sm (P:Program)(L:List Nat)(ops:Array Oper)(k:Nat)(Q:Exit->Act->World->Prop)(u1 u2:List Nat)(a:Act)(w:World):Prop:=
 cv P none k L ops (λa w=>∃G:Heap->Prop,G w.heap/\cv P (some G) k L ops (λa w=>Q .normal a w) u2 a w) u1 a w
theorem me {k:Nat}{u2:List Nat}:∀(u1:List Nat),(∀i∈u1,∀o,ops[i]?=some o->cH P L o=0)->∀a w,sm P L ops k Q u1 u2 a w->∃G:Heap->Prop,G w.heap/\cv P (some G) k L ops (λa w=>Q .normal a w) (u1++u2) a w
 |[],_,a,w,h=>h
 |i::u1,hc,a,w,h=>by
   unfold sm at h
   have h1:bF P none k L ops i (λa w=>∃G:Heap->Prop,G w.heap/\cv P (some G) k L ops (λa w=>Q .normal a w) (u1++u2) a w) a w:=bV (λa w hk=>me u1 (λj hj=>hc j (K7 _ hj)) a w hk) h
   simp only[M4,cv]
   unfold bF at h1 ⊢
   cases ho:ops[i]? with
   |none=>rw[ho] at h1;exact h1
   |some o=>
     rw[ho] at h1
     simp only[nz] at h1
     exact Fa (α:=Heap->Prop) (M:=λG=>ks (some G) k i) (X:=λG w=>G w.heap) (hc i KV o ho) (λg w w' e hx=>by rw[<-e];exact hx) h1
theorem Be {rn:Option Nat}{lo k:Nat}(hB2:dO P L lo k ops=true):∀(fuel:Nat) (listed:Array Bool) (a:Act) (w:World),listed.size=ops.size->jx ops listed->(ax ops listed).length=fuel->
  sm P L ops k Q (U1 ops lo listed) (U2 ops lo listed) a w->wpAnyIn (FW rn) 0 P .any ops Q fuel listed a w:=by
 have hB:=(jY hB2).1
 intro fuel
 induction fuel with
 |zero=>
   intro listed a w hs hc hl h
   have h0:ax ops listed=[]:=List.length_eq_zero_iff.1 hl
   have h1:U1 ops lo listed=[]:=by
    have:=h0;rw[ie lo] at this;exact(List.append_eq_nil_iff.1 this).1
   obtain⟨G,hG,h2⟩:=me _ (by rw[h1];simp) a w h
   exact qz (M:=some G) (λ_ _=>rfl) hB 0 listed a w (λ_=>hG) hs hc hl (by rw[ie lo];exact h2)
 |succ fuel ih=>
   intro listed a w hs hc hl h
   by_cases hall:∀i∈U1 ops lo listed,∀o,ops[i]?=some o->cH P L o=0
   ·obtain⟨G,hG,h2⟩:=me _ hall a w h
    exact qz (M:=some G) (λ_ _=>rfl) hB (fuel+1) listed a w (λ_=>hG) hs hc hl (by rw[ie lo];exact h2)
   ·-- something ahead of 'lo' that works on memory is still to come
    obtain⟨i0,hi0⟩:∃i0,i0∈U1 ops lo listed/\∃o,ops[i0]?=some o/\cH P L o≠0:=by
     apply QQ
     intro hne
     exact hall λi hi o ho=>QQ λhcl=>hne ⟨i,hi,o,ho,hcl⟩
    obtain⟨hi0,o0,ho0,hc0⟩:=hi0
    refine⟨λh0=>?_,λj hj=>?_⟩
    ·exfalso
     cases hU:ax ops listed with
     |nil=>rw[hU] at hl;simp at hl
     |cons m rest=>
       have hm:m∈ax ops listed:=by rw[hU];exact KV
       have hmin:∀i,i<m->listed.getD i false=true:=by
        intro i hi
        obtain⟨hm1,hm2⟩:=K3.1 hm
        have hmlt:=KS.1 hm1
        cases hli:listed.getD i true with
        |true=>
          have:i<listed.size:=by omega
          simp[this] at hli ⊢;exact hli
        |false=>
          have hi2:i∈ax ops listed:=K3.2 ⟨KS.2 (by omega),by simp[hli]⟩
          rw[hU] at hi2
          have hsorted:(ax ops listed).Pairwise (·<·):=NW _ List.pairwise_lt_range
          rw[hU,List.pairwise_cons] at hsorted
          rcases List.mem_cons.1 hi2 with e|e
          ·omega
          ·have:=hsorted.1 i e;omega
       obtain⟨hm1,hm2⟩:=K3.1 hm
       have hmlt:=KS.1 hm1
       have ho:ops[m]?=some ops[m]:=K2 hmlt
       have:m∈Region.ready .any ops listed:=mem_ready.2 ⟨by simpa using hm2,_,ho,λe he hb=>hmin _ (gU hB ho he hb)⟩
       rw[h0] at this
       cases this
    ·obtain⟨hu,oj,hoj,hall2⟩:=mem_ready.1 hj
     have hlt:j<ops.size:=(KO.1 hoj).1
     have hwait:∀i,listed.getD i true=false->i<ops.size->waits (cE ops.toList []) j i=false:=by
      intro i hiu hil
      cases h3:waits (cE ops.toList []) j i with
      |false=>rfl
      |true=>
        have h4:=fD hc (λj oj hj e he hb=>gU hB hj he hb) j i oj hoj hall2 h3
        have:i<listed.size:=by omega
        simp[this] at hiu h4
        rw[hiu] at h4;cases h4
     have hclosed:jx ops (listed.setIfInBounds j true):=by
      intro q ok hq hql e he hb
      by_cases hqj:j=q
      ·subst hqj
       have:ok=oj:=K1 (hq.symm.trans hoj)
       subst this
       exact getD_set_true (hall2 e he hb)
      ·rw[getD_set_ne false hqj] at hql
       exact getD_set_true (hc q ok hq hql e he hb)
     have hset:∀p:Nat->Bool,(Lg ops.size).filter (λi=>!(listed.setIfInBounds j true).getD i true&&p i)=(Lg ops.size).filter (λi=>(!listed.getD i true&&p i)&&decide (i≠j)):=by
      intro p
      refine LM λi hi=>?_
      have hi':i<listed.size:=by rw[hs];exact KS.1 hi
      by_cases hij:i=j
      ·subst hij;simp[hi']
      ·rw[getD_set_ne true (Ne.symm hij)];simp[hij]
     have hlen:(ax ops (listed.setIfInBounds j true)).length=fuel:=by
      obtain⟨l1,l2,e1,_,e3⟩:=cZ (λi=>!listed.getD i true) j (by simp[hu]) ops.size hlt
      have e1':ax ops listed=l1++j::l2:=e1
      have e4:ax ops (listed.setIfInBounds j true)=l1++l2:=by
       rw[<-e3]
       have:=hset (λ_=>true)
       simp only[Bool.and_true] at this
       exact this
      rw[e4]
      rw[e1'] at hl
      simp only[List.length_append,List.length_cons] at hl ⊢
      omega
     have pair:∀i∈U1 ops lo listed,i<j->∃oi oj,ops[i]?=some oi/\ops[j]?=some oj/\(if j<lo then b8 P L false ops oi oj=true else nu P L ops oi oj=true):=by
      intro i hi hij
      obtain⟨h1,h2⟩:=K3.1 hi
      have hil:=KS.1 h1
      simp only[KR,decide_eq_true_eq] at h2
      have hoi:ops[i]?=some ops[i]:=K2 hil
      refine⟨_,oj,hoi,hoj,?_⟩
      rcases pJ hB2 hoi hoj hij h2.2 with h3|h3
      ·exact h3
      ·rw[hwait i (by simpa using h2.1) hil] at h3;cases h3
     by_cases hjl:j<lo
     ·-- ahead of 'lo'
      obtain⟨l1,l2,e1,e2,e3⟩:=cZ (λi=>!listed.getD i true&&decide (i<lo)) j (by simp[hu,hjl]) ops.size hlt
      have e1':U1 ops lo listed=l1++j::l2:=e1
      have e4:U1 ops lo (listed.setIfInBounds j true)=l1++l2:=by rw[<-e3];exact hset λi=>decide (i<lo)
      have e5:U2 ops lo (listed.setIfInBounds j true)=U2 ops lo listed:=by
       refine(hset λi=>!decide (i<lo)).trans ?_
       refine LM λi _=>?_
       by_cases hij:i=j
       ·subst hij;simp[hjl]
       ·simp[hij]
      unfold sm at h
      rw[e1'] at h
      have h2:=kV l1 l2 (λi hi=>by
       obtain⟨oi,oj',q1,q2,q3⟩:=pair i (by rw[e1'];exact List.mem_append_left _ hi) (e2 i hi).1
       rw[if_pos hjl] at q3
       exact⟨oi,oj',q1,q2,q3⟩) a w h
      refine fF (M:=none) (k:=k) (λ_ _ _ _=>trivial) (bV (λa' w' hk=>?_) h2)
      refine ih _ a' w' (by simp[hs]) hclosed hlen ?_
      rw[e4,e5];exact hk
     ·-- behind it: no memory
      obtain⟨h1,h2⟩:=K3.1 hi0
      simp only[KR,decide_eq_true_eq] at h2
      obtain⟨oi,oj',q1,q2,q3⟩:=pair i0 hi0 (by omega)
      rw[if_neg hjl] at q3
      have e0:oi=o0:=K1 (q1.symm.trans ho0)
      have ej:oj'=oj:=K1 (q2.symm.trans hoj)
      subst e0;subst ej
      have hcj:cH P L oj'=0:=by
       unfold nu at q3
       simp only[KR,LL,beq_iff_eq] at q3
       exact q3.2.resolve_left hc0
      obtain⟨l1,l2,e1,e2,e3⟩:=cZ (λi=>!listed.getD i true&&!decide (i<lo)) j (by simp[hu,hjl]) ops.size hlt
      have e1':U2 ops lo listed=l1++j::l2:=e1
      have e4:U2 ops lo (listed.setIfInBounds j true)=l1++l2:=by rw[<-e3];exact hset λi=>!decide (i<lo)
      have e5:U1 ops lo (listed.setIfInBounds j true)=U1 ops lo listed:=by
       refine(hset λi=>decide (i<lo)).trans ?_
       refine LM λi _=>?_
       by_cases hij:i=j
       ·subst hij;simp[hjl]
       ·simp[hij]
      unfold sm at h
      rw[e1'] at h
      have h3:cv P none k L ops (bF P none k L ops j (λa w=>∃G:Heap->Prop,G w.heap/\cv P (some G) k L ops (λa w=>Q .normal a w) (l1++l2) a w)) (U1 ops lo listed) a w:=by
       refine sk (λa' w' hk=>?_) _ a w h
       obtain⟨G,hG,hk⟩:=hk
       have h4:=mT (M:=some G) (k:=k) (λ_ _=>rfl) l1 l2 (λi hi=>by
        obtain⟨hij,hiu⟩:=e2 i hi
        have hil:i<ops.size:=by omega
        have hoi:ops[i]?=some ops[i]:=K2 hil
        simp only[KR] at hiu
        refine⟨hij,ops[i],oj',hoi,hoj,?_⟩
        rcases ib hB hoi hoj hij with h5|h5
        ·exact h5
        ·rw[hwait i (by simpa using hiu.1) hil] at h5;cases h5) a' w' hk
       unfold bF at h4 ⊢
       rw[hoj] at h4 ⊢
       refine Al (M:=ks (some G) k j) hcj ?_
       have:dx P (ks (some G) k j) L ops oj' (λa w=>iC (some G) w.heap/\cv P (some G) k L ops (λa w=>Q .normal a w) (l1++l2) a w) a' w':=lv (M:=some G) hG (.inl hcj) h4
       exact lN (λa w hk=>⟨G,hk.1,hk.2⟩) this
      have h4:cv P none k L ops (λa w=>∃G:Heap->Prop,G w.heap/\cv P (some G) k L ops (λa w=>Q .normal a w) (l1++l2) a w) (U1 ops lo listed++j::[]) a w:=by
       rw[iS];exact h3
      have h5:=kV (U1 ops lo listed) [] (λi hi=>by
       obtain⟨g1,g2⟩:=K3.1 hi
       simp only[KR,decide_eq_true_eq] at g2
       obtain⟨oi',oj2,r1,r2,r3⟩:=pair i hi (by omega)
       rw[if_neg hjl] at r3
       unfold nu at r3
       simp only[KR] at r3
       exact⟨oi',oj2,r1,r2,r3.1⟩) a w h4
      rw[Nd] at h5
      refine fF (M:=none) (k:=k) (λ_ _ _ _=>trivial) (bV (λa' w' hk=>?_) h5)
      refine ih _ a' w' (by simp[hs]) hclosed hlen ?_
      rw[e4,e5];exact hk
theorem pI {rn:Option Nat}{id:Nat}{a:Act}{w:World}{lo k:Nat}(hm:P.follows .mixedOrders=true)(hB:dO P L lo k ops=true)
  (h:dw P none L ops (λa w=>∃G:Heap->Prop,G w.heap/\dw P (some G) L ops (dw P none L ops (λa w=>Q .normal a w) (ops.toList.drop k)) ((ops.toList.take k).drop lo) a w) (ops.toList.take lo) a {w with drawn:=w.drawn+1}):
  (Code.region id ops true).wpIn (FW rn) 0 P Q a w:=by
 obtain⟨_,hlo,hlk,hks⟩:=jY hB
 have hf:∀j,(Lz ops.size false).getD j true=if j<ops.size then false else true:=λj=>by
  by_cases hj:j<ops.size
  ·simp[hj]
  ·simp[hj]
 have hu:ax ops (Lz ops.size false)=Lg ops.size:=by
  unfold ax
  rw[L1]
  intro i hi
  have:=KS.1 hi
  simp[this]
 have hu1:U1 ops lo (Lz ops.size false)=MF 0 lo:=by
  unfold U1
  have e:(Lg ops.size).filter (λi=>!(Lz ops.size false).getD i true&&decide (i<lo))=(Lg ops.size).filter λi=>decide (i<lo):=LM λi hi=>by
   have:=KS.1 hi
   rw[hf,if_pos this];simp
  rw[e]
  have h1:Lg ops.size=MF 0 lo++MF lo (ops.size - lo):=by
   rw[OU]
   have:ops.size=lo+(ops.size - lo):=by omega
   conv=>lhs;rw[this,<-OV]
   simp
  rw[h1,LH,L1.2 (λi hi=>by have:=PL.1 hi;simp;omega),Om.2 (λi hi=>by have:=PL.1 hi;simp;omega),Nd]
 have hu2:U2 ops lo (Lz ops.size false)=MF lo (ops.size - lo):=by
  unfold U2
  have e:(Lg ops.size).filter (λi=>!(Lz ops.size false).getD i true&&!decide (i<lo))=(Lg ops.size).filter λi=>!decide (i<lo):=LM λi hi=>by
   have:=KS.1 hi
   rw[hf,if_pos this];simp
  rw[e]
  have h1:Lg ops.size=MF 0 lo++MF lo (ops.size - lo):=by
   rw[OU]
   have:ops.size=lo+(ops.size - lo):=by omega
   conv=>lhs;rw[this,<-OV]
   simp
  rw[h1,LH,Om.2 (λi hi=>by have:=PL.1 hi;simp;omega),L1.2 (λi hi=>by have:=PL.1 hi;simp;omega),List.nil_append]
 refine wpIn_region_any hm (Be hB ops.size _ a _ (by simp) ?_ (by rw[hu];simp) ?_)
 ·intro j oj _ hl
  have:∀j,(Lz ops.size false).getD j false=false:=λj=>by
   rcases Nat.lt_or_ge j ops.size with h|h
   ·simp[h]
   ·simp[h]
  rw[this] at hl
  cases hl
 ·rw[hu1,hu2]
  unfold sm
  have t0:=di (P:=P) (M:=none) (L:=L) (ops:=ops) (K:=λa w=>∃G:Heap->Prop,G w.heap/\cv P (some G) k L ops (λa w=>Q .normal a w) (MF lo (ops.size - lo)) a w) (k:=k) (M':=none) (ops.toList.take lo) 0 (λj hj=>by
   have hj':j<lo:=by simp at hj;omega
   rw[LB,if_pos hj',Nat.zero_add,MD]) (λj hj=>nz _ _)
  have hl0:(ops.toList.take lo).length=lo:=by simp;omega
  rw[hl0] at t0
  rw[t0]
  refine pt (λa' w' hk=>?_) _ a _ h
  obtain⟨G,hG,hk⟩:=hk
  refine⟨G,hG,?_⟩
  have t1:=di (P:=P) (M:=some G) (L:=L) (ops:=ops) (K:=dw P none L ops (λa w=>Q .normal a w) (ops.toList.drop k)) (k:=k) (M':=some G) ((ops.toList.take k).drop lo) lo (λj hj=>by
   have hj':lo+j<k:=by simp at hj;omega
   rw[L5,LB,if_pos hj',MD]) (λj hj=>by
   have:LS (lo+j) k=true:=eK.2 (by simp at hj;omega)
   unfold ks;rw[this];rfl)
  have t2:=di (P:=P) (M:=some G) (L:=L) (ops:=ops) (K:=λa w=>Q .normal a w) (k:=k) (M':=none) (ops.toList.drop k) k (λj hj=>by
   rw[L5,MD]) (λj hj=>by
   have:LS (k+j) k=false:=qW (by omega)
   unfold ks;rw[this];rfl)
  have hl1:((ops.toList.take k).drop lo).length=k - lo:=by simp;omega
  have hl2:(ops.toList.drop k).length=ops.size - k:=by simp
  rw[hl1] at t1
  rw[hl2] at t2
  have hsplit:MF lo (ops.size - lo)=MF lo (k - lo)++MF k (ops.size - k):=by
   have h1:ops.size - lo=(k - lo)+(ops.size - k):=by omega
   rw[h1,<-OV]
   congr 2;omega
  rw[hsplit,iS,t2,t1]
  exact hk
end
end Go.Proofs.YtdpdmbceakdlmaaGreatDoor
