/-
 Ground, a text behind the first: a region in which one effect floats beside others: it may go ahead of any of those that do not wait for it. The walk serves every order if it serves each place of that one.
-/
import Derived.Test.YtkehfflpbpdokaaGreatDoorFxa
open Array renaming getElem?_eq_some_iff->Qv,getElem?_eq_getElem->Q8,replicate->RJ
open Bool renaming and_eq_true->Qz,or_eq_true->Rm,not_eq_true'->RR
open Go.Region renaming binds->RY
open List renaming mem_cons_self->Qp,mem_cons->Qs,mem_cons_of_mem->Qu,mem_filter->QL,mem_range->Q7,pairwise_cons->Rf,all_eq_true->Rk,range->RI,filter_eq_self->RQ,takeWhile_cons->Si,filter_congr->Sp,filter_filter->Tv,pairwise_lt_range->UJ,cons_append->UZ,dropWhile_cons->V4
open List.Pairwise renaming filter->VQ
open Nat renaming eq_of_beq_eq_true->QH,beq->QQ,lt_or_ge->Q6,blt->R3,ble->Uw,lt_trans->WZ
open Ne renaming symm->SI
open Option.some renaming inj->Qq
namespace Go.Proofs.YtkehfflpbpdokaaGreatDoor
section
variable {P:Program}{M:Option (aa->Prop)}{L:List Nat}{ops:Array Oper}{Q:Exit->Act->World->Prop}
def iV (P:Program)(L:List Nat)(o:Oper):Bool:=dY P L o==0||dY P L o==1
def Fc (ops:Array Oper)(i:Nat)(t:Oper->Bool):Bool:=match ops[i]? with|some o=>t o|none=>false
theorem iK {i:Nat}{t:Oper->Bool}{o:Oper}(h:Fc ops i t=true)(a:ops[i]?=some o):t o=true:=by
 unfold Fc at h;rw[a] at h;exact h
def sR (P:Program)(L:List Nat)(ops:Array Oper)(f c:Nat)(B:List Nat):Bool:=
 decide (f<c)&&decide (c<ops.size)&&waits B c f&&
 (RI ops.size).all λj=>Fc ops j λoj=>
  (oj.after.all λe=>!RY .any e||decide (e.on<j))&&
  ((RI j).all λi=>i==f||j==f||Fc ops i (λoi=>df P L true ops oi oj||waits B j i))&&
  Fc ops f (λof=>(bif R3 j f then df P L true ops oj of||waits B f j else
   bif QQ j f then true else
   bif R3 j c then !(waits B j f)&&(!(iV P L oj)||(df P L true ops of oj&&df P L true ops oj of))
   else (waits B j f||df P L true ops of oj)))
structure Hn (P:Program)(L:List Nat)(ops:Array Oper)(f c:Nat):Prop where
 fc:f<c
 cn:c<ops.size
 wait:waits (dS ops.toList []) c f=true
 lt:∀j oj,ops[j]?=some oj->∀e∈oj.after,RY .any e=true->e.on<j
 pair:∀i j oi oj,ops[i]?=some oi->ops[j]?=some oj->i<j->i≠f->j≠f->df P L true ops oi oj=true\/waits (dS ops.toList []) j i=true
 below:∀i oi of,ops[i]?=some oi->ops[f]?=some of->i<f->df P L true ops oi of=true\/waits (dS ops.toList []) f i=true
 mid:∀i oi of,ops[i]?=some oi->ops[f]?=some of->f<i->i<c->waits (dS ops.toList []) i f=false/\(iV P L oi=true->df P L true ops of oi=true/\df P L true ops oi of=true)
 above:∀i oi of,ops[i]?=some oi->ops[f]?=some of->c<=i->waits (dS ops.toList []) i f=true\/df P L true ops of oi=true
theorem rS {f c:Nat}(h:sR P L ops f c (dS ops.toList [])=true):Hn P L ops f c:=by
 unfold sR at h;simp only[Qz,decide_eq_true_eq] at h;obtain⟨⟨⟨h1,o⟩,p⟩,r⟩:=h;have key:∀j oj,ops[j]?=some oj->_:=λj oj b=>by
  have a:j<ops.size:=(Qv.1 b).1;exact iK (Rk.1 r j (Q7.2 a)) b
 simp only[Qz] at key;refine⟨h1,o,p,?_,?_,?_,?_,?_⟩
 ·intro j oj b e he d;have:=Array.all_eq_true_iff_forall_mem.1 (key j oj b).1.1 e he;simpa[d] using this
 ·intro i j oi oj hi b k l m;have:=Rk.1 (key j oj b).1.2 i (Q7.2 k);simp only[Rm,beq_iff_eq] at this;rcases this with (q|q)|q
  ·exact absurd q l
  ·exact absurd q m
  ·have:=iK q hi;simpa[Rm] using this
 ·intro i oi of hi g a;have:=iK (key i oi hi).2 g;rw[gR.2 a] at this;simpa[Rm] using this
 ·intro i oi of hi g s n;have:=iK (key i oi hi).2 g;rw[Af (by omega:¬i<f),gR.2 n] at this;have d:QQ i f=false:=by
   cases q:QQ i f with
   |false=>rfl
   |true=>have:=QH q;omega
  rw[d] at this;simp only[cond_false,cond_true,Qz,Rm,RR] at this;refine⟨this.1,λt=>?_⟩;rcases this.2 with q|q
  ·rw[t] at q;cases q
  ·exact q
 ·intro i oi of hi g u;have:=iK (key i oi hi).2 g;rw[Af (by omega:¬i<f),Af (by omega:¬i<c)] at this;have d:QQ i f=false:=by
   cases q:QQ i f with
   |false=>rfl
   |true=>have:=QH q;omega
  rw[d] at this;simpa[Rm] using this
theorem BK {m:Bool}{x y:Oper}(h:df P L m ops x y=true):iV P L x=true\/iV P L y=true:=by
 obtain⟨_,a,_⟩:=nT h;unfold iV;rcases a with q|q|⟨q,_⟩|⟨_,q|q⟩
 ·left;simp[q]
 ·right;simp[q]
 ·left;simp[q]
 ·left;simp[q]
 ·right;simp[q]
theorem iC {K:Act->World->Prop}{j:Nat}(d:M.isSome=true):∀(b l2:List Nat),(∀i∈b,∃oi oj,ops[i]?=some oi/\ops[j]?=some oj/\df P L true ops oi oj=true)->
  ∀a w,fW P M ops.size L ops K (b++j::l2) a w->ct P M ops.size L ops j (fW P M ops.size L ops K (b++l2)) a w
 |[],l2,_,a,w,h=>h
 |i::b,l2,f,a,w,h=>by
   have h1:ct P M ops.size L ops i (ct P M ops.size L ops j (fW P M ops.size L ops K (b++l2))) a w:=dL (iC d b l2 (λk hk=>f k (Qu _ hk))) h;obtain⟨oi,oj,hi,g,c⟩:=f i Qp;have m:qb M ops.size i=M:=by unfold qb;rw[gR.2 (Qv.1 hi).1];rfl
   have n:qb M ops.size j=M:=by unfold qb;rw[gR.2 (Qv.1 g).1];rfl
   have e:∀K',ct P M ops.size L ops i K'=gA P M L ops oi K':=λK'=>by funext a w;simp only[ct,hi,m]
   have l:∀K',ct P M ops.size L ops j K'=gA P M L ops oj K':=λK'=>by funext a w;simp only[ct,g,n]
   rw[e,l] at h1;have o:=qN c (λ_=>⟨rfl,d⟩) h1;simp only[UZ,fW];rw[e,l];exact o
theorem sg {rn:Option Nat}{fuel j:Nat}{listed:Array Bool}{a:Act}{w:World}{X:Act->World->Prop}{oj:Oper}(b:ops[j]?=some oj)(c:jK M w.heap)
  (h:ct P M ops.size L ops j X a w) (go:∀d w',jK M w'.heap->X d w'->wpAnyIn (FW rn) 0 P .any ops Q fuel (listed.setIfInBounds j true) d w'):
  wpOpIn (FW rn) 0 P ops Q j (λa w=>wpAnyIn (FW rn) 0 P .any ops Q fuel (listed.setIfInBounds j true) a w) a w:=by
 have f:qb M ops.size j=M:=by unfold qb;rw[gR.2 (Qv.1 b).1];rfl
 have g:ct P M ops.size L ops j (λa w=>jK M w.heap/\X a w) a w:=by
  unfold ct at h ⊢;rw[b] at h ⊢;exact qx c (.inr (.inr f)) h
 exact lF (λ_ _ _ _=>c) (dL (λd w' e=>go d w' e.1 e.2) g)
theorem wpAny_first {rn:Option Nat}{fuel:Nat}{listed:Array Bool}{a:Act}{w:World}(hs:listed.size=ops.size)(r:(aN ops listed).length=fuel+1)(p:∀j oj,ops[j]?=some oj->∀e∈oj.after,RY .any e=true->e.on<j)
  (h:∀j oj,ops[j]?=some oj->listed.getD j true=false->(∀e∈oj.after,RY .any e=true->listed.getD e.on false=true)->wpOpIn (FW rn) 0 P ops Q j (λa w=>wpAnyIn (FW rn) 0 P .any ops Q fuel (listed.setIfInBounds j true) a w) a w):
  wpAnyIn (FW rn) 0 P .any ops Q (fuel+1) listed a w:=by
 refine⟨λt=>?_,λj u=>?_⟩
 ·exfalso;cases o:aN ops listed with
  |nil=>rw[o] at r;simp at r
  |cons m rest=>
    have hm:m∈aN ops listed:=by rw[o];exact Qp
    have g:∀i,i<m->listed.getD i false=true:=by
     intro i hi;obtain⟨d,k⟩:=QL.1 hm;have c:=Q7.1 d;cases f:listed.getD i true with
     |true=>
       have:i<listed.size:=by omega
       simp[this] at f ⊢;exact f
     |false=>
       have l:i∈aN ops listed:=QL.2 ⟨Q7.2 (by omega),by simp[f]⟩;rw[o] at l;have b:(aN ops listed).Pairwise (·<·):=VQ _ UJ;rw[o,Rf] at b;rcases Qs.1 l with e|e
       ·omega
       ·have:=b.1 i e;omega
    obtain⟨d,k⟩:=QL.1 hm;have c:=Q7.1 d;have s:ops[m]?=some ops[m]:=Q8 c;have:m∈Region.ready .any ops listed:=mem_ready.2 ⟨by simpa using k,_,s,λe he v=>g _ (p m _ s e he v)⟩;rw[t] at this;cases this
 ·obtain⟨hu,oj,q,n⟩:=mem_ready.1 u;exact h j oj q hu n
def lL (listed:Array Bool)(l:List Nat):List Nat:=l.filter λi=>!listed.getD i true
theorem qe {listed:Array Bool}{j:Nat}{l:List Nat}(c:∀i∈l,i<listed.size):lL (listed.setIfInBounds j true) l=(l.filter λi=>!listed.getD i true&&decide (i≠j)):=by
 unfold lL;refine Sp λi hi=>?_;have b:=c i hi;by_cases a:i=j
 ·subst a;simp[b]
 ·rw[getD_set_ne true (SI a)];simp[a]
def kf (n f:Nat):List Nat:=(RI n).filter λi=>!QQ i f
def iR (P:Program)(L:List Nat)(ops:Array Oper)(f c i:Nat):Bool:=Uw c i||(R3 f i&&Fc ops i λo=>!(iV P L o))
def jY (P:Program)(M:Option (aa->Prop))(L:List Nat)(ops:Array Oper)(f c:Nat)(K:Act->World->Prop):List Nat->Act->World->Prop
 |[]=>fW P M ops.size L ops K [f]
 |i::l=>bif Uw c i then fW P M ops.size L ops K (f::i::l) else
   bif iR P L ops f c i then λa w=>fW P M ops.size L ops K (f::i::l) a w/\ct P M ops.size L ops i (jY P M L ops f c K l) a w
   else ct P M ops.size L ops i (jY P M L ops f c K l)
theorem yV {i k:Nat}:Uw i k=true↔i<=k:=⟨Nat.le_of_ble_eq_true,Nat.ble_eq_true_of_le⟩
theorem DK {f c:Nat}{K:Act->World->Prop}{l:List Nat}(h:∀i∈l,c<=i):jY P M L ops f c K l=fW P M ops.size L ops K (f::l):=by
 cases l with
 |nil=>rfl
 |cons i l=>
   show (bif Uw c i then _ else _)=_;rw[yV.2 (h i Qp)];rfl
theorem Di {i:Nat}{oi:Oper}{K:Act->World->Prop}{a:Act}{w:World}(hi:ops[i]?=some oi)(b:jK M w.heap)(h:ct P M ops.size L ops i K a w):ct P M ops.size L ops i (λa w=>jK M w.heap/\K a w) a w:=by
 have c:qb M ops.size i=M:=by unfold qb;rw[gR.2 (Qv.1 hi).1];rfl
 unfold ct at h ⊢;rw[hi] at h ⊢;exact qx b (.inr (.inr c)) h
theorem oa {i j:Nat}{oi oj:Oper}(f:M.isSome=true)(hi:ops[i]?=some oi)(c:ops[j]?=some oj)(b:df P L true ops oi oj=true){K:Act->World->Prop}{a:Act}{w:World}
  (h:ct P M ops.size L ops i (ct P M ops.size L ops j K) a w):ct P M ops.size L ops j (ct P M ops.size L ops i K) a w:=by
 have g:qb M ops.size i=M:=by unfold qb;rw[gR.2 (Qv.1 hi).1];rfl
 have k:qb M ops.size j=M:=by unfold qb;rw[gR.2 (Qv.1 c).1];rfl
 have e:∀K',ct P M ops.size L ops i K'=gA P M L ops oi K':=λK'=>by funext a w;simp only[ct,hi,g]
 have d:∀K',ct P M ops.size L ops j K'=gA P M L ops oj K':=λK'=>by funext a w;simp only[ct,c,k]
 rw[e,d] at h;rw[d,e];exact qN b (λ_=>⟨rfl,f⟩) h
theorem Hx {j:Nat}{oj:Oper}(h:ops[j]?=some oj)(e:iV P L oj=true){A B:Act->World->Prop}{a:Act}{w:World}(c:jK M w.heap)(h1:ct P M ops.size L ops j A a w)(b:ct P M ops.size L ops j B a w):
  ct P M ops.size L ops j (λa w=>A a w/\B a w) a w:=by
 have i:qb M ops.size j=M:=by unfold qb;rw[gR.2 (Qv.1 h).1];rfl
 unfold ct at*;rw[h] at*;simp only[i] at*;unfold gA at*;split
 ·rename_i hw;rw[if_pos hw] at h1 b;unfold iV at e;simp only[Rm,beq_iff_eq] at e;rcases e with q|q
  ·rw[q] at h1 b ⊢;obtain⟨v1,d,f⟩:=h1;obtain⟨v2,r2,g⟩:=b;have:=(d w).symm.trans (r2 w);cases this;exact⟨v1,d,f,g⟩
  ·rw[q] at h1 b ⊢;obtain⟨v1,d,f⟩:=h1;obtain⟨v2,r2,g⟩:=b;have:=(d w (sK c)).symm.trans (r2 w (sK c));cases this;exact⟨v1,d,f,g⟩
 ·rename_i hw;rw[if_neg hw] at h1 b;exact⟨h1,b⟩
theorem ui {f c i:Nat}{oi:Oper}(hi:ops[i]?=some oi):iR P L ops f c i=true↔c<=i\/(f<i/\iV P L oi=false):=by
 unfold iR Fc;rw[hi];simp only[Rm,Qz,RR];rw[yV,gR]
theorem zq {f c:Nat}{K:Act->World->Prop}:∀(l:List Nat) (a:Act) (w:World),jY P M L ops f c K l a w->fW P M ops.size L ops K ((l.takeWhile λi=>!iR P L ops f c i)++f::l.dropWhile λi=>!iR P L ops f c i) a w
 |[],a,w,h=>h
 |i::l,a,w,h=>by
   unfold jY at h;cases b:Uw c i with
   |true=>
     rw[b] at h;have hs:iR P L ops f c i=true:=by unfold iR;rw[b];rfl
     simp only[Si,V4,hs];exact h
   |false=>
     rw[b] at h;cases hs:iR P L ops f c i with
     |true=>
       rw[hs] at h;simp only[Si,V4,hs];exact h.1
     |false=>
       rw[hs] at h;simp only[Si,V4,hs];exact dL (zq l) h
theorem ud {f c j:Nat}{of oj:Oper}{K:Act->World->Prop}(o:M.isSome=true)(p:ops[f]?=some of)(m:ops[j]?=some oj)(n:(f<j->j<c->iV P L oj=true)->df P L true ops of oj=true\/j<f)(g:c<=j->df P L true ops of oj=true):
  ∀(b l2:List Nat),(∀i∈b,i<j/\∃oi,ops[i]?=some oi/\df P L true ops oi oj=true/\(iV P L oj=true\/iV P L oi=true))->(∀i∈l2,j<i)->(c<=j->True)->
  ∀a w,jK M w.heap->jY P M L ops f c K (b++j::l2) a w->ct P M ops.size L ops j (jY P M L ops f c K (b++l2)) a w
 |[],l2,_,s,_,a,w,l,h=>by
   simp only[List.nil_append] at h ⊢;unfold jY at h;cases e:Uw c j with
   |true=>
     rw[e] at h;have d:=yV.1 e;rw[DK λi hi=>Nat.le_trans d (Nat.le_of_lt (s i hi))];exact iC o [f] l2 (λi hi=>by rw[List.mem_singleton] at hi;subst hi;exact⟨of,oj,p,m,g d⟩) a w h
   |false=>
     rw[e] at h;cases hs:iR P L ops f c j with
     |true=>rw[hs] at h;exact h.2
     |false=>rw[hs] at h;exact h
 |i::b,l2,h1,s,C,a,w,l,h=>by
   obtain⟨D,oi,hi,t,u⟩:=h1 i Qp;have v:=λk hk=>h1 k (Qu _ hk);simp only[UZ] at h ⊢;unfold jY at h;rw[show jY P M L ops f c K (i::(b++l2))=(bif Uw c i then fW P M ops.size L ops K (f::i::(b++l2)) else
    bif iR P L ops f c i then λa w=>fW P M ops.size L ops K (f::i::(b++l2)) a w/\ct P M ops.size L ops i (jY P M L ops f c K (b++l2)) a w
    else ct P M ops.size L ops i (jY P M L ops f c K (b++l2))) from rfl]
   have inner:ct P M ops.size L ops i (jY P M L ops f c K (b++j::l2)) a w->ct P M ops.size L ops j (ct P M ops.size L ops i (jY P M L ops f c K (b++l2))) a w:=λx=>
    oa o hi m t (dL (λE w' hk=>ud o p m n g b l2 v s C E w' hk.1 hk.2) (Di hi l x))
   have front:df P L true ops of oj=true->fW P M ops.size L ops K (f::i::(b++j::l2)) a w->ct P M ops.size L ops j (fW P M ops.size L ops K (f::i::(b++l2))) a w:=λF x=>
    iC o (f::i::b) l2 (λk hk=>by
     rcases Qs.1 hk with q|q
     ·subst q;exact⟨of,oj,p,m,F⟩
     ·obtain⟨_,ok,y,z,_⟩:=h1 k q;exact⟨ok,oj,y,m,z⟩) a w x
   cases e:Uw c i with
   |true=>
     rw[e] at h;exact front (g (by have:=yV.1 e;omega)) h
   |false=>
     rw[e] at h;cases hs:iR P L ops f c i with
     |false=>
       rw[hs] at h;exact inner h
     |true=>
       rw[hs] at h;have A:¬c<=i:=λq=>by rw[yV.2 q] at e;cases e
       rcases (ui hi).1 hs with q|⟨H,G⟩
       ·exact absurd q A
       ·have d:iV P L oj=true:=by
         rcases u with r|r
         ·exact r
         ·rw[G] at r;cases r
        have B:df P L true ops of oj=true:=by
         rcases n (λ_ _=>d) with r|r
         ·exact r
         ·omega
        exact Hx m d l (front B h.1) (inner h.2)
theorem G5 {rn:Option Nat}{f c:Nat}(hM:M.isSome=true)(y:Hn P L ops f c):∀(fuel:Nat) (listed:Array Bool) (a:Act) (w:World),jK M w.heap->listed.size=ops.size->qF ops listed->(aN ops listed).length=fuel->
  (listed.getD f true=true->fW P M ops.size L ops (λa w=>Q .normal a w) (aN ops listed) a w)->
  (listed.getD f true=false->jY P M L ops f c (λa w=>Q .normal a w) (lL listed (kf ops.size f)) a w)->
  wpAnyIn (FW rn) 0 P .any ops Q fuel listed a w:=by
 intro fuel
 induction fuel with
 |zero=>
   intro listed a w K hs hc N h _;have h0:aN ops listed=[]:=List.length_eq_zero_iff.1 N;have hf:listed.getD f true=true:=by
    cases q:listed.getD f true with
    |true=>rfl
    |false=>
      have:f∈aN ops listed:=QL.2 ⟨Q7.2 (WZ y.fc y.cn),by simp[q]⟩;rw[h0] at this;cases this
   refine⟨?_,by have:=h hf;rw[h0] at this;exact this⟩;rw[List.eq_nil_iff_forall_not_mem];intro j hj;obtain⟨hu,o,ho,_⟩:=mem_ready.1 hj;have D:j<ops.size:=(Qv.1 ho).1;have:j∈aN ops listed:=QL.2 ⟨Q7.2 D,by simp[hu]⟩;rw[h0] at this;cases this
 |succ fuel ih=>
   intro listed a w K hs hc N h hn;refine wpAny_first hs N y.lt λj oj b hu E=>?_;have D:j<ops.size:=(Qv.1 b).1;have O:f<ops.size:=WZ y.fc y.cn;have F:ops[f]?=some ops[f]:=Q8 O;have n:∀i,listed.getD i true=false->i<ops.size->waits (dS ops.toList []) j i=false:=by
    intro i d v;cases z:waits (dS ops.toList []) j i with
    |false=>rfl
    |true=>
      have h4:=kY hc y.lt j i oj b E z;have:i<listed.size:=by omega
      simp[this] at d h4;rw[d] at h4;cases h4
   have g:qF ops (listed.setIfInBounds j true):=by
    intro q ok x R e he hb;by_cases S:j=q
    ·subst S;have:ok=oj:=Qq (x.symm.trans b);subst this;exact getD_set_true (E e he hb)
    ·rw[getD_set_ne false S] at R;exact getD_set_true (hc q ok x R e he hb)
   obtain⟨l1,l2,e1,e2,e3⟩:=jd (λi=>!listed.getD i true) j (by simp[hu]) ops.size D;have T:aN ops listed=l1++j::l2:=e1;have e4:aN ops (listed.setIfInBounds j true)=l1++l2:=by
    rw[<-e3];exact qe λi hi=>by rw[hs];exact Q7.1 hi
   have hlen:(aN ops (listed.setIfInBounds j true)).length=fuel:=by
    rw[e4];rw[T] at N;simp only[List.length_append,List.length_cons] at N ⊢;omega
   have U:(listed.setIfInBounds j true).getD j true=true:=by
    have:j<listed.size:=by omega
    simp[this]
   have cm:∀i,i<j->listed.getD i true=false->i≠f->j≠f->∃oi,ops[i]?=some oi/\df P L true ops oi oj=true:=by
    intro i t d af k;have v:i<ops.size:=by omega
    have u:ops[i]?=some ops[i]:=Q8 v;refine⟨ops[i],u,?_⟩;rcases y.pair i j _ _ u b t af k with z|z
    ·exact z
    ·rw[n i d v] at z;cases z
   cases m:listed.getD f true with
   |true=>
     have k:j≠f:=by rintro rfl;rw[hu] at m;cases m
     have H:=h m;rw[T] at H;have I:=iC hM l1 l2 (λi hi=>by
      obtain⟨t,d⟩:=e2 i hi;have A:listed.getD i true=false:=by simpa using d
      obtain⟨oi,V,J⟩:=cm i t A (by rintro rfl;rw[m] at A;cases A) k;exact⟨oi,oj,V,b,J⟩) a w H
     refine sg b K I λW w' B hk=>ih _ W w' B (by simp[hs]) g hlen (λ_=>by rw[e4];exact hk) (λx=>?_);rw[getD_set_ne true k] at x;rw[m] at x;cases x
   |false=>
     have H:=hn m;by_cases k:j=f
     ·subst k;have h1:=zq _ a w H;have X:∀i∈(lL listed (kf ops.size j)).takeWhile (λi=>!iR P L ops j c i),i<ops.size/\i≠j/\listed.getD i true=false/\iR P L ops j c i=false:=by
       intro i hi;have V:=Rk.1 (List.all_takeWhile (p:=λi=>!iR P L ops j c i) (l:=lL listed (kf ops.size j))) i hi;have J:=(List.takeWhile_sublist _).mem hi;obtain⟨q3,q4⟩:=QL.1 J;obtain⟨q5,q6⟩:=QL.1 q3;refine⟨Q7.1 q5,?_,by simpa using q4,by simpa using V⟩;rintro rfl;simp at q6
      have I:=iC hM _ _ (λi hi=>by
       obtain⟨v,t,d,Y⟩:=X i hi;have u:ops[i]?=some ops[i]:=Q8 v;have a1:¬(c<=i\/(j<i/\iV P L ops[i]=false)):=λq=>by
        rw[(ui u).2 q] at Y;cases Y
       refine⟨ops[i],oj,u,b,?_⟩;rcases Q6 i j with q|q
       ·rcases y.below i _ _ u b q with z|z
        ·exact z
        ·rw[n i d v] at z;cases z
       ·have Z:j<i:=by omega
        refine((y.mid i _ _ u b Z (by omega)).2 ?_).2;cases a6:iV P L ops[i] with
        |true=>rfl
        |false=>exact absurd (.inr ⟨Z,a6⟩) a1) a w h1
      rw[List.takeWhile_append_dropWhile] at I;refine sg b K I λW w' B hk=>ih _ W w' B (by simp[hs]) g hlen (λ_=>?_) (λx=>?_)
      ·have e5:aN ops (listed.setIfInBounds j true)=(RI ops.size).filter λi=>!listed.getD i true&&decide (i≠j):=qe λi hi=>by rw[hs];exact Q7.1 hi
       have e6:lL listed (kf ops.size j)=(RI ops.size).filter λi=>!listed.getD i true&&decide (i≠j):=by
        unfold lL kf;rw[Tv];refine Sp λi _=>?_;by_cases e:i=j
        ·subst e;simp
        ·have:QQ i j=false:=by
          cases q:QQ i j with
          |false=>rfl
          |true=>exact absurd (QH q) e
         simp[e,this]
       rw[e5,<-e6];exact hk
      ·rw[U] at x;cases x
     ·have G:(listed.setIfInBounds j true).getD f true=false:=by rw[getD_set_ne true (SI (SI k))];exact m
      have a7:QQ j f=false:=by
       cases q:QQ j f with
       |false=>rfl
       |true=>exact absurd (QH q) k
      obtain⟨m1,m2,f1,f2,f3⟩:=jd (λi=>!listed.getD i true&&!QQ i f) j (by simp only[hu,a7];rfl) ops.size D;have g1:lL listed (kf ops.size f)=m1++j::m2:=by
       rw[<-f1];unfold lL kf;rw[Tv]
      have g2:lL (listed.setIfInBounds j true) (kf ops.size f)=m1++m2:=by
       rw[qe λi hi=>by rw[hs];exact Q7.1 (QL.1 hi).1,<-f3];unfold kf;rw[Tv];refine Sp λi _=>?_;cases listed.getD i true<;>cases QQ i f<;>simp
      rw[g1] at H;have C:(m1++j::m2).Pairwise (·<·):=by rw[<-f1];exact VQ _ UJ
      have ae:c<=j->df P L true ops ops[f] oj=true:=λq=>by
       rcases y.above j _ _ b F q with s|s
       ·rw[n f m O] at s;cases s
       ·exact s
      have a8:(f<j->j<c->iV P L oj=true)->df P L true ops ops[f] oj=true\/j<f:=λq=>by
       rcases Nat.lt_trichotomy j f with r|r|r
       ·exact .inr r
       ·exact absurd r k
       ·rcases Q6 j c with s|s
        ·exact .inl ((y.mid j _ _ b F r s).2 (q r s)).1
        ·exact .inl (ae s)
      have I:=ud (c:=c) hM F b a8 ae m1 m2 (λi hi=>by
       obtain⟨t,d⟩:=f2 i hi;simp only[Qz,RR] at d;obtain⟨oi,V,J⟩:=cm i t d.1 (by rintro rfl;simp at d) k;exact⟨t,oi,V,J,(BK J).symm⟩) (λi hi=>by
        rw[List.pairwise_append] at C;exact(Rf.1 C.2.1).1 i hi) (λ_=>trivial) a w K H
      exact sg b K I λW w' B hk=>ih _ W w' B (by simp[hs]) g hlen (λx=>by rw[G] at x;cases x) (λ_=>by rw[g2];exact hk)
theorem rT {rn:Option Nat}{id:Nat}{a:Act}{w:World}{f c:Nat}(hm:P.follows .mixedOrders=true)(m:M.isSome=true)(n:sR P L ops f c (dS ops.toList [])=true)(o:jK M w.heap)
  (h:jY P M L ops f c (λa w=>Q .normal a w) (kf ops.size f) a {w with drawn:=w.drawn+1}):(Code.region id ops true).wpIn (FW rn) 0 P Q a w:=by
 have b:∀(d:Bool) j,j<ops.size->(RJ ops.size false).getD j d=false:=λd j p=>by simp[p]
 have e:=rS n;have g:f<ops.size:=WZ e.fc e.cn;have hu:aN ops (RJ ops.size false)=RI ops.size:=by
  unfold aN;rw[RQ];intro i hi;have:=Q7.1 hi;simp[this]
 refine wpIn_region_any hm (G5 m e ops.size _ a _ o (by simp) ?_ (by rw[hu];simp) ?_ ?_)
 ·intro j oj _ k;have:∀j,(RJ ops.size false).getD j false=false:=λj=>by
   rcases Q6 j ops.size with h|h
   ·simp[h]
   ·simp[h]
  rw[this] at k;cases k
 ·intro l;rw[b true f g] at l;cases l
 ·intro _;have:lL (RJ ops.size false) (kf ops.size f)=kf ops.size f:=by
   unfold lL;rw[RQ];intro i hi;rw[b true i (Q7.1 (QL.1 hi).1)];rfl
  rw[this];exact h
end
end Go.Proofs.YtkehfflpbpdokaaGreatDoor
