/-
 Ground, a text behind the first: a region some of whose operations float beside others. The walk takes first what may go first; where none may, it forks over all that are ready.
-/
import Derived.Test.YtkehfflpbpdokaaGreatDoorFxu
open Array renaming getElem?_eq_some_iff->Qv,replicate->RJ
open Bool renaming and_eq_true->Qz
open Go.Region renaming binds->RY
open List renaming mem_cons_self->Qp,mem_cons->Qs,mem_cons_of_mem->Qu,length_cons->QJ,mem_filter->QL,mem_range->Q7,all_eq_true->Rk,range->RI,filter_eq_self->RQ,filter_congr->Sp,filter_filter->Tv,length_pos_iff_exists_mem->VS
open Nat renaming eq_of_beq_eq_true->QH,beq->QQ
open Ne renaming symm->SI
open Option.some renaming inj->Qq
namespace Go.Proofs.YtkehfflpbpdokaaGreatDoor
def jt (B:List Nat)(l:List Nat)(j:Nat):Bool:=l.all λi=>!(waits B j i)
def L5 (P:Program)(L:List Nat)(ops:Array Oper)(i j:Nat):Bool:=Fc ops i λoi=>Fc ops j λoj=>df P L true ops oi oj&&df P L true ops oj oi
def EM (P:Program)(L:List Nat)(ops:Array Oper)(B:List Nat)(l:List Nat)(j:Nat):Bool:=jt B l j&&l.all λi=>QQ i j||(waits B i j||L5 P L ops i j)
def fX (l:List Nat)(j:Nat):List Nat:=l.filter λi=>!(QQ i j)
def nM (t:Nat->Bool):List Nat->Option Nat
 |[]=>none
 |j::l=>bif t j then some j else nM t l
def xS (t:Nat->Bool)(f:Nat->Prop):List Nat->Prop
 |[]=>True
 |j::l=>bif t j then f j/\xS t f l else xS t f l
theorem lh {t:Nat->Bool}:∀{l:List Nat} {j:Nat},nM t l=some j->j∈l/\t j=true
 |[],_,h=>by cases h
 |i::l,j,h=>by
   unfold nM at h;cases a:t i with
   |true=>rw[a] at h;cases h;exact⟨Qp,a⟩
   |false=>rw[a] at h;have:=lh (l:=l) h;exact⟨Qu _ this.1,this.2⟩
theorem sW {t:Nat->Bool}:∀{l:List Nat},nM t l=none->∀j∈l,t j=false
 |[],_,_,a=>by cases a
 |i::l,h,j,a=>by
   unfold nM at h;cases b:t i with
   |true=>rw[b] at h;cases h
   |false=>
     rw[b] at h;rcases Qs.1 a with q|q
     ·subst q;exact b
     ·exact sW (l:=l) h j q
theorem ti {t:Nat->Bool}{f:Nat->Prop}:∀{l:List Nat} {j:Nat},xS t f l->j∈l->t j=true->f j
 |[],_,_,h,_=>by cases h
 |i::l,j,h,c,a=>by
   unfold xS at h;cases b:t i with
   |true=>
     rw[b] at h;rcases Qs.1 c with q|q
     ·subst q;exact h.1
     ·exact ti (l:=l) h.2 q a
   |false=>
     rw[b] at h;rcases Qs.1 c with q|q
     ·subst q;rw[b] at a;cases a
     ·exact ti (l:=l) h q a
theorem qG {t:Nat->Bool}{f g:Nat->Prop}:∀{l:List Nat},(∀j∈l,f j->g j)->xS t f l->xS t g l
 |[],_,_=>trivial
 |i::l,hm,h=>by
   unfold xS at h ⊢;cases b:t i with
   |true=>rw[b] at h;exact⟨hm i Qp h.1,qG (λj a=>hm j (Qu _ a)) h.2⟩
   |false=>rw[b] at h;exact qG (λj a=>hm j (Qu _ a)) h
theorem MO {i j:Nat}(h:i≠j):QQ i j=false:=by
 cases q:QQ i j with
 |false=>rfl
 |true=>exact absurd (QH q) h
theorem NV (i:Nat):QQ i i=true:=by simp
theorem gB {l:List Nat}{i j:Nat}:i∈fX l j↔i∈l/\i≠j:=by
 unfold fX;rw[QL];by_cases h:i=j
 ·subst h;simp[NV]
 ·simp[MO h,h]
theorem wz (l:List Nat)(i j:Nat):fX (fX l i) j=fX (fX l j) i:=by
 unfold fX;rw[Tv,Tv];refine Sp λx _=>?_;exact Bool.and_comm _ _
theorem kH:∀{l:List Nat} {j:Nat},l.Nodup->j∈l->(fX l j).length+1=l.length
 |[],_,_,h=>by cases h
 |i::l,j,a,b=>by
   obtain⟨h1,c⟩:=List.nodup_cons.1 a;unfold fX;rw[List.filter_cons];by_cases e:i=j
   ·subst e;rw[if_neg (by simp[NV])];have:(l.filter λx=>!(QQ x i))=l:=by
     rw[RQ];intro x d;have:x≠i:=λq=>h1 (q▸d);simp[MO this]
    rw[this];rfl
   ·rw[if_pos (by simp[MO e]),QJ];rcases Qs.1 b with q|q
    ·exact absurd q.symm e
    ·have:=kH (l:=l) c q;unfold fX at this;rw[QJ];omega
theorem lk {l:List Nat}{j:Nat}(h:l.Nodup):(fX l j).Nodup:=h.filter _
theorem nY {B l:List Nat}{i j:Nat}(h:jt B l j=true):jt B (fX l i) j=true:=by
 unfold jt at*;rw[Rk] at*;exact λx a=>h x (gB.1 a).1
section
variable {P:Program}{M:Option (aa->Prop)}{L:List Nat}{ops:Array Oper}{Q:Exit->Act->World->Prop}
theorem CZ {B l:List Nat}{i j:Nat}(h:EM P L ops B l j=true):EM P L ops B (fX l i) j=true:=by
 unfold EM at*;rw[Qz] at*;refine⟨nY h.1,?_⟩;have:=h.2;rw[Rk] at*;exact λx a=>this x (gB.1 a).1
theorem wD {B l:List Nat}{j:Nat}(h:EM P L ops B l j=true):jt B l j=true:=by
 unfold EM at h;rw[Qz] at h;exact h.1
theorem zu {B l:List Nat}{i j:Nat}(h:EM P L ops B l j=true)(hi:i∈l)(f:j∈l)(b:i≠j)(hr:jt B l i=true):
  ∃oi oj,ops[i]?=some oi/\ops[j]?=some oj/\df P L true ops oi oj=true/\df P L true ops oj oi=true:=by
 unfold EM at h;rw[Qz] at h;have h1:=Rk.1 h.2 i hi;have d:=Rk.1 hr j f;simp only[Bool.not_eq_true'] at d;have g:QQ i j=false:=by
  cases q:QQ i j with
  |false=>rfl
  |true=>exact absurd (QH q) b
 rw[g,d] at h1;simp only[Bool.false_or] at h1;unfold L5 at h1;cases e:ops[i]? with
 |none=>unfold Fc at h1;rw[e] at h1;cases h1
 |some oi=>
   have a:=iK h1 e;cases e2:ops[j]? with
   |none=>unfold Fc at a;rw[e2] at a;cases a
   |some oj=>
     have c:=iK a e2;rw[Qz] at c;exact⟨oi,oj,rfl,rfl,c.1,c.2⟩
def pw (P:Program)(M:Option (aa->Prop))(L:List Nat)(ops:Array Oper)(K:Act->World->Prop):Nat->List Nat->Act->World->Prop
 |0,_=>K
 |n+1,l=>(match nM (EM P L ops (dS ops.toList []) l) l with
   |some j=>ct P M ops.size L ops j (pw P M L ops K n (fX l j))
   |none=>λa w=>xS (jt (dS ops.toList []) l) (λj=>ct P M ops.size L ops j (pw P M L ops K n (fX l j)) a w) l)
theorem kF (hM:M.isSome=true)(K:Act->World->Prop):∀(n:Nat) (l:List Nat),l.Nodup->l.length=n+1->
  (∀j∈l,jt (dS ops.toList []) l j=true->∀a w,pw P M L ops K (n+1) l a w->ct P M ops.size L ops j (pw P M L ops K n (fX l j)) a w)/\
  (∀j∈l,EM P L ops (dS ops.toList []) l j=true->∀a w,ct P M ops.size L ops j (pw P M L ops K n (fX l j)) a w->pw P M L ops K (n+1) l a w)
 |n,l,hn,hl=>by
   refine⟨λj hj hr a w h=>?_,λj hj hok a w h=>?_⟩
   ·unfold pw at h;cases hf:nM (EM P L ops (dS ops.toList []) l) l with
    |none=>
      rw[hf] at h;exact ti h hj hr
    |some i=>
      rw[hf] at h;simp only at h;obtain⟨hi,hoi⟩:=lh hf;by_cases hij:j=i
      ·subst hij;exact h
      ·obtain⟨oj,oi,e1,e2,c1,c2⟩:=zu hoi hj hi hij hr;have li:=kH hn hi;have lj:=kH hn hj
       match n,hl,h with
       | 0, hl, h => have : 0 < (fX l i).length := VS.2 ⟨j, gB.2 ⟨hj, hij⟩⟩
                     omega
       |n+1,hl,h=>
         have hbi:=kF hM K n (fX l i) (lk hn) (by omega);have hbj:=kF hM K n (fX l j) (lk hn) (by omega);have h1:=dL (λa w hx=>hbi.1 j (gB.2 ⟨hj,hij⟩) (nY hr) a w hx) h;have h2:=oa hM e2 e1 c2 h1;refine dL (λa w hx=>hbj.2 i (gB.2 ⟨hi,SI hij⟩) (CZ hoi) a w ?_) h2;rw[wz l j i];exact hx
   ·unfold pw;cases hf:nM (EM P L ops (dS ops.toList []) l) l with
    |none=>
      have:=sW hf j hj;rw[hok] at this;cases this
    |some i=>
      simp only;obtain⟨hi,hoi⟩:=lh hf;by_cases hij:j=i
      ·subst hij;exact h
      ·obtain⟨oj,oi,e1,e2,c1,c2⟩:=zu hoi hj hi hij (wD hok);have li:=kH hn hi;have lj:=kH hn hj
       match n,hl,h with
       | 0, hl, h => have : 0 < (fX l i).length := VS.2 ⟨j, gB.2 ⟨hj, hij⟩⟩
                     omega
       |n+1,hl,h=>
         have hbi:=kF hM K n (fX l i) (lk hn) (by omega);have hbj:=kF hM K n (fX l j) (lk hn) (by omega);have h1:=dL (λa w hx=>hbj.1 i (gB.2 ⟨hi,SI hij⟩) (nY (wD hoi)) a w hx) h;have h2:=oa hM e1 e2 c1 h1;refine dL (λa w hx=>hbi.2 j (gB.2 ⟨hj,hij⟩) (CZ hok) a w ?_) h2;rw[wz l i j];exact hx
def NY (ops:Array Oper):Bool:=(RI ops.size).all λj=>Fc ops j λoj=>oj.after.all λe=>!RY .any e||decide (e.on<j)
theorem GP (h:NY ops=true):∀j oj,ops[j]?=some oj->∀e∈oj.after,RY .any e=true->e.on<j:=by
 intro j oj b e he c;have a:j<ops.size:=(Qv.1 b).1;have h1:=iK (Rk.1 h j (Q7.2 a)) b;have d:=Array.all_eq_true'.1 h1 e he;simpa[c] using d
theorem GB {rn:Option Nat}(E:M.isSome=true)(F:NY ops=true):∀(fuel:Nat) (listed:Array Bool) (a:Act) (w:World),jK M w.heap->listed.size=ops.size->qF ops listed->(aN ops listed).length=fuel->
  pw P M L ops (λa w=>Q .normal a w) fuel (aN ops listed) a w->wpAnyIn (FW rn) 0 P .any ops Q fuel listed a w:=by
 have d:=GP F;intro fuel
 induction fuel with
 |zero=>
   intro listed a w B hs x u h;have G:aN ops listed=[]:=List.length_eq_zero_iff.1 u;refine⟨?_,h⟩;rw[List.eq_nil_iff_forall_not_mem];intro j H;obtain⟨hu,o,I,_⟩:=mem_ready.1 H;have k:j<ops.size:=(Qv.1 I).1;have:j∈aN ops listed:=QL.2 ⟨Q7.2 k,by simp[hu]⟩;rw[G] at this;cases this
 |succ fuel J=>
   intro listed a w B hs x u h;refine wpAny_first hs u d λj oj c hu f=>?_;have k:j<ops.size:=(Qv.1 c).1;have l:∀i,listed.getD i true=false->i<ops.size->waits (dS ops.toList []) j i=false:=by
    intro i n K;cases N:waits (dS ops.toList []) j i with
    |false=>rfl
    |true=>
      have y:=kY x d j i oj c f N;have:i<listed.size:=by omega
      simp[this] at n y;rw[n] at y;cases y
   have b:qF ops (listed.setIfInBounds j true):=by
    intro q ok C p e he v;by_cases r:j=q
    ·subst r;have:ok=oj:=Qq (C.symm.trans c);subst this;exact getD_set_true (f e he v)
    ·rw[getD_set_ne false r] at p;exact getD_set_true (x q ok C p e he v)
   have g:∀{i:Nat},i∈aN ops listed↔i<ops.size/\listed.getD i true=false:=by
    intro i;unfold aN;rw[QL,Q7];simp
   have s:j∈aN ops listed:=g.2 ⟨k,hu⟩;have t:(aN ops listed).Nodup:=List.nodup_range.filter _;have D:aN ops (listed.setIfInBounds j true)=fX (aN ops listed) j:=by
    unfold aN fX;rw[Tv];refine Sp λi hi=>?_;have z:i<listed.size:=by rw[hs];exact Q7.1 hi
    by_cases m:i=j
    ·subst m;simp[z]
    ·rw[getD_set_ne true (SI m)];have v:QQ i j=false:=by
      cases q:QQ i j with
      |false=>rfl
      |true=>exact absurd (QH q) m
     rw[v];simp
   have hr:jt (dS ops.toList []) (aN ops listed) j=true:=by
    unfold jt;rw[Rk];intro i hi;obtain⟨O,R⟩:=g.1 hi;rw[l i R O];rfl
   have hlen:=kH t s;have S:=(kF E _ fuel _ t u).1 j s hr a w h;refine sg c B S λT w' A hk=>J _ T w' A (by simp[hs]) b (by rw[D];omega) (by rw[D];exact hk)
theorem pI {rn:Option Nat}{id:Nat}{a:Act}{w:World}(hm:P.follows .mixedOrders=true)(c:M.isSome=true)(d:NY ops=true)(e:jK M w.heap)
  (h:pw P M L ops (λa w=>Q .normal a w) ops.size (RI ops.size) a {w with drawn:=w.drawn+1}):(Code.region id ops true).wpIn (FW rn) 0 P Q a w:=by
 have hu:aN ops (RJ ops.size false)=RI ops.size:=by
  unfold aN;rw[RQ];intro i hi;have:=Q7.1 hi;simp[this]
 refine wpIn_region_any hm (GB c d ops.size _ a _ e (by simp) ?_ (by rw[hu];simp) (by rw[hu];exact h));intro j oj _ b;have:∀j,(RJ ops.size false).getD j false=false:=λj=>by
  rcases Nat.lt_or_ge j ops.size with h|h
  ·simp[h]
  ·simp[h]
 rw[this] at b;cases b
end
end Go.Proofs.YtkehfflpbpdokaaGreatDoor
