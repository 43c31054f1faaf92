/-
 Ground, a text behind the first: a region in which one effect floats beside others: it may go ahead of any of those that do not wait for it. The walk serves every order if it serves each place of that one.
-/
import Derived.Test.YtmkbhnholcaghaaGreatDoorFxa
open Array renaming getElem?_eq_some_iff->N7,getElem?_eq_getElem->OB,replicate->Qj
open Bool renaming and_eq_true->Ob,or_eq_true->Pm,not_eq_true'->Pu
open Go.Region renaming binds->PC
open List renaming mem_cons->Of,mem_cons_of_mem->Oh,mem_cons_self->Oq,mem_filter->OC,mem_range->OD,all_eq_true->O3,range->Pa,pairwise_cons->PB,filter_eq_self->PF,filter_congr->PJ,cons_append->QN,filter_filter->QP,pairwise_lt_range->TR,takeWhile_cons->Um,dropWhile_cons->Un
open List.Pairwise renaming filter->T9
open Nat renaming eq_of_beq_eq_true->Od,beq->Ou,lt_or_ge->ON,blt->PM,ble->SO,lt_trans->UO
open Ne renaming symm->Pt
open Option.some renaming inj->Ow
namespace Go.Proofs.YtmkbhnholcaghaaGreatDoor
section
variable {P:Program}{M:Option (aa->Prop)}{L:List Nat}{ops:Array Oper}{Q:Exit->Act->World->Prop}
def gZ (P:Program)(L:List Nat)(o:Oper):Bool:=dx P L o==0||dx P L o==1
def Dl (ops:Array Oper)(i:Nat)(t:Oper->Bool):Bool:=match ops[i]? with|some o=>t o|none=>false
theorem gP {i:Nat}{t:Oper->Bool}{o:Oper}(h:Dl ops i t=true)(a:ops[i]?=some o):t o=true:=by
 unfold Dl at h;rw[a] at h;exact h
def tD (P:Program)(L:List Nat)(ops:Array Oper)(f c:Nat)(B:List Nat):Bool:=
 decide (f<c)&&decide (c<ops.size)&&waits B c f&&
 (Pa ops.size).all λj=>Dl ops j λoj=>
  (oj.after.all λe=>!PC .any e||decide (e.on<j))&&
  ((Pa j).all λi=>i==f||j==f||Dl ops i (λoi=>cP P L true ops oi oj||waits B j i))&&
  Dl ops f (λof=>(bif PM j f then cP P L true ops oj of||waits B f j else
   bif Ou j f then true else
   bif PM j c then !(waits B j f)&&(!(gZ P L oj)||(cP P L true ops of oj&&cP P L true ops oj of))
   else (waits B j f||cP P L true ops of oj)))
structure FM (P:Program)(L:List Nat)(ops:Array Oper)(f c:Nat):Prop where
 fc:f<c
 cn:c<ops.size
 wait:waits (dq ops.toList []) c f=true
 lt:∀j oj,ops[j]?=some oj->∀e∈oj.after,PC .any e=true->e.on<j
 pair:∀i j oi oj,ops[i]?=some oi->ops[j]?=some oj->i<j->i≠f->j≠f->cP P L true ops oi oj=true\/waits (dq ops.toList []) j i=true
 below:∀i oi of,ops[i]?=some oi->ops[f]?=some of->i<f->cP P L true ops oi of=true\/waits (dq ops.toList []) f i=true
 mid:∀i oi of,ops[i]?=some oi->ops[f]?=some of->f<i->i<c->waits (dq ops.toList []) i f=false/\(gZ P L oi=true->cP P L true ops of oi=true/\cP P L true ops oi of=true)
 above:∀i oi of,ops[i]?=some oi->ops[f]?=some of->c<=i->waits (dq ops.toList []) i f=true\/cP P L true ops of oi=true
theorem qq {f c:Nat}(h:tD P L ops f c (dq ops.toList [])=true):FM P L ops f c:=by
 unfold tD at h;simp only[Ob,decide_eq_true_eq] at h;obtain⟨⟨⟨h1,o⟩,p⟩,r⟩:=h;have key:∀j oj,ops[j]?=some oj->_:=λj oj b=>by
  have a:j<ops.size:=(N7.1 b).1;exact gP (O3.1 r j (OD.2 a)) b
 simp only[Ob] at key;refine⟨h1,o,p,?_,?_,?_,?_,?_⟩
 ·intro j oj b e he d;have:=Array.all_eq_true_iff_forall_mem.1 (key j oj b).1.1 e he;simpa[d] using this
 ·intro i j oi oj hi b k l m;have:=O3.1 (key j oj b).1.2 i (OD.2 k);simp only[Pm,beq_iff_eq] at this;rcases this with (q|q)|q
  ·exact absurd q l
  ·exact absurd q m
  ·have:=gP q hi;simpa[Pm] using this
 ·intro i oi of hi g a;have:=gP (key i oi hi).2 g;rw[fT.2 a] at this;simpa[Pm] using this
 ·intro i oi of hi g s n;have:=gP (key i oi hi).2 g;rw[xE (by omega:¬i<f),fT.2 n] at this;have d:Ou i f=false:=by
   cases q:Ou i f with
   |false=>rfl
   |true=>have:=Od q;omega
  rw[d] at this;simp only[cond_false,cond_true,Ob,Pm,Pu] at this;refine⟨this.1,λt=>?_⟩;rcases this.2 with q|q
  ·rw[t] at q;cases q
  ·exact q
 ·intro i oi of hi g u;have:=gP (key i oi hi).2 g;rw[xE (by omega:¬i<f),xE (by omega:¬i<c)] at this;have d:Ou i f=false:=by
   cases q:Ou i f with
   |false=>rfl
   |true=>have:=Od q;omega
  rw[d] at this;simpa[Pm] using this
theorem Ac {m:Bool}{x y:Oper}(h:cP P L m ops x y=true):gZ P L x=true\/gZ P L y=true:=by
 obtain⟨_,a,_⟩:=nE h;unfold gZ;rcases a with q|q|⟨q,_⟩|⟨_,q|q⟩
 ·left;simp[q]
 ·right;simp[q]
 ·left;simp[q]
 ·left;simp[q]
 ·right;simp[q]
theorem gQ {K:Act->World->Prop}{j:Nat}(f:M.isSome=true):∀(b c:List Nat),(∀i∈b,∃oi oj,ops[i]?=some oi/\ops[j]?=some oj/\cP P L true ops oi oj=true)->
  ∀a w,eW P M ops.size L ops K (b++j::c) a w->bS P M ops.size L ops j (eW P M ops.size L ops K (b++c)) a w
 |[],c,_,a,w,h=>h
 |i::b,c,g,a,w,h=>by
   have h1:bS P M ops.size L ops i (bS P M ops.size L ops j (eW P M ops.size L ops K (b++c))) a w:=df (gQ f b c (λk hk=>g k (Oh _ hk))) h;obtain⟨oi,oj,hi,l,d⟩:=g i Oq;have n:oZ M ops.size i=M:=by unfold oZ;rw[fT.2 (N7.1 hi).1];rfl
   have o:oZ M ops.size j=M:=by unfold oZ;rw[fT.2 (N7.1 l).1];rfl
   have e:∀K',bS P M ops.size L ops i K'=fx P M L ops oi K':=λK'=>by funext a w;simp only[bS,hi,n]
   have m:∀K',bS P M ops.size L ops j K'=fx P M L ops oj K':=λK'=>by funext a w;simp only[bS,l,o]
   rw[e,m] at h1;have p:=pG d (λ_=>⟨rfl,f⟩) h1;simp only[QN,eW];rw[e,m];exact p
theorem qV {rn:Option Nat}{fuel j:Nat}{listed:Array Bool}{a:Act}{w:World}{X:Act->World->Prop}{oj:Oper}(b:ops[j]?=some oj)(c:iQ M w.heap)
  (h:bS P M ops.size L ops j X a w) (go:∀d w',iQ M w'.heap->X d w'->wpAnyIn (FW rn) 0 P .any ops Q fuel (listed.setIfInBounds j true) d w'):
  wpOpIn (FW rn) 0 P ops Q j (λa w=>wpAnyIn (FW rn) 0 P .any ops Q fuel (listed.setIfInBounds j true) a w) a w:=by
 have f:oZ M ops.size j=M:=by unfold oZ;rw[fT.2 (N7.1 b).1];rfl
 have g:bS P M ops.size L ops j (λa w=>iQ M w.heap/\X a w) a w:=by
  unfold bS at h ⊢;rw[b] at h ⊢;exact pz c (.inr (.inr f)) h
 exact jU (λ_ _ _ _=>c) (df (λd w' e=>go d w' e.1 e.2) g)
theorem wpAny_first {rn:Option Nat}{fuel:Nat}{listed:Array Bool}{a:Act}{w:World}(hs:listed.size=ops.size)(hl:(aN ops listed).length=fuel+1)(p:∀j oj,ops[j]?=some oj->∀e∈oj.after,PC .any e=true->e.on<j)
  (h:∀j oj,ops[j]?=some oj->listed.getD j true=false->(∀e∈oj.after,PC .any e=true->listed.getD e.on false=true)->wpOpIn (FW rn) 0 P ops Q j (λa w=>wpAnyIn (FW rn) 0 P .any ops Q fuel (listed.setIfInBounds j true) a w) a w):
  wpAnyIn (FW rn) 0 P .any ops Q (fuel+1) listed a w:=by
 refine⟨λs=>?_,λj t=>?_⟩
 ·exfalso;cases o:aN ops listed with
  |nil=>rw[o] at hl;simp at hl
  |cons m rest=>
    have hm:m∈aN ops listed:=by rw[o];exact Oq
    have g:∀i,i<m->listed.getD i false=true:=by
     intro i hi;obtain⟨d,k⟩:=OC.1 hm;have c:=OD.1 d;cases f:listed.getD i true with
     |true=>
       have:i<listed.size:=by omega
       simp[this] at f ⊢;exact f
     |false=>
       have l:i∈aN ops listed:=OC.2 ⟨OD.2 (by omega),by simp[f]⟩;rw[o] at l;have b:(aN ops listed).Pairwise (·<·):=T9 _ TR;rw[o,PB] at b;rcases Of.1 l with e|e
       ·omega
       ·have:=b.1 i e;omega
    obtain⟨d,k⟩:=OC.1 hm;have c:=OD.1 d;have r:ops[m]?=some ops[m]:=OB c;have:m∈Region.ready .any ops listed:=mem_ready.2 ⟨by simpa using k,_,r,λe he u=>g _ (p m _ r e he u)⟩;rw[s] at this;cases this
 ·obtain⟨hu,oj,q,n⟩:=mem_ready.1 t;exact h j oj q hu n
def kO (listed:Array Bool)(l:List Nat):List Nat:=l.filter λi=>!listed.getD i true
theorem pf {listed:Array Bool}{j:Nat}{l:List Nat}(c:∀i∈l,i<listed.size):kO (listed.setIfInBounds j true) l=(l.filter λi=>!listed.getD i true&&decide (i≠j)):=by
 unfold kO;refine PJ λi hi=>?_;have b:=c i hi;by_cases a:i=j
 ·subst a;simp[b]
 ·rw[getD_set_ne true (Pt a)];simp[a]
def jB (n f:Nat):List Nat:=(Pa n).filter λi=>!Ou i f
def gX (P:Program)(L:List Nat)(ops:Array Oper)(f c i:Nat):Bool:=SO c i||(PM f i&&Dl ops i λo=>!(gZ P L o))
def jn (P:Program)(M:Option (aa->Prop))(L:List Nat)(ops:Array Oper)(f c:Nat)(K:Act->World->Prop):List Nat->Act->World->Prop
 |[]=>eW P M ops.size L ops K [f]
 |i::l=>bif SO c i then eW P M ops.size L ops K (f::i::l) else
   bif gX P L ops f c i then λa w=>eW P M ops.size L ops K (f::i::l) a w/\bS P M ops.size L ops i (jn P M L ops f c K l) a w
   else bS P M ops.size L ops i (jn P M L ops f c K l)
theorem xS {i k:Nat}:SO i k=true↔i<=k:=⟨Nat.le_of_ble_eq_true,Nat.ble_eq_true_of_le⟩
theorem CO {f c:Nat}{K:Act->World->Prop}{l:List Nat}(h:∀i∈l,c<=i):jn P M L ops f c K l=eW P M ops.size L ops K (f::l):=by
 cases l with
 |nil=>rfl
 |cons i l=>
   show (bif SO c i then _ else _)=_;rw[xS.2 (h i Oq)];rfl
theorem Cb {i:Nat}{oi:Oper}{K:Act->World->Prop}{a:Act}{w:World}(hi:ops[i]?=some oi)(b:iQ M w.heap)(h:bS P M ops.size L ops i K a w):bS P M ops.size L ops i (λa w=>iQ M w.heap/\K a w) a w:=by
 have c:oZ M ops.size i=M:=by unfold oZ;rw[fT.2 (N7.1 hi).1];rfl
 unfold bS at h ⊢;rw[hi] at h ⊢;exact pz b (.inr (.inr c)) h
theorem nD {i j:Nat}{oi oj:Oper}(f:M.isSome=true)(hi:ops[i]?=some oi)(c:ops[j]?=some oj)(b:cP P L true ops oi oj=true){K:Act->World->Prop}{a:Act}{w:World}
  (h:bS P M ops.size L ops i (bS P M ops.size L ops j K) a w):bS P M ops.size L ops j (bS P M ops.size L ops i K) a w:=by
 have g:oZ M ops.size i=M:=by unfold oZ;rw[fT.2 (N7.1 hi).1];rfl
 have k:oZ M ops.size j=M:=by unfold oZ;rw[fT.2 (N7.1 c).1];rfl
 have e:∀K',bS P M ops.size L ops i K'=fx P M L ops oi K':=λK'=>by funext a w;simp only[bS,hi,g]
 have d:∀K',bS P M ops.size L ops j K'=fx P M L ops oj K':=λK'=>by funext a w;simp only[bS,c,k]
 rw[e,d] at h;rw[d,e];exact pG b (λ_=>⟨rfl,f⟩) h
theorem Fi {j:Nat}{oj:Oper}(h:ops[j]?=some oj)(e:gZ P L oj=true){A B:Act->World->Prop}{a:Act}{w:World}(c:iQ M w.heap)(h1:bS P M ops.size L ops j A a w)(b:bS P M ops.size L ops j B a w):
  bS P M ops.size L ops j (λa w=>A a w/\B a w) a w:=by
 have i:oZ M ops.size j=M:=by unfold oZ;rw[fT.2 (N7.1 h).1];rfl
 unfold bS at*;rw[h] at*;simp only[i] at*;unfold fx at*;split
 ·rename_i hw;rw[if_pos hw] at h1 b;unfold gZ at e;simp only[Pm,beq_iff_eq] at e;rcases e with q|q
  ·rw[q] at h1 b ⊢;obtain⟨v1,d,f⟩:=h1;obtain⟨v2,r2,g⟩:=b;have:=(d w).symm.trans (r2 w);cases this;exact⟨v1,d,f,g⟩
  ·rw[q] at h1 b ⊢;obtain⟨v1,d,f⟩:=h1;obtain⟨v2,r2,g⟩:=b;have:=(d w (sb c)).symm.trans (r2 w (sb c));cases this;exact⟨v1,d,f,g⟩
 ·rename_i hw;rw[if_neg hw] at h1 b;exact⟨h1,b⟩
theorem sL {f c i:Nat}{oi:Oper}(hi:ops[i]?=some oi):gX P L ops f c i=true↔c<=i\/(f<i/\gZ P L oi=false):=by
 unfold gX Dl;rw[hi];simp only[Pm,Ob,Pu];rw[xS,fT]
theorem xT {f c:Nat}{K:Act->World->Prop}:∀(l:List Nat) (a:Act) (w:World),jn P M L ops f c K l a w->eW P M ops.size L ops K ((l.takeWhile λi=>!gX P L ops f c i)++f::l.dropWhile λi=>!gX P L ops f c i) a w
 |[],a,w,h=>h
 |i::l,a,w,h=>by
   unfold jn at h;cases b:SO c i with
   |true=>
     rw[b] at h;have hs:gX P L ops f c i=true:=by unfold gX;rw[b];rfl
     simp only[Um,Un,hs];exact h
   |false=>
     rw[b] at h;cases hs:gX P L ops f c i with
     |true=>
       rw[hs] at h;simp only[Um,Un,hs];exact h.1
     |false=>
       rw[hs] at h;simp only[Um,Un,hs];exact df (xT l) h
theorem sh {f c j:Nat}{of oj:Oper}{K:Act->World->Prop}(p:M.isSome=true)(s:ops[f]?=some of)(n:ops[j]?=some oj)(o:(f<j->j<c->gZ P L oj=true)->cP P L true ops of oj=true\/j<f)(l:c<=j->cP P L true ops of oj=true):
  ∀(d b:List Nat),(∀i∈d,i<j/\∃oi,ops[i]?=some oi/\cP P L true ops oi oj=true/\(gZ P L oj=true\/gZ P L oi=true))->(∀i∈b,j<i)->(c<=j->True)->
  ∀a w,iQ M w.heap->jn P M L ops f c K (d++j::b) a w->bS P M ops.size L ops j (jn P M L ops f c K (d++b)) a w
 |[],b,_,t,_,a,w,m,h=>by
   simp only[List.nil_append] at h ⊢;unfold jn at h;cases g:SO c j with
   |true=>
     rw[g] at h;have e:=xS.1 g;rw[CO λi hi=>Nat.le_trans e (Nat.le_of_lt (t i hi))];exact gQ p [f] b (λi hi=>by rw[List.mem_singleton] at hi;subst hi;exact⟨of,oj,s,n,l e⟩) a w h
   |false=>
     rw[g] at h;cases hs:gX P L ops f c j with
     |true=>rw[hs] at h;exact h.2
     |false=>rw[hs] at h;exact h
 |i::d,b,h1,t,D,a,w,m,h=>by
   obtain⟨E,oi,hi,u,v⟩:=h1 i Oq;have x:=λk hk=>h1 k (Oh _ hk);simp only[QN] at h ⊢;unfold jn at h;rw[show jn P M L ops f c K (i::(d++b))=(bif SO c i then eW P M ops.size L ops K (f::i::(d++b)) else
    bif gX P L ops f c i then λa w=>eW P M ops.size L ops K (f::i::(d++b)) a w/\bS P M ops.size L ops i (jn P M L ops f c K (d++b)) a w
    else bS P M ops.size L ops i (jn P M L ops f c K (d++b))) from rfl]
   have inner:bS P M ops.size L ops i (jn P M L ops f c K (d++j::b)) a w->bS P M ops.size L ops j (bS P M ops.size L ops i (jn P M L ops f c K (d++b))) a w:=λy=>
    nD p hi n u (df (λF w' hk=>sh p s n o l d b x t D F w' hk.1 hk.2) (Cb hi m y))
   have front:cP P L true ops of oj=true->eW P M ops.size L ops K (f::i::(d++j::b)) a w->bS P M ops.size L ops j (eW P M ops.size L ops K (f::i::(d++b))) a w:=λG y=>
    gQ p (f::i::d) b (λk hk=>by
     rcases Of.1 hk with q|q
     ·subst q;exact⟨of,oj,s,n,G⟩
     ·obtain⟨_,ok,z,A,_⟩:=h1 k q;exact⟨ok,oj,z,n,A⟩) a w y
   cases g:SO c i with
   |true=>
     rw[g] at h;exact front (l (by have:=xS.1 g;omega)) h
   |false=>
     rw[g] at h;cases hs:gX P L ops f c i with
     |false=>
       rw[hs] at h;exact inner h
     |true=>
       rw[hs] at h;have B:¬c<=i:=λq=>by rw[xS.2 q] at g;cases g
       rcases (sL hi).1 hs with q|⟨I,H⟩
       ·exact absurd q B
       ·have e:gZ P L oj=true:=by
         rcases v with r|r
         ·exact r
         ·rw[H] at r;cases r
        have C:cP P L true ops of oj=true:=by
         rcases o (λ_ _=>e) with r|r
         ·exact r
         ·omega
        exact Fi n e m (front C h.1) (inner h.2)
theorem ER {rn:Option Nat}{f c:Nat}(hM:M.isSome=true)(y:FM P L ops f c):∀(fuel:Nat) (listed:Array Bool) (a:Act) (w:World),iQ M w.heap->listed.size=ops.size->qc ops listed->(aN ops listed).length=fuel->
  (listed.getD f true=true->eW P M ops.size L ops (λa w=>Q .normal a w) (aN ops listed) a w)->
  (listed.getD f true=false->jn P M L ops f c (λa w=>Q .normal a w) (kO listed (jB ops.size f)) a w)->
  wpAnyIn (FW rn) 0 P .any ops Q fuel listed a w:=by
 intro fuel
 induction fuel with
 |zero=>
   intro listed a w K hs hc hl h _;have h0:aN ops listed=[]:=List.length_eq_zero_iff.1 hl;have hf:listed.getD f true=true:=by
    cases q:listed.getD f true with
    |true=>rfl
    |false=>
      have:f∈aN ops listed:=OC.2 ⟨OD.2 (UO y.fc y.cn),by simp[q]⟩;rw[h0] at this;cases this
   refine⟨?_,by have:=h hf;rw[h0] at this;exact this⟩;rw[List.eq_nil_iff_forall_not_mem];intro j hj;obtain⟨hu,o,ho,_⟩:=mem_ready.1 hj;have D:j<ops.size:=(N7.1 ho).1;have:j∈aN ops listed:=OC.2 ⟨OD.2 D,by simp[hu]⟩;rw[h0] at this;cases this
 |succ fuel ih=>
   intro listed a w K hs hc hl h hn;refine wpAny_first hs hl y.lt λj oj b hu E=>?_;have D:j<ops.size:=(N7.1 b).1;have N:f<ops.size:=UO y.fc y.cn;have F:ops[f]?=some ops[f]:=OB N;have n:∀i,listed.getD i true=false->i<ops.size->waits (dq ops.toList []) j i=false:=by
    intro i d v;cases z:waits (dq ops.toList []) j i with
    |false=>rfl
    |true=>
      have h4:=kj hc y.lt j i oj b E z;have:i<listed.size:=by omega
      simp[this] at d h4;rw[d] at h4;cases h4
   have g:qc ops (listed.setIfInBounds j true):=by
    intro q ok x O e he hb;by_cases R:j=q
    ·subst R;have:ok=oj:=Ow (x.symm.trans b);subst this;exact getD_set_true (E e he hb)
    ·rw[getD_set_ne false R] at O;exact getD_set_true (hc q ok x O e he hb)
   obtain⟨l1,l2,e1,e2,e3⟩:=il (λi=>!listed.getD i true) j (by simp[hu]) ops.size D;have S:aN ops listed=l1++j::l2:=e1;have e4:aN ops (listed.setIfInBounds j true)=l1++l2:=by
    rw[<-e3];exact pf λi hi=>by rw[hs];exact OD.1 hi
   have hlen:(aN ops (listed.setIfInBounds j true)).length=fuel:=by
    rw[e4];rw[S] at hl;simp only[List.length_append,List.length_cons] at hl ⊢;omega
   have T:(listed.setIfInBounds j true).getD j true=true:=by
    have:j<listed.size:=by omega
    simp[this]
   have cm:∀i,i<j->listed.getD i true=false->i≠f->j≠f->∃oi,ops[i]?=some oi/\cP P L true ops oi oj=true:=by
    intro i t d af k;have v:i<ops.size:=by omega
    have u:ops[i]?=some ops[i]:=OB v;refine⟨ops[i],u,?_⟩;rcases y.pair i j _ _ u b t af k with z|z
    ·exact z
    ·rw[n i d v] at z;cases z
   cases m:listed.getD f true with
   |true=>
     have k:j≠f:=by rintro rfl;rw[hu] at m;cases m
     have H:=h m;rw[S] at H;have I:=gQ hM l1 l2 (λi hi=>by
      obtain⟨t,d⟩:=e2 i hi;have A:listed.getD i true=false:=by simpa using d
      obtain⟨oi,U,J⟩:=cm i t A (by rintro rfl;rw[m] at A;cases A) k;exact⟨oi,oj,U,b,J⟩) a w H
     refine qV b K I λV w' B hk=>ih _ V w' B (by simp[hs]) g hlen (λ_=>by rw[e4];exact hk) (λx=>?_);rw[getD_set_ne true k] at x;rw[m] at x;cases x
   |false=>
     have H:=hn m;by_cases k:j=f
     ·subst k;have h1:=xT _ a w H;have W:∀i∈(kO listed (jB ops.size j)).takeWhile (λi=>!gX P L ops j c i),i<ops.size/\i≠j/\listed.getD i true=false/\gX P L ops j c i=false:=by
       intro i hi;have U:=O3.1 (List.all_takeWhile (p:=λi=>!gX P L ops j c i) (l:=kO listed (jB ops.size j))) i hi;have J:=(List.takeWhile_sublist _).mem hi;obtain⟨q3,q4⟩:=OC.1 J;obtain⟨q5,q6⟩:=OC.1 q3;refine⟨OD.1 q5,?_,by simpa using q4,by simpa using U⟩;rintro rfl;simp at q6
      have I:=gQ hM _ _ (λi hi=>by
       obtain⟨v,t,d,X⟩:=W i hi;have u:ops[i]?=some ops[i]:=OB v;have an:¬(c<=i\/(j<i/\gZ P L ops[i]=false)):=λq=>by
        rw[(sL u).2 q] at X;cases X
       refine⟨ops[i],oj,u,b,?_⟩;rcases ON i j with q|q
       ·rcases y.below i _ _ u b q with z|z
        ·exact z
        ·rw[n i d v] at z;cases z
       ·have Y:j<i:=by omega
        refine((y.mid i _ _ u b Y (by omega)).2 ?_).2;cases a1:gZ P L ops[i] with
        |true=>rfl
        |false=>exact absurd (.inr ⟨Y,a1⟩) an) a w h1
      rw[List.takeWhile_append_dropWhile] at I;refine qV b K I λV w' B hk=>ih _ V w' B (by simp[hs]) g hlen (λ_=>?_) (λx=>?_)
      ·have e5:aN ops (listed.setIfInBounds j true)=(Pa ops.size).filter λi=>!listed.getD i true&&decide (i≠j):=pf λi hi=>by rw[hs];exact OD.1 hi
       have e6:kO listed (jB ops.size j)=(Pa ops.size).filter λi=>!listed.getD i true&&decide (i≠j):=by
        unfold kO jB;rw[QP];refine PJ λi _=>?_;by_cases e:i=j
        ·subst e;simp
        ·have:Ou i j=false:=by
          cases q:Ou i j with
          |false=>rfl
          |true=>exact absurd (Od q) e
         simp[e,this]
       rw[e5,<-e6];exact hk
      ·rw[T] at x;cases x
     ·have G:(listed.setIfInBounds j true).getD f true=false:=by rw[getD_set_ne true (Pt (Pt k))];exact m
      have a6:Ou j f=false:=by
       cases q:Ou j f with
       |false=>rfl
       |true=>exact absurd (Od q) k
      obtain⟨m1,m2,f1,f2,f3⟩:=il (λi=>!listed.getD i true&&!Ou i f) j (by simp only[hu,a6];rfl) ops.size D;have g1:kO listed (jB ops.size f)=m1++j::m2:=by
       rw[<-f1];unfold kO jB;rw[QP]
      have g2:kO (listed.setIfInBounds j true) (jB ops.size f)=m1++m2:=by
       rw[pf λi hi=>by rw[hs];exact OD.1 (OC.1 hi).1,<-f3];unfold jB;rw[QP];refine PJ λi _=>?_;cases listed.getD i true<;>cases Ou i f<;>simp
      rw[g1] at H;have C:(m1++j::m2).Pairwise (·<·):=by rw[<-f1];exact T9 _ TR
      have Z:c<=j->cP P L true ops ops[f] oj=true:=λq=>by
       rcases y.above j _ _ b F q with s|s
       ·rw[n f m N] at s;cases s
       ·exact s
      have a7:(f<j->j<c->gZ P L oj=true)->cP P L true ops ops[f] oj=true\/j<f:=λq=>by
       rcases Nat.lt_trichotomy j f with r|r|r
       ·exact .inr r
       ·exact absurd r k
       ·rcases ON j c with s|s
        ·exact .inl ((y.mid j _ _ b F r s).2 (q r s)).1
        ·exact .inl (Z s)
      have I:=sh (c:=c) hM F b a7 Z m1 m2 (λi hi=>by
       obtain⟨t,d⟩:=f2 i hi;simp only[Ob,Pu] at d;obtain⟨oi,U,J⟩:=cm i t d.1 (by rintro rfl;simp at d) k;exact⟨t,oi,U,J,(Ac J).symm⟩) (λi hi=>by
        rw[List.pairwise_append] at C;exact(PB.1 C.2.1).1 i hi) (λ_=>trivial) a w K H
      exact qV b K I λV w' B hk=>ih _ V w' B (by simp[hs]) g hlen (λx=>by rw[G] at x;cases x) (λ_=>by rw[g2];exact hk)
theorem qL {rn:Option Nat}{id:Nat}{a:Act}{w:World}{f c:Nat}(hm:P.follows .mixedOrders=true)(l:M.isSome=true)(m:tD P L ops f c (dq ops.toList [])=true)(n:iQ M w.heap)
  (h:jn P M L ops f c (λa w=>Q .normal a w) (jB ops.size f) a {w with drawn:=w.drawn+1}):(Code.region id ops true).wpIn (FW rn) 0 P Q a w:=by
 have b:∀(d:Bool) j,j<ops.size->(Qj ops.size false).getD j d=false:=λd j o=>by simp[o]
 have e:=qq m;have g:f<ops.size:=UO e.fc e.cn;have hu:aN ops (Qj ops.size false)=Pa ops.size:=by
  unfold aN;rw[PF];intro i hi;have:=OD.1 hi;simp[this]
 refine wpIn_region_any hm (ER l e ops.size _ a _ n (by simp) ?_ (by rw[hu];simp) ?_ ?_)
 ·intro j oj _ hl;have:∀j,(Qj ops.size false).getD j false=false:=λj=>by
   rcases ON j ops.size with h|h
   ·simp[h]
   ·simp[h]
  rw[this] at hl;cases hl
 ·intro k;rw[b true f g] at k;cases k
 ·intro _;have:kO (Qj ops.size false) (jB ops.size f)=jB ops.size f:=by
   unfold kO;rw[PF];intro i hi;rw[b true i (OD.1 (OC.1 hi).1)];rfl
  rw[this];exact h
end
end Go.Proofs.YtmkbhnholcaghaaGreatDoor
