/-
 Ground, a text behind the first: a region in which one effect floats beside others: it may go ahead of any of those that do not wait for it. The walk serves every order if it serves each place of that one.
-/
import Derived.Test.YtmkbhnholcaghaaGreatDoorFxa
open Array renaming getElem?_eq_some_iff->Ow,getElem?_eq_getElem->OX,replicate->QH
open Bool renaming and_eq_true->OB,or_eq_true->PJ,not_eq_true'->PS
open Go.Region renaming binds->P4
open List renaming mem_cons->OG,mem_cons_of_mem->OM,mem_cons_self->OO,mem_filter->OY,mem_range->O1,all_eq_true->Pw,range->PA,pairwise_cons->P0,filter_eq_self->P7,filter_congr->P9,cons_append->Rc,filter_filter->Rf,pairwise_lt_range->Uh,takeWhile_cons->UJ,dropWhile_cons->UK
open List.Pairwise renaming filter->Uu
open Nat renaming eq_of_beq_eq_true->OD,beq->OQ,lt_or_ge->Pb,blt->Qc,ble->Tl,lt_trans->Ve
open Ne renaming symm->PR
open Option.some renaming inj->OS
namespace Go.Proofs.YtmkbhnholcaghaaGreatDoor
section
variable {P:Program}{M:Option (aa->Prop)}{L:List Nat}{ops:Array Oper}{Q:Exit->Act->World->Prop}
def ib (P:Program)(L:List Nat)(o:Oper):Bool:=dC P L o==0||dC P L o==1
def DD (ops:Array Oper)(i:Nat)(t:Oper->Bool):Bool:=match ops[i]? with|some o=>t o|none=>false
theorem gT {i:Nat}{t:Oper->Bool}{o:Oper}(h:DD ops i t=true)(a:ops[i]?=some o):t o=true:=by
 unfold DD at h;rw[a] at h;exact h
def tO (P:Program)(L:List Nat)(ops:Array Oper)(f c:Nat)(B:List Nat):Bool:=
 decide (f<c)&&decide (c<ops.size)&&waits B c f&&
 (PA ops.size).all λj=>DD ops j λoj=>
  (oj.after.all λe=>!P4 .any e||decide (e.on<j))&&
  ((PA j).all λi=>i==f||j==f||DD ops i (λoi=>cT P L true ops oi oj||waits B j i))&&
  DD ops f (λof=>(bif Qc j f then cT P L true ops oj of||waits B f j else
   bif OQ j f then true else
   bif Qc j c then !(waits B j f)&&(!(ib P L oj)||(cT P L true ops of oj&&cT P L true ops oj of))
   else (waits B j f||cT P L true ops of oj)))
structure Gc (P:Program)(L:List Nat)(ops:Array Oper)(f c:Nat):Prop where
 fc:f<c
 cn:c<ops.size
 wait:waits (du ops.toList []) c f=true
 lt:∀j oj,ops[j]?=some oj->∀e∈oj.after,P4 .any e=true->e.on<j
 pair:∀i j oi oj,ops[i]?=some oi->ops[j]?=some oj->i<j->i≠f->j≠f->cT P L true ops oi oj=true\/waits (du ops.toList []) j i=true
 below:∀i oi of,ops[i]?=some oi->ops[f]?=some of->i<f->cT P L true ops oi of=true\/waits (du ops.toList []) f i=true
 mid:∀i oi of,ops[i]?=some oi->ops[f]?=some of->f<i->i<c->waits (du ops.toList []) i f=false/\(ib P L oi=true->cT P L true ops of oi=true/\cT P L true ops oi of=true)
 above:∀i oi of,ops[i]?=some oi->ops[f]?=some of->c<=i->waits (du ops.toList []) i f=true\/cT P L true ops of oi=true
theorem qF {f c:Nat}(h:tO P L ops f c (du ops.toList [])=true):Gc P L ops f c:=by
 unfold tO at h;simp only[OB,decide_eq_true_eq] at h;obtain⟨⟨⟨h1,o⟩,p⟩,r⟩:=h;have key:∀j oj,ops[j]?=some oj->_:=λj oj b=>by
  have a:j<ops.size:=(Ow.1 b).1;exact gT (Pw.1 r j (O1.2 a)) b
 simp only[OB] at key;refine⟨h1,o,p,?_,?_,?_,?_,?_⟩
 ·intro j oj b e he d;have:=Array.all_eq_true_iff_forall_mem.1 (key j oj b).1.1 e he;simpa[d] using this
 ·intro i j oi oj hi b k l m;have:=Pw.1 (key j oj b).1.2 i (O1.2 k);simp only[PJ,beq_iff_eq] at this;rcases this with (q|q)|q
  ·exact absurd q l
  ·exact absurd q m
  ·have:=gT q hi;simpa[PJ] using this
 ·intro i oi of hi g a;have:=gT (key i oi hi).2 g;rw[fY.2 a] at this;simpa[PJ] using this
 ·intro i oi of hi g s n;have:=gT (key i oi hi).2 g;rw[xR (by omega:¬i<f),fY.2 n] at this;have d:OQ i f=false:=by
   cases q:OQ i f with
   |false=>rfl
   |true=>have:=OD q;omega
  rw[d] at this;simp only[cond_false,cond_true,OB,PJ,PS] at this;refine⟨this.1,λt=>?_⟩;rcases this.2 with q|q
  ·rw[t] at q;cases q
  ·exact q
 ·intro i oi of hi g u;have:=gT (key i oi hi).2 g;rw[xR (by omega:¬i<f),xR (by omega:¬i<c)] at this;have d:OQ i f=false:=by
   cases q:OQ i f with
   |false=>rfl
   |true=>have:=OD q;omega
  rw[d] at this;simpa[PJ] using this
theorem As {m:Bool}{x y:Oper}(h:cT P L m ops x y=true):ib P L x=true\/ib P L y=true:=by
 obtain⟨_,a,_⟩:=nP h;unfold ib;rcases a with q|q|⟨q,_⟩|⟨_,q|q⟩
 ·left;simp[q]
 ·right;simp[q]
 ·left;simp[q]
 ·left;simp[q]
 ·right;simp[q]
theorem gU {K:Act->World->Prop}{j:Nat}(f:M.isSome=true):∀(b c:List Nat),(∀i∈b,∃oi oj,ops[i]?=some oi/\ops[j]?=some oj/\cT P L true ops oi oj=true)->
  ∀a w,eZ P M ops.size L ops K (b++j::c) a w->bT P M ops.size L ops j (eZ P M ops.size L ops K (b++c)) a w
 |[],c,_,a,w,h=>h
 |i::b,c,g,a,w,h=>by
   have h1:bT P M ops.size L ops i (bT P M ops.size L ops j (eZ P M ops.size L ops K (b++c))) a w:=di (gU f b c (λk hk=>g k (OM _ hk))) h;obtain⟨oi,oj,hi,l,d⟩:=g i OO;have n:pq M ops.size i=M:=by unfold pq;rw[fY.2 (Ow.1 hi).1];rfl
   have o:pq M ops.size j=M:=by unfold pq;rw[fY.2 (Ow.1 l).1];rfl
   have e:∀K',bT P M ops.size L ops i K'=fH P M L ops oi K':=λK'=>by funext a w;simp only[bT,hi,n]
   have m:∀K',bT P M ops.size L ops j K'=fH P M L ops oj K':=λK'=>by funext a w;simp only[bT,l,o]
   rw[e,m] at h1;have p:=pO d (λ_=>⟨rfl,f⟩) h1;simp only[Rc,eZ];rw[e,m];exact p
theorem rh {rn:Option Nat}{fuel j:Nat}{listed:Array Bool}{a:Act}{w:World}{X:Act->World->Prop}{oj:Oper}(b:ops[j]?=some oj)(c:iU M w.heap)
  (h:bT P M ops.size L ops j X a w) (go:∀d w',iU M w'.heap->X d w'->wpAnyIn (FW rn) 0 P .any ops Q fuel (listed.setIfInBounds j true) d w'):
  wpOpIn (FW rn) 0 P ops Q j (λa w=>wpAnyIn (FW rn) 0 P .any ops Q fuel (listed.setIfInBounds j true) a w) a w:=by
 have f:pq M ops.size j=M:=by unfold pq;rw[fY.2 (Ow.1 b).1];rfl
 have g:bT P M ops.size L ops j (λa w=>iU M w.heap/\X a w) a w:=by
  unfold bT at h ⊢;rw[b] at h ⊢;exact pM c (.inr (.inr f)) h
 exact j6 (λ_ _ _ _=>c) (di (λd w' e=>go d w' e.1 e.2) g)
theorem wpAny_first {rn:Option Nat}{fuel:Nat}{listed:Array Bool}{a:Act}{w:World}(hs:listed.size=ops.size)(hl:(aM ops listed).length=fuel+1)(p:∀j oj,ops[j]?=some oj->∀e∈oj.after,P4 .any e=true->e.on<j)
  (h:∀j oj,ops[j]?=some oj->listed.getD j true=false->(∀e∈oj.after,P4 .any e=true->listed.getD e.on false=true)->wpOpIn (FW rn) 0 P ops Q j (λa w=>wpAnyIn (FW rn) 0 P .any ops Q fuel (listed.setIfInBounds j true) a w) a w):
  wpAnyIn (FW rn) 0 P .any ops Q (fuel+1) listed a w:=by
 refine⟨λs=>?_,λj t=>?_⟩
 ·exfalso;cases o:aM ops listed with
  |nil=>rw[o] at hl;simp at hl
  |cons m rest=>
    have hm:m∈aM ops listed:=by rw[o];exact OO
    have g:∀i,i<m->listed.getD i false=true:=by
     intro i hi;obtain⟨d,k⟩:=OY.1 hm;have c:=O1.1 d;cases f:listed.getD i true with
     |true=>
       have:i<listed.size:=by omega
       simp[this] at f ⊢;exact f
     |false=>
       have l:i∈aM ops listed:=OY.2 ⟨O1.2 (by omega),by simp[f]⟩;rw[o] at l;have b:(aM ops listed).Pairwise (·<·):=Uu _ Uh;rw[o,P0] at b;rcases OG.1 l with e|e
       ·omega
       ·have:=b.1 i e;omega
    obtain⟨d,k⟩:=OY.1 hm;have c:=O1.1 d;have r:ops[m]?=some ops[m]:=OX c;have:m∈Region.ready .any ops listed:=mem_ready.2 ⟨by simpa using k,_,r,λe he u=>g _ (p m _ r e he u)⟩;rw[s] at this;cases this
 ·obtain⟨hu,oj,q,n⟩:=mem_ready.1 t;exact h j oj q hu n
def kY (listed:Array Bool)(l:List Nat):List Nat:=l.filter λi=>!listed.getD i true
theorem px {listed:Array Bool}{j:Nat}{l:List Nat}(c:∀i∈l,i<listed.size):kY (listed.setIfInBounds j true) l=(l.filter λi=>!listed.getD i true&&decide (i≠j)):=by
 unfold kY;refine P9 λi hi=>?_;have b:=c i hi;by_cases a:i=j
 ·subst a;simp[b]
 ·rw[getD_set_ne true (PR a)];simp[a]
def jH (n f:Nat):List Nat:=(PA n).filter λi=>!OQ i f
def hZ (P:Program)(L:List Nat)(ops:Array Oper)(f c i:Nat):Bool:=Tl c i||(Qc f i&&DD ops i λo=>!(ib P L o))
def jv (P:Program)(M:Option (aa->Prop))(L:List Nat)(ops:Array Oper)(f c:Nat)(K:Act->World->Prop):List Nat->Act->World->Prop
 |[]=>eZ P M ops.size L ops K [f]
 |i::l=>bif Tl c i then eZ P M ops.size L ops K (f::i::l) else
   bif hZ P L ops f c i then λa w=>eZ P M ops.size L ops K (f::i::l) a w/\bT P M ops.size L ops i (jv P M L ops f c K l) a w
   else bT P M ops.size L ops i (jv P M L ops f c K l)
theorem ye {i k:Nat}:Tl i k=true↔i<=k:=⟨Nat.le_of_ble_eq_true,Nat.ble_eq_true_of_le⟩
theorem C6 {f c:Nat}{K:Act->World->Prop}{l:List Nat}(h:∀i∈l,c<=i):jv P M L ops f c K l=eZ P M ops.size L ops K (f::l):=by
 cases l with
 |nil=>rfl
 |cons i l=>
   show (bif Tl c i then _ else _)=_;rw[ye.2 (h i OO)];rfl
theorem Cs {i:Nat}{oi:Oper}{K:Act->World->Prop}{a:Act}{w:World}(hi:ops[i]?=some oi)(b:iU M w.heap)(h:bT P M ops.size L ops i K a w):bT P M ops.size L ops i (λa w=>iU M w.heap/\K a w) a w:=by
 have c:pq M ops.size i=M:=by unfold pq;rw[fY.2 (Ow.1 hi).1];rfl
 unfold bT at h ⊢;rw[hi] at h ⊢;exact pM b (.inr (.inr c)) h
theorem nO {i j:Nat}{oi oj:Oper}(f:M.isSome=true)(hi:ops[i]?=some oi)(c:ops[j]?=some oj)(b:cT P L true ops oi oj=true){K:Act->World->Prop}{a:Act}{w:World}
  (h:bT P M ops.size L ops i (bT P M ops.size L ops j K) a w):bT P M ops.size L ops j (bT P M ops.size L ops i K) a w:=by
 have g:pq M ops.size i=M:=by unfold pq;rw[fY.2 (Ow.1 hi).1];rfl
 have k:pq M ops.size j=M:=by unfold pq;rw[fY.2 (Ow.1 c).1];rfl
 have e:∀K',bT P M ops.size L ops i K'=fH P M L ops oi K':=λK'=>by funext a w;simp only[bT,hi,g]
 have d:∀K',bT P M ops.size L ops j K'=fH P M L ops oj K':=λK'=>by funext a w;simp only[bT,c,k]
 rw[e,d] at h;rw[d,e];exact pO b (λ_=>⟨rfl,f⟩) h
theorem FD {j:Nat}{oj:Oper}(h:ops[j]?=some oj)(e:ib P L oj=true){A B:Act->World->Prop}{a:Act}{w:World}(c:iU M w.heap)(h1:bT P M ops.size L ops j A a w)(b:bT P M ops.size L ops j B a w):
  bT P M ops.size L ops j (λa w=>A a w/\B a w) a w:=by
 have i:pq M ops.size j=M:=by unfold pq;rw[fY.2 (Ow.1 h).1];rfl
 unfold bT at*;rw[h] at*;simp only[i] at*;unfold fH at*;split
 ·rename_i hw;rw[if_pos hw] at h1 b;unfold ib at e;simp only[PJ,beq_iff_eq] at e;rcases e with q|q
  ·rw[q] at h1 b ⊢;obtain⟨v1,d,f⟩:=h1;obtain⟨v2,r2,g⟩:=b;have:=(d w).symm.trans (r2 w);cases this;exact⟨v1,d,f,g⟩
  ·rw[q] at h1 b ⊢;obtain⟨v1,d,f⟩:=h1;obtain⟨v2,r2,g⟩:=b;have:=(d w (sE c)).symm.trans (r2 w (sE c));cases this;exact⟨v1,d,f,g⟩
 ·rename_i hw;rw[if_neg hw] at h1 b;exact⟨h1,b⟩
theorem sZ {f c i:Nat}{oi:Oper}(hi:ops[i]?=some oi):hZ P L ops f c i=true↔c<=i\/(f<i/\ib P L oi=false):=by
 unfold hZ DD;rw[hi];simp only[PJ,OB,PS];rw[ye,fY]
theorem yf {f c:Nat}{K:Act->World->Prop}:∀(l:List Nat) (a:Act) (w:World),jv P M L ops f c K l a w->eZ P M ops.size L ops K ((l.takeWhile λi=>!hZ P L ops f c i)++f::l.dropWhile λi=>!hZ P L ops f c i) a w
 |[],a,w,h=>h
 |i::l,a,w,h=>by
   unfold jv at h;cases b:Tl c i with
   |true=>
     rw[b] at h;have hs:hZ P L ops f c i=true:=by unfold hZ;rw[b];rfl
     simp only[UJ,UK,hs];exact h
   |false=>
     rw[b] at h;cases hs:hZ P L ops f c i with
     |true=>
       rw[hs] at h;simp only[UJ,UK,hs];exact h.1
     |false=>
       rw[hs] at h;simp only[UJ,UK,hs];exact di (yf l) h
theorem sK {f c j:Nat}{of oj:Oper}{K:Act->World->Prop}(p:M.isSome=true)(s:ops[f]?=some of)(n:ops[j]?=some oj)(o:(f<j->j<c->ib P L oj=true)->cT P L true ops of oj=true\/j<f)(l:c<=j->cT P L true ops of oj=true):
  ∀(d b:List Nat),(∀i∈d,i<j/\∃oi,ops[i]?=some oi/\cT P L true ops oi oj=true/\(ib P L oj=true\/ib P L oi=true))->(∀i∈b,j<i)->(c<=j->True)->
  ∀a w,iU M w.heap->jv P M L ops f c K (d++j::b) a w->bT P M ops.size L ops j (jv P M L ops f c K (d++b)) a w
 |[],b,_,t,_,a,w,m,h=>by
   simp only[List.nil_append] at h ⊢;unfold jv at h;cases g:Tl c j with
   |true=>
     rw[g] at h;have e:=ye.1 g;rw[C6 λi hi=>Nat.le_trans e (Nat.le_of_lt (t i hi))];exact gU p [f] b (λi hi=>by rw[List.mem_singleton] at hi;subst hi;exact⟨of,oj,s,n,l e⟩) a w h
   |false=>
     rw[g] at h;cases hs:hZ P L ops f c j with
     |true=>rw[hs] at h;exact h.2
     |false=>rw[hs] at h;exact h
 |i::d,b,h1,t,D,a,w,m,h=>by
   obtain⟨E,oi,hi,u,v⟩:=h1 i OO;have x:=λk hk=>h1 k (OM _ hk);simp only[Rc] at h ⊢;unfold jv at h;rw[show jv P M L ops f c K (i::(d++b))=(bif Tl c i then eZ P M ops.size L ops K (f::i::(d++b)) else
    bif hZ P L ops f c i then λa w=>eZ P M ops.size L ops K (f::i::(d++b)) a w/\bT P M ops.size L ops i (jv P M L ops f c K (d++b)) a w
    else bT P M ops.size L ops i (jv P M L ops f c K (d++b))) from rfl]
   have inner:bT P M ops.size L ops i (jv P M L ops f c K (d++j::b)) a w->bT P M ops.size L ops j (bT P M ops.size L ops i (jv P M L ops f c K (d++b))) a w:=λy=>
    nO p hi n u (di (λF w' hk=>sK p s n o l d b x t D F w' hk.1 hk.2) (Cs hi m y))
   have front:cT P L true ops of oj=true->eZ P M ops.size L ops K (f::i::(d++j::b)) a w->bT P M ops.size L ops j (eZ P M ops.size L ops K (f::i::(d++b))) a w:=λG y=>
    gU p (f::i::d) b (λk hk=>by
     rcases OG.1 hk with q|q
     ·subst q;exact⟨of,oj,s,n,G⟩
     ·obtain⟨_,ok,z,A,_⟩:=h1 k q;exact⟨ok,oj,z,n,A⟩) a w y
   cases g:Tl c i with
   |true=>
     rw[g] at h;exact front (l (by have:=ye.1 g;omega)) h
   |false=>
     rw[g] at h;cases hs:hZ P L ops f c i with
     |false=>
       rw[hs] at h;exact inner h
     |true=>
       rw[hs] at h;have B:¬c<=i:=λq=>by rw[ye.2 q] at g;cases g
       rcases (sZ hi).1 hs with q|⟨I,H⟩
       ·exact absurd q B
       ·have e:ib P L oj=true:=by
         rcases v with r|r
         ·exact r
         ·rw[H] at r;cases r
        have C:cT P L true ops of oj=true:=by
         rcases o (λ_ _=>e) with r|r
         ·exact r
         ·omega
        exact FD n e m (front C h.1) (inner h.2)
theorem Ff {rn:Option Nat}{f c:Nat}(hM:M.isSome=true)(y:Gc P L ops f c):∀(fuel:Nat) (listed:Array Bool) (a:Act) (w:World),iU M w.heap->listed.size=ops.size->qp ops listed->(aM ops listed).length=fuel->
  (listed.getD f true=true->eZ P M ops.size L ops (λa w=>Q .normal a w) (aM ops listed) a w)->
  (listed.getD f true=false->jv P M L ops f c (λa w=>Q .normal a w) (kY listed (jH ops.size f)) a w)->
  wpAnyIn (FW rn) 0 P .any ops Q fuel listed a w:=by
 intro fuel
 induction fuel with
 |zero=>
   intro listed a w K hs hc hl h _;have h0:aM ops listed=[]:=List.length_eq_zero_iff.1 hl;have hf:listed.getD f true=true:=by
    cases q:listed.getD f true with
    |true=>rfl
    |false=>
      have:f∈aM ops listed:=OY.2 ⟨O1.2 (Ve y.fc y.cn),by simp[q]⟩;rw[h0] at this;cases this
   refine⟨?_,by have:=h hf;rw[h0] at this;exact this⟩;rw[List.eq_nil_iff_forall_not_mem];intro j hj;obtain⟨hu,o,ho,_⟩:=mem_ready.1 hj;have D:j<ops.size:=(Ow.1 ho).1;have:j∈aM ops listed:=OY.2 ⟨O1.2 D,by simp[hu]⟩;rw[h0] at this;cases this
 |succ fuel ih=>
   intro listed a w K hs hc hl h hn;refine wpAny_first hs hl y.lt λj oj b hu E=>?_;have D:j<ops.size:=(Ow.1 b).1;have N:f<ops.size:=Ve y.fc y.cn;have F:ops[f]?=some ops[f]:=OX N;have n:∀i,listed.getD i true=false->i<ops.size->waits (du ops.toList []) j i=false:=by
    intro i d v;cases z:waits (du ops.toList []) j i with
    |false=>rfl
    |true=>
      have h4:=kC hc y.lt j i oj b E z;have:i<listed.size:=by omega
      simp[this] at d h4;rw[d] at h4;cases h4
   have g:qp ops (listed.setIfInBounds j true):=by
    intro q ok x O e he hb;by_cases R:j=q
    ·subst R;have:ok=oj:=OS (x.symm.trans b);subst this;exact getD_set_true (E e he hb)
    ·rw[getD_set_ne false R] at O;exact getD_set_true (hc q ok x O e he hb)
   obtain⟨l1,l2,e1,e2,e3⟩:=iu (λi=>!listed.getD i true) j (by simp[hu]) ops.size D;have S:aM ops listed=l1++j::l2:=e1;have e4:aM ops (listed.setIfInBounds j true)=l1++l2:=by
    rw[<-e3];exact px λi hi=>by rw[hs];exact O1.1 hi
   have hlen:(aM ops (listed.setIfInBounds j true)).length=fuel:=by
    rw[e4];rw[S] at hl;simp only[List.length_append,List.length_cons] at hl ⊢;omega
   have T:(listed.setIfInBounds j true).getD j true=true:=by
    have:j<listed.size:=by omega
    simp[this]
   have cm:∀i,i<j->listed.getD i true=false->i≠f->j≠f->∃oi,ops[i]?=some oi/\cT P L true ops oi oj=true:=by
    intro i t d af k;have v:i<ops.size:=by omega
    have u:ops[i]?=some ops[i]:=OX v;refine⟨ops[i],u,?_⟩;rcases y.pair i j _ _ u b t af k with z|z
    ·exact z
    ·rw[n i d v] at z;cases z
   cases m:listed.getD f true with
   |true=>
     have k:j≠f:=by rintro rfl;rw[hu] at m;cases m
     have H:=h m;rw[S] at H;have I:=gU hM l1 l2 (λi hi=>by
      obtain⟨t,d⟩:=e2 i hi;have A:listed.getD i true=false:=by simpa using d
      obtain⟨oi,U,J⟩:=cm i t A (by rintro rfl;rw[m] at A;cases A) k;exact⟨oi,oj,U,b,J⟩) a w H
     refine rh b K I λV w' B hk=>ih _ V w' B (by simp[hs]) g hlen (λ_=>by rw[e4];exact hk) (λx=>?_);rw[getD_set_ne true k] at x;rw[m] at x;cases x
   |false=>
     have H:=hn m;by_cases k:j=f
     ·subst k;have h1:=yf _ a w H;have W:∀i∈(kY listed (jH ops.size j)).takeWhile (λi=>!hZ P L ops j c i),i<ops.size/\i≠j/\listed.getD i true=false/\hZ P L ops j c i=false:=by
       intro i hi;have U:=Pw.1 (List.all_takeWhile (p:=λi=>!hZ P L ops j c i) (l:=kY listed (jH ops.size j))) i hi;have J:=(List.takeWhile_sublist _).mem hi;obtain⟨q3,q4⟩:=OY.1 J;obtain⟨q5,q6⟩:=OY.1 q3;refine⟨O1.1 q5,?_,by simpa using q4,by simpa using U⟩;rintro rfl;simp at q6
      have I:=gU hM _ _ (λi hi=>by
       obtain⟨v,t,d,X⟩:=W i hi;have u:ops[i]?=some ops[i]:=OX v;have an:¬(c<=i\/(j<i/\ib P L ops[i]=false)):=λq=>by
        rw[(sZ u).2 q] at X;cases X
       refine⟨ops[i],oj,u,b,?_⟩;rcases Pb i j with q|q
       ·rcases y.below i _ _ u b q with z|z
        ·exact z
        ·rw[n i d v] at z;cases z
       ·have Y:j<i:=by omega
        refine((y.mid i _ _ u b Y (by omega)).2 ?_).2;cases a1:ib P L ops[i] with
        |true=>rfl
        |false=>exact absurd (.inr ⟨Y,a1⟩) an) a w h1
      rw[List.takeWhile_append_dropWhile] at I;refine rh b K I λV w' B hk=>ih _ V w' B (by simp[hs]) g hlen (λ_=>?_) (λx=>?_)
      ·have e5:aM ops (listed.setIfInBounds j true)=(PA ops.size).filter λi=>!listed.getD i true&&decide (i≠j):=px λi hi=>by rw[hs];exact O1.1 hi
       have e6:kY listed (jH ops.size j)=(PA ops.size).filter λi=>!listed.getD i true&&decide (i≠j):=by
        unfold kY jH;rw[Rf];refine P9 λi _=>?_;by_cases e:i=j
        ·subst e;simp
        ·have:OQ i j=false:=by
          cases q:OQ i j with
          |false=>rfl
          |true=>exact absurd (OD q) e
         simp[e,this]
       rw[e5,<-e6];exact hk
      ·rw[T] at x;cases x
     ·have G:(listed.setIfInBounds j true).getD f true=false:=by rw[getD_set_ne true (PR (PR k))];exact m
      have a6:OQ j f=false:=by
       cases q:OQ j f with
       |false=>rfl
       |true=>exact absurd (OD q) k
      obtain⟨m1,m2,f1,f2,f3⟩:=iu (λi=>!listed.getD i true&&!OQ i f) j (by simp only[hu,a6];rfl) ops.size D;have g1:kY listed (jH ops.size f)=m1++j::m2:=by
       rw[<-f1];unfold kY jH;rw[Rf]
      have g2:kY (listed.setIfInBounds j true) (jH ops.size f)=m1++m2:=by
       rw[px λi hi=>by rw[hs];exact O1.1 (OY.1 hi).1,<-f3];unfold jH;rw[Rf];refine P9 λi _=>?_;cases listed.getD i true<;>cases OQ i f<;>simp
      rw[g1] at H;have C:(m1++j::m2).Pairwise (·<·):=by rw[<-f1];exact Uu _ Uh
      have Z:c<=j->cT P L true ops ops[f] oj=true:=λq=>by
       rcases y.above j _ _ b F q with s|s
       ·rw[n f m N] at s;cases s
       ·exact s
      have a7:(f<j->j<c->ib P L oj=true)->cT P L true ops ops[f] oj=true\/j<f:=λq=>by
       rcases Nat.lt_trichotomy j f with r|r|r
       ·exact .inr r
       ·exact absurd r k
       ·rcases Pb j c with s|s
        ·exact .inl ((y.mid j _ _ b F r s).2 (q r s)).1
        ·exact .inl (Z s)
      have I:=sK (c:=c) hM F b a7 Z m1 m2 (λi hi=>by
       obtain⟨t,d⟩:=f2 i hi;simp only[OB,PS] at d;obtain⟨oi,U,J⟩:=cm i t d.1 (by rintro rfl;simp at d) k;exact⟨t,oi,U,J,(As J).symm⟩) (λi hi=>by
        rw[List.pairwise_append] at C;exact(P0.1 C.2.1).1 i hi) (λ_=>trivial) a w K H
      exact rh b K I λV w' B hk=>ih _ V w' B (by simp[hs]) g hlen (λx=>by rw[G] at x;cases x) (λ_=>by rw[g2];exact hk)
theorem qV {rn:Option Nat}{id:Nat}{a:Act}{w:World}{f c:Nat}(hm:P.follows .mixedOrders=true)(l:M.isSome=true)(m:tO P L ops f c (du ops.toList [])=true)(n:iU M w.heap)
  (h:jv P M L ops f c (λa w=>Q .normal a w) (jH ops.size f) a {w with drawn:=w.drawn+1}):(Code.region id ops true).wpIn (FW rn) 0 P Q a w:=by
 have b:∀(d:Bool) j,j<ops.size->(QH ops.size false).getD j d=false:=λd j o=>by simp[o]
 have e:=qF m;have g:f<ops.size:=Ve e.fc e.cn;have hu:aM ops (QH ops.size false)=PA ops.size:=by
  unfold aM;rw[P7];intro i hi;have:=O1.1 hi;simp[this]
 refine wpIn_region_any hm (Ff l e ops.size _ a _ n (by simp) ?_ (by rw[hu];simp) ?_ ?_)
 ·intro j oj _ hl;have:∀j,(QH ops.size false).getD j false=false:=λj=>by
   rcases Pb j ops.size with h|h
   ·simp[h]
   ·simp[h]
  rw[this] at hl;cases hl
 ·intro k;rw[b true f g] at k;cases k
 ·intro _;have:kY (QH ops.size false) (jH ops.size f)=jH ops.size f:=by
   unfold kY;rw[P7];intro i hi;rw[b true i (O1.1 (OY.1 hi).1)];rfl
  rw[this];exact h
end
end Go.Proofs.YtmkbhnholcaghaaGreatDoor
