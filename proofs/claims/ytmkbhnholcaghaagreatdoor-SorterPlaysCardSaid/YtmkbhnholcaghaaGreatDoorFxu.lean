/-
 Ground, a text behind the first: a region in which one effect floats beside others: it may go ahead of any of those that do not wait for it. The walk serves every order if it serves each place of that one.
-/
import Derived.Test.YtmkbhnholcaghaaGreatDoorFxa
open Array renaming getElem?_eq_some_iff->Of,getElem?_eq_getElem->OJ,replicate->Qt
open Bool renaming and_eq_true->Oj,or_eq_true->Pu,not_eq_true'->PC
open Go.Region renaming binds->PL
open List renaming mem_cons->Oq,mem_cons_of_mem->Ou,mem_cons_self->OA,mem_filter->OK,mem_range->OM,all_eq_true->Pb,range->Pk,pairwise_cons->PK,filter_eq_self->PO,filter_congr->PS,cons_append->QW,filter_filter->QY,pairwise_lt_range->TZ,takeWhile_cons->Uu,dropWhile_cons->Uv
open List.Pairwise renaming filter->Uh
open Nat renaming eq_of_beq_eq_true->Om,beq->OC,lt_or_ge->OV,blt->PV,ble->SY,lt_trans->UX
open Ne renaming symm->PB
open Option.some renaming inj->OE
namespace Go.Proofs.YtmkbhnholcaghaaGreatDoor
section
variable {P:Program}{M:Option (aa->Prop)}{L:List Nat}{ops:Array Oper}{Q:Exit->Act->World->Prop}
def hZ (P:Program)(L:List Nat)(o:Oper):Bool:=dy P L o==0||dy P L o==1
def Dq (ops:Array Oper)(i:Nat)(t:Oper->Bool):Bool:=match ops[i]? with|some o=>t o|none=>false
theorem gQ {i:Nat}{t:Oper->Bool}{o:Oper}(h:Dq ops i t=true)(a:ops[i]?=some o):t o=true:=by
 unfold Dq at h;rw[a] at h;exact h
def tF (P:Program)(L:List Nat)(ops:Array Oper)(f c:Nat)(B:List Nat):Bool:=
 decide (f<c)&&decide (c<ops.size)&&waits B c f&&
 (Pk ops.size).all λj=>Dq ops j λoj=>
  (oj.after.all λe=>!PL .any e||decide (e.on<j))&&
  ((Pk j).all λi=>i==f||j==f||Dq ops i (λoi=>cQ P L true ops oi oj||waits B j i))&&
  Dq ops f (λof=>(bif PV j f then cQ P L true ops oj of||waits B f j else
   bif OC j f then true else
   bif PV j c then !(waits B j f)&&(!(hZ P L oj)||(cQ P L true ops of oj&&cQ P L true ops oj of))
   else (waits B j f||cQ P L true ops of oj)))
structure FQ (P:Program)(L:List Nat)(ops:Array Oper)(f c:Nat):Prop where
 fc:f<c
 cn:c<ops.size
 wait:waits (dr ops.toList []) c f=true
 lt:∀j oj,ops[j]?=some oj->∀e∈oj.after,PL .any e=true->e.on<j
 pair:∀i j oi oj,ops[i]?=some oi->ops[j]?=some oj->i<j->i≠f->j≠f->cQ P L true ops oi oj=true\/waits (dr ops.toList []) j i=true
 below:∀i oi of,ops[i]?=some oi->ops[f]?=some of->i<f->cQ P L true ops oi of=true\/waits (dr ops.toList []) f i=true
 mid:∀i oi of,ops[i]?=some oi->ops[f]?=some of->f<i->i<c->waits (dr ops.toList []) i f=false/\(hZ P L oi=true->cQ P L true ops of oi=true/\cQ P L true ops oi of=true)
 above:∀i oi of,ops[i]?=some oi->ops[f]?=some of->c<=i->waits (dr ops.toList []) i f=true\/cQ P L true ops of oi=true
theorem qv {f c:Nat}(h:tF P L ops f c (dr ops.toList [])=true):FQ P L ops f c:=by
 unfold tF at h;simp only[Oj,decide_eq_true_eq] at h;obtain⟨⟨⟨h1,o⟩,p⟩,r⟩:=h;have key:∀j oj,ops[j]?=some oj->_:=λj oj b=>by
  have a:j<ops.size:=(Of.1 b).1;exact gQ (Pb.1 r j (OM.2 a)) b
 simp only[Oj] at key;refine⟨h1,o,p,?_,?_,?_,?_,?_⟩
 ·intro j oj b e he d;have:=Array.all_eq_true_iff_forall_mem.1 (key j oj b).1.1 e he;simpa[d] using this
 ·intro i j oi oj hi b k l m;have:=Pb.1 (key j oj b).1.2 i (OM.2 k);simp only[Pu,beq_iff_eq] at this;rcases this with (q|q)|q
  ·exact absurd q l
  ·exact absurd q m
  ·have:=gQ q hi;simpa[Pu] using this
 ·intro i oi of hi g a;have:=gQ (key i oi hi).2 g;rw[fU.2 a] at this;simpa[Pu] using this
 ·intro i oi of hi g s n;have:=gQ (key i oi hi).2 g;rw[xI (by omega:¬i<f),fU.2 n] at this;have d:OC i f=false:=by
   cases q:OC i f with
   |false=>rfl
   |true=>have:=Om q;omega
  rw[d] at this;simp only[cond_false,cond_true,Oj,Pu,PC] at this;refine⟨this.1,λt=>?_⟩;rcases this.2 with q|q
  ·rw[t] at q;cases q
  ·exact q
 ·intro i oi of hi g u;have:=gQ (key i oi hi).2 g;rw[xI (by omega:¬i<f),xI (by omega:¬i<c)] at this;have d:OC i f=false:=by
   cases q:OC i f with
   |false=>rfl
   |true=>have:=Om q;omega
  rw[d] at this;simpa[Pu] using this
theorem Ag {m:Bool}{x y:Oper}(h:cQ P L m ops x y=true):hZ P L x=true\/hZ P L y=true:=by
 obtain⟨_,a,_⟩:=nG h;unfold hZ;rcases a with q|q|⟨q,_⟩|⟨_,q|q⟩
 ·left;simp[q]
 ·right;simp[q]
 ·left;simp[q]
 ·left;simp[q]
 ·right;simp[q]
theorem gR {K:Act->World->Prop}{j:Nat}(f:M.isSome=true):∀(b c:List Nat),(∀i∈b,∃oi oj,ops[i]?=some oi/\ops[j]?=some oj/\cQ P L true ops oi oj=true)->
  ∀a w,eX P M ops.size L ops K (b++j::c) a w->bS P M ops.size L ops j (eX P M ops.size L ops K (b++c)) a w
 |[],c,_,a,w,h=>h
 |i::b,c,g,a,w,h=>by
   have h1:bS P M ops.size L ops i (bS P M ops.size L ops j (eX P M ops.size L ops K (b++c))) a w:=dh (gR f b c (λk hk=>g k (Ou _ hk))) h;obtain⟨oi,oj,hi,l,d⟩:=g i OA;have n:pa M ops.size i=M:=by unfold pa;rw[fU.2 (Of.1 hi).1];rfl
   have o:pa M ops.size j=M:=by unfold pa;rw[fU.2 (Of.1 l).1];rfl
   have e:∀K',bS P M ops.size L ops i K'=fC P M L ops oi K':=λK'=>by funext a w;simp only[bS,hi,n]
   have m:∀K',bS P M ops.size L ops j K'=fC P M L ops oj K':=λK'=>by funext a w;simp only[bS,l,o]
   rw[e,m] at h1;have p:=pI d (λ_=>⟨rfl,f⟩) h1;simp only[QW,eX];rw[e,m];exact p
theorem qW {rn:Option Nat}{fuel j:Nat}{listed:Array Bool}{a:Act}{w:World}{X:Act->World->Prop}{oj:Oper}(b:ops[j]?=some oj)(c:iS M w.heap)
  (h:bS P M ops.size L ops j X a w) (go:∀d w',iS M w'.heap->X d w'->wpAnyIn (FW rn) 0 P .any ops Q fuel (listed.setIfInBounds j true) d w'):
  wpOpIn (FW rn) 0 P ops Q j (λa w=>wpAnyIn (FW rn) 0 P .any ops Q fuel (listed.setIfInBounds j true) a w) a w:=by
 have f:pa M ops.size j=M:=by unfold pa;rw[fU.2 (Of.1 b).1];rfl
 have g:bS P M ops.size L ops j (λa w=>iS M w.heap/\X a w) a w:=by
  unfold bS at h ⊢;rw[b] at h ⊢;exact pG c (.inr (.inr f)) h
 exact jW (λ_ _ _ _=>c) (dh (λd w' e=>go d w' e.1 e.2) g)
theorem wpAny_first {rn:Option Nat}{fuel:Nat}{listed:Array Bool}{a:Act}{w:World}(hs:listed.size=ops.size)(hl:(aN ops listed).length=fuel+1)(p:∀j oj,ops[j]?=some oj->∀e∈oj.after,PL .any e=true->e.on<j)
  (h:∀j oj,ops[j]?=some oj->listed.getD j true=false->(∀e∈oj.after,PL .any e=true->listed.getD e.on false=true)->wpOpIn (FW rn) 0 P ops Q j (λa w=>wpAnyIn (FW rn) 0 P .any ops Q fuel (listed.setIfInBounds j true) a w) a w):
  wpAnyIn (FW rn) 0 P .any ops Q (fuel+1) listed a w:=by
 refine⟨λs=>?_,λj t=>?_⟩
 ·exfalso;cases o:aN ops listed with
  |nil=>rw[o] at hl;simp at hl
  |cons m rest=>
    have hm:m∈aN ops listed:=by rw[o];exact OA
    have g:∀i,i<m->listed.getD i false=true:=by
     intro i hi;obtain⟨d,k⟩:=OK.1 hm;have c:=OM.1 d;cases f:listed.getD i true with
     |true=>
       have:i<listed.size:=by omega
       simp[this] at f ⊢;exact f
     |false=>
       have l:i∈aN ops listed:=OK.2 ⟨OM.2 (by omega),by simp[f]⟩;rw[o] at l;have b:(aN ops listed).Pairwise (·<·):=Uh _ TZ;rw[o,PK] at b;rcases Oq.1 l with e|e
       ·omega
       ·have:=b.1 i e;omega
    obtain⟨d,k⟩:=OK.1 hm;have c:=OM.1 d;have r:ops[m]?=some ops[m]:=OJ c;have:m∈Region.ready .any ops listed:=mem_ready.2 ⟨by simpa using k,_,r,λe he u=>g _ (p m _ r e he u)⟩;rw[s] at this;cases this
 ·obtain⟨hu,oj,q,n⟩:=mem_ready.1 t;exact h j oj q hu n
def kQ (listed:Array Bool)(l:List Nat):List Nat:=l.filter λi=>!listed.getD i true
theorem pj {listed:Array Bool}{j:Nat}{l:List Nat}(c:∀i∈l,i<listed.size):kQ (listed.setIfInBounds j true) l=(l.filter λi=>!listed.getD i true&&decide (i≠j)):=by
 unfold kQ;refine PS λi hi=>?_;have b:=c i hi;by_cases a:i=j
 ·subst a;simp[b]
 ·rw[getD_set_ne true (PB a)];simp[a]
def jD (n f:Nat):List Nat:=(Pk n).filter λi=>!OC i f
def gY (P:Program)(L:List Nat)(ops:Array Oper)(f c i:Nat):Bool:=SY c i||(PV f i&&Dq ops i λo=>!(hZ P L o))
def jq (P:Program)(M:Option (aa->Prop))(L:List Nat)(ops:Array Oper)(f c:Nat)(K:Act->World->Prop):List Nat->Act->World->Prop
 |[]=>eX P M ops.size L ops K [f]
 |i::l=>bif SY c i then eX P M ops.size L ops K (f::i::l) else
   bif gY P L ops f c i then λa w=>eX P M ops.size L ops K (f::i::l) a w/\bS P M ops.size L ops i (jq P M L ops f c K l) a w
   else bS P M ops.size L ops i (jq P M L ops f c K l)
theorem xX {i k:Nat}:SY i k=true↔i<=k:=⟨Nat.le_of_ble_eq_true,Nat.ble_eq_true_of_le⟩
theorem CR {f c:Nat}{K:Act->World->Prop}{l:List Nat}(h:∀i∈l,c<=i):jq P M L ops f c K l=eX P M ops.size L ops K (f::l):=by
 cases l with
 |nil=>rfl
 |cons i l=>
   show (bif SY c i then _ else _)=_;rw[xX.2 (h i OA)];rfl
theorem Ce {i:Nat}{oi:Oper}{K:Act->World->Prop}{a:Act}{w:World}(hi:ops[i]?=some oi)(b:iS M w.heap)(h:bS P M ops.size L ops i K a w):bS P M ops.size L ops i (λa w=>iS M w.heap/\K a w) a w:=by
 have c:pa M ops.size i=M:=by unfold pa;rw[fU.2 (Of.1 hi).1];rfl
 unfold bS at h ⊢;rw[hi] at h ⊢;exact pG b (.inr (.inr c)) h
theorem nF {i j:Nat}{oi oj:Oper}(f:M.isSome=true)(hi:ops[i]?=some oi)(c:ops[j]?=some oj)(b:cQ P L true ops oi oj=true){K:Act->World->Prop}{a:Act}{w:World}
  (h:bS P M ops.size L ops i (bS P M ops.size L ops j K) a w):bS P M ops.size L ops j (bS P M ops.size L ops i K) a w:=by
 have g:pa M ops.size i=M:=by unfold pa;rw[fU.2 (Of.1 hi).1];rfl
 have k:pa M ops.size j=M:=by unfold pa;rw[fU.2 (Of.1 c).1];rfl
 have e:∀K',bS P M ops.size L ops i K'=fC P M L ops oi K':=λK'=>by funext a w;simp only[bS,hi,g]
 have d:∀K',bS P M ops.size L ops j K'=fC P M L ops oj K':=λK'=>by funext a w;simp only[bS,c,k]
 rw[e,d] at h;rw[d,e];exact pI b (λ_=>⟨rfl,f⟩) h
theorem Fp {j:Nat}{oj:Oper}(h:ops[j]?=some oj)(e:hZ P L oj=true){A B:Act->World->Prop}{a:Act}{w:World}(c:iS M w.heap)(h1:bS P M ops.size L ops j A a w)(b:bS P M ops.size L ops j B a w):
  bS P M ops.size L ops j (λa w=>A a w/\B a w) a w:=by
 have i:pa M ops.size j=M:=by unfold pa;rw[fU.2 (Of.1 h).1];rfl
 unfold bS at*;rw[h] at*;simp only[i] at*;unfold fC at*;split
 ·rename_i hw;rw[if_pos hw] at h1 b;unfold hZ at e;simp only[Pu,beq_iff_eq] at e;rcases e with q|q
  ·rw[q] at h1 b ⊢;obtain⟨v1,d,f⟩:=h1;obtain⟨v2,r2,g⟩:=b;have:=(d w).symm.trans (r2 w);cases this;exact⟨v1,d,f,g⟩
  ·rw[q] at h1 b ⊢;obtain⟨v1,d,f⟩:=h1;obtain⟨v2,r2,g⟩:=b;have:=(d w (sf c)).symm.trans (r2 w (sf c));cases this;exact⟨v1,d,f,g⟩
 ·rename_i hw;rw[if_neg hw] at h1 b;exact⟨h1,b⟩
theorem sN {f c i:Nat}{oi:Oper}(hi:ops[i]?=some oi):gY P L ops f c i=true↔c<=i\/(f<i/\hZ P L oi=false):=by
 unfold gY Dq;rw[hi];simp only[Pu,Oj,PC];rw[xX,fU]
theorem xY {f c:Nat}{K:Act->World->Prop}:∀(l:List Nat) (a:Act) (w:World),jq P M L ops f c K l a w->eX P M ops.size L ops K ((l.takeWhile λi=>!gY P L ops f c i)++f::l.dropWhile λi=>!gY P L ops f c i) a w
 |[],a,w,h=>h
 |i::l,a,w,h=>by
   unfold jq at h;cases b:SY c i with
   |true=>
     rw[b] at h;have hs:gY P L ops f c i=true:=by unfold gY;rw[b];rfl
     simp only[Uu,Uv,hs];exact h
   |false=>
     rw[b] at h;cases hs:gY P L ops f c i with
     |true=>
       rw[hs] at h;simp only[Uu,Uv,hs];exact h.1
     |false=>
       rw[hs] at h;simp only[Uu,Uv,hs];exact dh (xY l) h
theorem sk {f c j:Nat}{of oj:Oper}{K:Act->World->Prop}(p:M.isSome=true)(s:ops[f]?=some of)(n:ops[j]?=some oj)(o:(f<j->j<c->hZ P L oj=true)->cQ P L true ops of oj=true\/j<f)(l:c<=j->cQ P L true ops of oj=true):
  ∀(d b:List Nat),(∀i∈d,i<j/\∃oi,ops[i]?=some oi/\cQ P L true ops oi oj=true/\(hZ P L oj=true\/hZ P L oi=true))->(∀i∈b,j<i)->(c<=j->True)->
  ∀a w,iS M w.heap->jq P M L ops f c K (d++j::b) a w->bS P M ops.size L ops j (jq P M L ops f c K (d++b)) a w
 |[],b,_,t,_,a,w,m,h=>by
   simp only[List.nil_append] at h ⊢;unfold jq at h;cases g:SY c j with
   |true=>
     rw[g] at h;have e:=xX.1 g;rw[CR λi hi=>Nat.le_trans e (Nat.le_of_lt (t i hi))];exact gR p [f] b (λi hi=>by rw[List.mem_singleton] at hi;subst hi;exact⟨of,oj,s,n,l e⟩) a w h
   |false=>
     rw[g] at h;cases hs:gY P L ops f c j with
     |true=>rw[hs] at h;exact h.2
     |false=>rw[hs] at h;exact h
 |i::d,b,h1,t,D,a,w,m,h=>by
   obtain⟨E,oi,hi,u,v⟩:=h1 i OA;have x:=λk hk=>h1 k (Ou _ hk);simp only[QW] at h ⊢;unfold jq at h;rw[show jq P M L ops f c K (i::(d++b))=(bif SY c i then eX P M ops.size L ops K (f::i::(d++b)) else
    bif gY P L ops f c i then λa w=>eX P M ops.size L ops K (f::i::(d++b)) a w/\bS P M ops.size L ops i (jq P M L ops f c K (d++b)) a w
    else bS P M ops.size L ops i (jq P M L ops f c K (d++b))) from rfl]
   have inner:bS P M ops.size L ops i (jq P M L ops f c K (d++j::b)) a w->bS P M ops.size L ops j (bS P M ops.size L ops i (jq P M L ops f c K (d++b))) a w:=λy=>
    nF p hi n u (dh (λF w' hk=>sk p s n o l d b x t D F w' hk.1 hk.2) (Ce hi m y))
   have front:cQ P L true ops of oj=true->eX P M ops.size L ops K (f::i::(d++j::b)) a w->bS P M ops.size L ops j (eX P M ops.size L ops K (f::i::(d++b))) a w:=λG y=>
    gR p (f::i::d) b (λk hk=>by
     rcases Oq.1 hk with q|q
     ·subst q;exact⟨of,oj,s,n,G⟩
     ·obtain⟨_,ok,z,A,_⟩:=h1 k q;exact⟨ok,oj,z,n,A⟩) a w y
   cases g:SY c i with
   |true=>
     rw[g] at h;exact front (l (by have:=xX.1 g;omega)) h
   |false=>
     rw[g] at h;cases hs:gY P L ops f c i with
     |false=>
       rw[hs] at h;exact inner h
     |true=>
       rw[hs] at h;have B:¬c<=i:=λq=>by rw[xX.2 q] at g;cases g
       rcases (sN hi).1 hs with q|⟨I,H⟩
       ·exact absurd q B
       ·have e:hZ P L oj=true:=by
         rcases v with r|r
         ·exact r
         ·rw[H] at r;cases r
        have C:cQ P L true ops of oj=true:=by
         rcases o (λ_ _=>e) with r|r
         ·exact r
         ·omega
        exact Fp n e m (front C h.1) (inner h.2)
theorem EZ {rn:Option Nat}{f c:Nat}(hM:M.isSome=true)(y:FQ P L ops f c):∀(fuel:Nat) (listed:Array Bool) (a:Act) (w:World),iS M w.heap->listed.size=ops.size->qe ops listed->(aN ops listed).length=fuel->
  (listed.getD f true=true->eX P M ops.size L ops (λa w=>Q .normal a w) (aN ops listed) a w)->
  (listed.getD f true=false->jq P M L ops f c (λa w=>Q .normal a w) (kQ listed (jD ops.size f)) a w)->
  wpAnyIn (FW rn) 0 P .any ops Q fuel listed a w:=by
 intro fuel
 induction fuel with
 |zero=>
   intro listed a w K hs hc hl h _;have h0:aN ops listed=[]:=List.length_eq_zero_iff.1 hl;have hf:listed.getD f true=true:=by
    cases q:listed.getD f true with
    |true=>rfl
    |false=>
      have:f∈aN ops listed:=OK.2 ⟨OM.2 (UX y.fc y.cn),by simp[q]⟩;rw[h0] at this;cases this
   refine⟨?_,by have:=h hf;rw[h0] at this;exact this⟩;rw[List.eq_nil_iff_forall_not_mem];intro j hj;obtain⟨hu,o,ho,_⟩:=mem_ready.1 hj;have D:j<ops.size:=(Of.1 ho).1;have:j∈aN ops listed:=OK.2 ⟨OM.2 D,by simp[hu]⟩;rw[h0] at this;cases this
 |succ fuel ih=>
   intro listed a w K hs hc hl h hn;refine wpAny_first hs hl y.lt λj oj b hu E=>?_;have D:j<ops.size:=(Of.1 b).1;have N:f<ops.size:=UX y.fc y.cn;have F:ops[f]?=some ops[f]:=OJ N;have n:∀i,listed.getD i true=false->i<ops.size->waits (dr ops.toList []) j i=false:=by
    intro i d v;cases z:waits (dr ops.toList []) j i with
    |false=>rfl
    |true=>
      have h4:=kq hc y.lt j i oj b E z;have:i<listed.size:=by omega
      simp[this] at d h4;rw[d] at h4;cases h4
   have g:qe ops (listed.setIfInBounds j true):=by
    intro q ok x O e he hb;by_cases R:j=q
    ·subst R;have:ok=oj:=OE (x.symm.trans b);subst this;exact getD_set_true (E e he hb)
    ·rw[getD_set_ne false R] at O;exact getD_set_true (hc q ok x O e he hb)
   obtain⟨l1,l2,e1,e2,e3⟩:=iq (λi=>!listed.getD i true) j (by simp[hu]) ops.size D;have S:aN ops listed=l1++j::l2:=e1;have e4:aN ops (listed.setIfInBounds j true)=l1++l2:=by
    rw[<-e3];exact pj λi hi=>by rw[hs];exact OM.1 hi
   have hlen:(aN ops (listed.setIfInBounds j true)).length=fuel:=by
    rw[e4];rw[S] at hl;simp only[List.length_append,List.length_cons] at hl ⊢;omega
   have T:(listed.setIfInBounds j true).getD j true=true:=by
    have:j<listed.size:=by omega
    simp[this]
   have cm:∀i,i<j->listed.getD i true=false->i≠f->j≠f->∃oi,ops[i]?=some oi/\cQ P L true ops oi oj=true:=by
    intro i t d af k;have v:i<ops.size:=by omega
    have u:ops[i]?=some ops[i]:=OJ v;refine⟨ops[i],u,?_⟩;rcases y.pair i j _ _ u b t af k with z|z
    ·exact z
    ·rw[n i d v] at z;cases z
   cases m:listed.getD f true with
   |true=>
     have k:j≠f:=by rintro rfl;rw[hu] at m;cases m
     have H:=h m;rw[S] at H;have I:=gR hM l1 l2 (λi hi=>by
      obtain⟨t,d⟩:=e2 i hi;have A:listed.getD i true=false:=by simpa using d
      obtain⟨oi,U,J⟩:=cm i t A (by rintro rfl;rw[m] at A;cases A) k;exact⟨oi,oj,U,b,J⟩) a w H
     refine qW b K I λV w' B hk=>ih _ V w' B (by simp[hs]) g hlen (λ_=>by rw[e4];exact hk) (λx=>?_);rw[getD_set_ne true k] at x;rw[m] at x;cases x
   |false=>
     have H:=hn m;by_cases k:j=f
     ·subst k;have h1:=xY _ a w H;have W:∀i∈(kQ listed (jD ops.size j)).takeWhile (λi=>!gY P L ops j c i),i<ops.size/\i≠j/\listed.getD i true=false/\gY P L ops j c i=false:=by
       intro i hi;have U:=Pb.1 (List.all_takeWhile (p:=λi=>!gY P L ops j c i) (l:=kQ listed (jD ops.size j))) i hi;have J:=(List.takeWhile_sublist _).mem hi;obtain⟨q3,q4⟩:=OK.1 J;obtain⟨q5,q6⟩:=OK.1 q3;refine⟨OM.1 q5,?_,by simpa using q4,by simpa using U⟩;rintro rfl;simp at q6
      have I:=gR hM _ _ (λi hi=>by
       obtain⟨v,t,d,X⟩:=W i hi;have u:ops[i]?=some ops[i]:=OJ v;have an:¬(c<=i\/(j<i/\hZ P L ops[i]=false)):=λq=>by
        rw[(sN u).2 q] at X;cases X
       refine⟨ops[i],oj,u,b,?_⟩;rcases OV i j with q|q
       ·rcases y.below i _ _ u b q with z|z
        ·exact z
        ·rw[n i d v] at z;cases z
       ·have Y:j<i:=by omega
        refine((y.mid i _ _ u b Y (by omega)).2 ?_).2;cases a1:hZ P L ops[i] with
        |true=>rfl
        |false=>exact absurd (.inr ⟨Y,a1⟩) an) a w h1
      rw[List.takeWhile_append_dropWhile] at I;refine qW b K I λV w' B hk=>ih _ V w' B (by simp[hs]) g hlen (λ_=>?_) (λx=>?_)
      ·have e5:aN ops (listed.setIfInBounds j true)=(Pk ops.size).filter λi=>!listed.getD i true&&decide (i≠j):=pj λi hi=>by rw[hs];exact OM.1 hi
       have e6:kQ listed (jD ops.size j)=(Pk ops.size).filter λi=>!listed.getD i true&&decide (i≠j):=by
        unfold kQ jD;rw[QY];refine PS λi _=>?_;by_cases e:i=j
        ·subst e;simp
        ·have:OC i j=false:=by
          cases q:OC i j with
          |false=>rfl
          |true=>exact absurd (Om q) e
         simp[e,this]
       rw[e5,<-e6];exact hk
      ·rw[T] at x;cases x
     ·have G:(listed.setIfInBounds j true).getD f true=false:=by rw[getD_set_ne true (PB (PB k))];exact m
      have a6:OC j f=false:=by
       cases q:OC j f with
       |false=>rfl
       |true=>exact absurd (Om q) k
      obtain⟨m1,m2,f1,f2,f3⟩:=iq (λi=>!listed.getD i true&&!OC i f) j (by simp only[hu,a6];rfl) ops.size D;have g1:kQ listed (jD ops.size f)=m1++j::m2:=by
       rw[<-f1];unfold kQ jD;rw[QY]
      have g2:kQ (listed.setIfInBounds j true) (jD ops.size f)=m1++m2:=by
       rw[pj λi hi=>by rw[hs];exact OM.1 (OK.1 hi).1,<-f3];unfold jD;rw[QY];refine PS λi _=>?_;cases listed.getD i true<;>cases OC i f<;>simp
      rw[g1] at H;have C:(m1++j::m2).Pairwise (·<·):=by rw[<-f1];exact Uh _ TZ
      have Z:c<=j->cQ P L true ops ops[f] oj=true:=λq=>by
       rcases y.above j _ _ b F q with s|s
       ·rw[n f m N] at s;cases s
       ·exact s
      have a7:(f<j->j<c->hZ P L oj=true)->cQ P L true ops ops[f] oj=true\/j<f:=λq=>by
       rcases Nat.lt_trichotomy j f with r|r|r
       ·exact .inr r
       ·exact absurd r k
       ·rcases OV j c with s|s
        ·exact .inl ((y.mid j _ _ b F r s).2 (q r s)).1
        ·exact .inl (Z s)
      have I:=sk (c:=c) hM F b a7 Z m1 m2 (λi hi=>by
       obtain⟨t,d⟩:=f2 i hi;simp only[Oj,PC] at d;obtain⟨oi,U,J⟩:=cm i t d.1 (by rintro rfl;simp at d) k;exact⟨t,oi,U,J,(Ag J).symm⟩) (λi hi=>by
        rw[List.pairwise_append] at C;exact(PK.1 C.2.1).1 i hi) (λ_=>trivial) a w K H
      exact qW b K I λV w' B hk=>ih _ V w' B (by simp[hs]) g hlen (λx=>by rw[G] at x;cases x) (λ_=>by rw[g2];exact hk)
theorem qN {rn:Option Nat}{id:Nat}{a:Act}{w:World}{f c:Nat}(hm:P.follows .mixedOrders=true)(l:M.isSome=true)(m:tF P L ops f c (dr ops.toList [])=true)(n:iS M w.heap)
  (h:jq P M L ops f c (λa w=>Q .normal a w) (jD ops.size f) a {w with drawn:=w.drawn+1}):(Code.region id ops true).wpIn (FW rn) 0 P Q a w:=by
 have b:∀(d:Bool) j,j<ops.size->(Qt ops.size false).getD j d=false:=λd j o=>by simp[o]
 have e:=qv m;have g:f<ops.size:=UX e.fc e.cn;have hu:aN ops (Qt ops.size false)=Pk ops.size:=by
  unfold aN;rw[PO];intro i hi;have:=OM.1 hi;simp[this]
 refine wpIn_region_any hm (EZ l e ops.size _ a _ n (by simp) ?_ (by rw[hu];simp) ?_ ?_)
 ·intro j oj _ hl;have:∀j,(Qt ops.size false).getD j false=false:=λj=>by
   rcases OV j ops.size with h|h
   ·simp[h]
   ·simp[h]
  rw[this] at hl;cases hl
 ·intro k;rw[b true f g] at k;cases k
 ·intro _;have:kQ (Qt ops.size false) (jD ops.size f)=jD ops.size f:=by
   unfold kQ;rw[PO];intro i hi;rw[b true i (OM.1 (OK.1 hi).1)];rfl
  rw[this];exact h
end
end Go.Proofs.YtmkbhnholcaghaaGreatDoor
