/-
 Ground, a text behind the first: a region in which one effect floats beside others: it may go ahead of any of those that do not wait for it. The walk serves every order if it serves each place of that one.
-/
import Derived.Test.YtdpdmbceakdlmaaGreatDoorFxa
open Array renaming getElem?_eq_some_iff->KO,getElem?_eq_getElem->K2,replicate->Lz
open Bool renaming and_eq_true->KR,or_eq_true->LL,not_eq_true'->L0
open Go.Region renaming binds->LY
open List renaming mem_range->KS,mem_cons_self->KV,mem_filter->K3,mem_cons_of_mem->K7,mem_cons->K8,range->Lg,all_eq_true->Lv,filter_congr->LM,filter_eq_self->L1,cons_append->M4,takeWhile_cons->Nw,pairwise_lt_range->NC,pairwise_cons->NF,filter_filter->NH,dropWhile_cons->Qr
open List.Pairwise renaming filter->NW
open Nat renaming eq_of_beq_eq_true->KX,beq->K6,lt_or_ge->Lr,blt->LS,ble->Ny,lt_trans->QV
open Ne renaming symm->MR
open Option.some renaming inj->K1
namespace Go.Proofs.YtdpdmbceakdlmaaGreatDoor
section
variable {P:Program}{M:Option (Heap->Prop)}{L:List Nat}{ops:Array Oper}{Q:Exit->Act->World->Prop}
def gO (P:Program)(L:List Nat)(o:Oper):Bool:=cH P L o==0||cH P L o==1
def Bv (ops:Array Oper)(i:Nat)(t:Oper->Bool):Bool:=match ops[i]? with|some o=>t o|none=>false
theorem gw {i:Nat}{t:Oper->Bool}{o:Oper}(h:Bv ops i t=true)(ho:ops[i]?=some o):t o=true:=by
 unfold Bv at h;rw[ho] at h;exact h
def qX (P:Program)(L:List Nat)(ops:Array Oper)(f c:Nat)(B:List Nat):Bool:=
 decide (f<c)&&decide (c<ops.size)&&waits B c f&&
 (Lg ops.size).all λj=>Bv ops j λoj=>
  (oj.after.all λe=>!LY .any e||decide (e.on<j))&&
  ((Lg j).all λi=>i==f||j==f||Bv ops i (λoi=>b8 P L true ops oi oj||waits B j i))&&
  Bv ops f (λof=>(bif LS j f then b8 P L true ops oj of||waits B f j else
   bif K6 j f then true else
   bif LS j c then !(waits B j f)&&(!(gO P L oj)||(b8 P L true ops of oj&&b8 P L true ops oj of))
   else (waits B j f||b8 P L true ops of oj)))
structure Ca (P:Program)(L:List Nat)(ops:Array Oper)(f c:Nat):Prop where
 fc:f<c
 cn:c<ops.size
 wait:waits (cE ops.toList []) c f=true
 lt:∀j oj,ops[j]?=some oj->∀e∈oj.after,LY .any e=true->e.on<j
 pair:∀i j oi oj,ops[i]?=some oi->ops[j]?=some oj->i<j->i≠f->j≠f->b8 P L true ops oi oj=true\/waits (cE ops.toList []) j i=true
 below:∀i oi of,ops[i]?=some oi->ops[f]?=some of->i<f->b8 P L true ops oi of=true\/waits (cE ops.toList []) f i=true
 mid:∀i oi of,ops[i]?=some oi->ops[f]?=some of->f<i->i<c->waits (cE ops.toList []) i f=false/\(gO P L oi=true->b8 P L true ops of oi=true/\b8 P L true ops oi of=true)
 above:∀i oi of,ops[i]?=some oi->ops[f]?=some of->c<=i->waits (cE ops.toList []) i f=true\/b8 P L true ops of oi=true
theorem px {f c:Nat}(h:qX P L ops f c (cE ops.toList [])=true):Ca P L ops f c:=by
 unfold qX at h
 simp only[KR,decide_eq_true_eq] at h
 obtain⟨⟨⟨h1,h2⟩,h3⟩,h4⟩:=h
 have key:∀j oj,ops[j]?=some oj->_:=λj oj hj=>by
  have hlt:j<ops.size:=(KO.1 hj).1
  exact gw (Lv.1 h4 j (KS.2 hlt)) hj
 simp only[KR] at key
 refine⟨h1,h2,h3,?_,?_,?_,?_,?_⟩
 ·intro j oj hj e he hb
  have:=Array.all_eq_true_iff_forall_mem.1 (key j oj hj).1.1 e he
  simpa[hb] using this
 ·intro i j oi oj hi hj hij hif hjf
  have:=Lv.1 (key j oj hj).1.2 i (KS.2 hij)
  simp only[LL,beq_iff_eq] at this
  rcases this with (q|q)|q
  ·exact absurd q hif
  ·exact absurd q hjf
  ·have:=gw q hi
   simpa[LL] using this
 ·intro i oi of hi hf hlt
  have:=gw (key i oi hi).2 hf
  rw[eK.2 hlt] at this
  simpa[LL] using this
 ·intro i oi of hi hf hfi hic
  have:=gw (key i oi hi).2 hf
  rw[qW (by omega:¬i<f),eK.2 hic] at this
  have hb:K6 i f=false:=by
   cases q:K6 i f with
   |false=>rfl
   |true=>have:=KX q;omega
  rw[hb] at this
  simp only[cond_false,cond_true,KR,LL,L0] at this
  refine⟨this.1,λhc=>?_⟩
  rcases this.2 with q|q
  ·rw[hc] at q;cases q
  ·exact q
 ·intro i oi of hi hf hci
  have:=gw (key i oi hi).2 hf
  rw[qW (by omega:¬i<f),qW (by omega:¬i<c)] at this
  have hb:K6 i f=false:=by
   cases q:K6 i f with
   |false=>rfl
   |true=>have:=KX q;omega
  rw[hb] at this
  simpa[LL] using this
theorem wY {m:Bool}{x y:Oper}(h:b8 P L m ops x y=true):gO P L x=true\/gO P L y=true:=by
 obtain⟨_,h2,_⟩:=mU h
 unfold gO
 rcases h2 with q|q|⟨q,_⟩|⟨_,q|q⟩
 ·left;simp[q]
 ·right;simp[q]
 ·left;simp[q]
 ·left;simp[q]
 ·right;simp[q]
theorem gy {K:Act->World->Prop}{j:Nat}(hM:M.isSome=true):∀(l1 l2:List Nat),(∀i∈l1,∃oi oj,ops[i]?=some oi/\ops[j]?=some oj/\b8 P L true ops oi oj=true)->
  ∀a w,cv P M ops.size L ops K (l1++j::l2) a w->bF P M ops.size L ops j (cv P M ops.size L ops K (l1++l2)) a w
 |[],l2,_,a,w,h=>h
 |i::l1,l2,hc,a,w,h=>by
   have h1:bF P M ops.size L ops i (bF P M ops.size L ops j (cv P M ops.size L ops K (l1++l2))) a w:=bV (gy hM l1 l2 (λk hk=>hc k (K7 _ hk))) h
   obtain⟨oi,oj,hi,hj,hcm⟩:=hc i KV
   have mi:ks M ops.size i=M:=by unfold ks;rw[eK.2 (KO.1 hi).1];rfl
   have mj:ks M ops.size j=M:=by unfold ks;rw[eK.2 (KO.1 hj).1];rfl
   have e:∀K',bF P M ops.size L ops i K'=dx P M L ops oi K':=λK'=>by funext a w;simp only[bF,hi,mi]
   have e':∀K',bF P M ops.size L ops j K'=dx P M L ops oj K':=λK'=>by funext a w;simp only[bF,hj,mj]
   rw[e,e'] at h1
   have h2:=ly hcm (λ_=>⟨rfl,hM⟩) h1
   simp only[M4,cv]
   rw[e,e']
   exact h2
theorem pZ {rn:Option Nat}{fuel j:Nat}{listed:Array Bool}{a:Act}{w:World}{X:Act->World->Prop}{oj:Oper}(hoj:ops[j]?=some oj)(hok:iC M w.heap)
  (h:bF P M ops.size L ops j X a w) (go:∀a' w',iC M w'.heap->X a' w'->wpAnyIn (FW rn) 0 P .any ops Q fuel (listed.setIfInBounds j true) a' w'):
  wpOpIn (FW rn) 0 P ops Q j (λa w=>wpAnyIn (FW rn) 0 P .any ops Q fuel (listed.setIfInBounds j true) a w) a w:=by
 have mj:ks M ops.size j=M:=by unfold ks;rw[eK.2 (KO.1 hoj).1];rfl
 have h3:bF P M ops.size L ops j (λa w=>iC M w.heap/\X a w) a w:=by
  unfold bF at h ⊢
  rw[hoj] at h ⊢
  exact lv hok (.inr (.inr mj)) h
 exact fF (λ_ _ _ _=>hok) (bV (λa' w' h5=>go a' w' h5.1 h5.2) h3)
theorem wpAny_first {rn:Option Nat}{fuel:Nat}{listed:Array Bool}{a:Act}{w:World}(hs:listed.size=ops.size)(hl:(ax ops listed).length=fuel+1)(hlt:∀j oj,ops[j]?=some oj->∀e∈oj.after,LY .any e=true->e.on<j)
  (h:∀j oj,ops[j]?=some oj->listed.getD j true=false->(∀e∈oj.after,LY .any e=true->listed.getD e.on false=true)->wpOpIn (FW rn) 0 P ops Q j (λa w=>wpAnyIn (FW rn) 0 P .any ops Q fuel (listed.setIfInBounds j true) a w) a w):
  wpAnyIn (FW rn) 0 P .any ops Q (fuel+1) listed a w:=by
 refine⟨λh0=>?_,λj hj=>?_⟩
 ·exfalso
  cases hU:ax ops listed with
  |nil=>rw[hU] at hl;simp at hl
  |cons m rest=>
    have hm:m∈ax ops listed:=by rw[hU];exact KV
    have hmin:∀i,i<m->listed.getD i false=true:=by
     intro i hi
     obtain⟨hm1,hm2⟩:=K3.1 hm
     have hmlt:=KS.1 hm1
     cases hli:listed.getD i true with
     |true=>
       have:i<listed.size:=by omega
       simp[this] at hli ⊢;exact hli
     |false=>
       have hi2:i∈ax ops listed:=K3.2 ⟨KS.2 (by omega),by simp[hli]⟩
       rw[hU] at hi2
       have hsorted:(ax ops listed).Pairwise (·<·):=NW _ NC
       rw[hU,NF] at hsorted
       rcases K8.1 hi2 with e|e
       ·omega
       ·have:=hsorted.1 i e;omega
    obtain⟨hm1,hm2⟩:=K3.1 hm
    have hmlt:=KS.1 hm1
    have ho:ops[m]?=some ops[m]:=K2 hmlt
    have:m∈Region.ready .any ops listed:=mem_ready.2 ⟨by simpa using hm2,_,ho,λe he hb=>hmin _ (hlt m _ ho e he hb)⟩
    rw[h0] at this
    cases this
 ·obtain⟨hu,oj,hoj,hall⟩:=mem_ready.1 hj
  exact h j oj hoj hu hall
def jZ (listed:Array Bool)(l:List Nat):List Nat:=l.filter λi=>!listed.getD i true
theorem oO {listed:Array Bool}{j:Nat}{l:List Nat}(hb:∀i∈l,i<listed.size):jZ (listed.setIfInBounds j true) l=(l.filter λi=>!listed.getD i true&&decide (i≠j)):=by
 unfold jZ
 refine LM λi hi=>?_
 have hi':=hb i hi
 by_cases hij:i=j
 ·subst hij;simp[hi']
 ·rw[getD_set_ne true (MR hij)];simp[hij]
def jc (n f:Nat):List Nat:=(Lg n).filter λi=>!K6 i f
def gN (P:Program)(L:List Nat)(ops:Array Oper)(f c i:Nat):Bool:=Ny c i||(LS f i&&Bv ops i λo=>!(gO P L o))
def iX (P:Program)(M:Option (Heap->Prop))(L:List Nat)(ops:Array Oper)(f c:Nat)(K:Act->World->Prop):List Nat->Act->World->Prop
 |[]=>cv P M ops.size L ops K [f]
 |i::l=>bif Ny c i then cv P M ops.size L ops K (f::i::l) else
   bif gN P L ops f c i then λa w=>cv P M ops.size L ops K (f::i::l) a w/\bF P M ops.size L ops i (iX P M L ops f c K l) a w
   else bF P M ops.size L ops i (iX P M L ops f c K l)
theorem vW {i k:Nat}:Ny i k=true↔i<=k:=⟨Nat.le_of_ble_eq_true,Nat.ble_eq_true_of_le⟩
theorem AS {f c:Nat}{K:Act->World->Prop}{l:List Nat}(h:∀i∈l,c<=i):iX P M L ops f c K l=cv P M ops.size L ops K (f::l):=by
 cases l with
 |nil=>rfl
 |cons i l=>
   show (bif Ny c i then _ else _)=_
   rw[vW.2 (h i KV)];rfl
theorem Ag {i:Nat}{oi:Oper}{K:Act->World->Prop}{a:Act}{w:World}(hi:ops[i]?=some oi)(hok:iC M w.heap)(h:bF P M ops.size L ops i K a w):bF P M ops.size L ops i (λa w=>iC M w.heap/\K a w) a w:=by
 have mi:ks M ops.size i=M:=by unfold ks;rw[eK.2 (KO.1 hi).1];rfl
 unfold bF at h ⊢
 rw[hi] at h ⊢
 exact lv hok (.inr (.inr mi)) h
theorem mQ {i j:Nat}{oi oj:Oper}(hM:M.isSome=true)(hi:ops[i]?=some oi)(hj:ops[j]?=some oj)(hcm:b8 P L true ops oi oj=true){K:Act->World->Prop}{a:Act}{w:World}
  (h:bF P M ops.size L ops i (bF P M ops.size L ops j K) a w):bF P M ops.size L ops j (bF P M ops.size L ops i K) a w:=by
 have mi:ks M ops.size i=M:=by unfold ks;rw[eK.2 (KO.1 hi).1];rfl
 have mj:ks M ops.size j=M:=by unfold ks;rw[eK.2 (KO.1 hj).1];rfl
 have e:∀K',bF P M ops.size L ops i K'=dx P M L ops oi K':=λK'=>by funext a w;simp only[bF,hi,mi]
 have e':∀K',bF P M ops.size L ops j K'=dx P M L ops oj K':=λK'=>by funext a w;simp only[bF,hj,mj]
 rw[e,e'] at h
 rw[e',e]
 exact ly hcm (λ_=>⟨rfl,hM⟩) h
theorem CN {j:Nat}{oj:Oper}(hj:ops[j]?=some oj)(hc:gO P L oj=true){A B:Act->World->Prop}{a:Act}{w:World}(hok:iC M w.heap)(h1:bF P M ops.size L ops j A a w)(h2:bF P M ops.size L ops j B a w):
  bF P M ops.size L ops j (λa w=>A a w/\B a w) a w:=by
 have mj:ks M ops.size j=M:=by unfold ks;rw[eK.2 (KO.1 hj).1];rfl
 unfold bF at*
 rw[hj] at*
 simp only[mj] at*
 unfold dx at*
 split
 ·rename_i hw
  rw[if_pos hw] at h1 h2
  unfold gO at hc
  simp only[LL,beq_iff_eq] at hc
  rcases hc with q|q
  ·rw[q] at h1 h2 ⊢
   obtain⟨v1,r1,k1⟩:=h1
   obtain⟨v2,r2,k2⟩:=h2
   have:=(r1 w).symm.trans (r2 w)
   cases this
   exact⟨v1,r1,k1,k2⟩
  ·rw[q] at h1 h2 ⊢
   obtain⟨v1,r1,k1⟩:=h1
   obtain⟨v2,r2,k2⟩:=h2
   have:=(r1 w (qj hok)).symm.trans (r2 w (qj hok))
   cases this
   exact⟨v1,r1,k1,k2⟩
 ·rename_i hw
  rw[if_neg hw] at h1 h2
  exact⟨h1,h2⟩
theorem rf {f c i:Nat}{oi:Oper}(hi:ops[i]?=some oi):gN P L ops f c i=true↔c<=i\/(f<i/\gO P L oi=false):=by
 unfold gN Bv
 rw[hi]
 simp only[LL,KR,L0]
 rw[vW,eK]
theorem vM {f c:Nat}{K:Act->World->Prop}:∀(l:List Nat) (a:Act) (w:World),iX P M L ops f c K l a w->cv P M ops.size L ops K ((l.takeWhile λi=>!gN P L ops f c i)++f::l.dropWhile λi=>!gN P L ops f c i) a w
 |[],a,w,h=>h
 |i::l,a,w,h=>by
   unfold iX at h
   cases hb:Ny c i with
   |true=>
     rw[hb] at h
     have hs:gN P L ops f c i=true:=by unfold gN;rw[hb];rfl
     simp only[Nw,Qr,hs]
     exact h
   |false=>
     rw[hb] at h
     cases hs:gN P L ops f c i with
     |true=>
       rw[hs] at h
       simp only[Nw,Qr,hs]
       exact h.1
     |false=>
       rw[hs] at h
       simp only[Nw,Qr,hs]
       exact bV (vM l) h
theorem ql {f c j:Nat}{of oj:Oper}{K:Act->World->Prop}(hM:M.isSome=true)(hf:ops[f]?=some of)(hj:ops[j]?=some oj)(hfj:(f<j->j<c->gO P L oj=true)->b8 P L true ops of oj=true\/j<f)(hhi:c<=j->b8 P L true ops of oj=true):
  ∀(l1 l2:List Nat),(∀i∈l1,i<j/\∃oi,ops[i]?=some oi/\b8 P L true ops oi oj=true/\(gO P L oj=true\/gO P L oi=true))->(∀i∈l2,j<i)->(c<=j->True)->
  ∀a w,iC M w.heap->iX P M L ops f c K (l1++j::l2) a w->bF P M ops.size L ops j (iX P M L ops f c K (l1++l2)) a w
 |[],l2,_,h2,_,a,w,hok,h=>by
   simp only[List.nil_append] at h ⊢
   unfold iX at h
   cases hb:Ny c j with
   |true=>
     rw[hb] at h
     have hcj:=vW.1 hb
     rw[AS λi hi=>Nat.le_trans hcj (Nat.le_of_lt (h2 i hi))]
     exact gy hM [f] l2 (λi hi=>by rw[List.mem_singleton] at hi;subst hi;exact⟨of,oj,hf,hj,hhi hcj⟩) a w h
   |false=>
     rw[hb] at h
     cases hs:gN P L ops f c j with
     |true=>rw[hs] at h;exact h.2
     |false=>rw[hs] at h;exact h
 |i::l1,l2,h1,h2,h3,a,w,hok,h=>by
   obtain⟨hij,oi,hi,hcm,hca⟩:=h1 i KV
   have h1':=λk hk=>h1 k (K7 _ hk)
   simp only[M4] at h ⊢
   unfold iX at h
   rw[show iX P M L ops f c K (i::(l1++l2))=(bif Ny c i then cv P M ops.size L ops K (f::i::(l1++l2)) else
    bif gN P L ops f c i then λa w=>cv P M ops.size L ops K (f::i::(l1++l2)) a w/\bF P M ops.size L ops i (iX P M L ops f c K (l1++l2)) a w
    else bF P M ops.size L ops i (iX P M L ops f c K (l1++l2))) from rfl]
   have inner:bF P M ops.size L ops i (iX P M L ops f c K (l1++j::l2)) a w->bF P M ops.size L ops j (bF P M ops.size L ops i (iX P M L ops f c K (l1++l2))) a w:=λhx=>
    mQ hM hi hj hcm (bV (λa' w' hk=>ql hM hf hj hfj hhi l1 l2 h1' h2 h3 a' w' hk.1 hk.2) (Ag hi hok hx))
   have front:b8 P L true ops of oj=true->cv P M ops.size L ops K (f::i::(l1++j::l2)) a w->bF P M ops.size L ops j (cv P M ops.size L ops K (f::i::(l1++l2))) a w:=λhc hx=>
    gy hM (f::i::l1) l2 (λk hk=>by
     rcases K8.1 hk with q|q
     ·subst q;exact⟨of,oj,hf,hj,hc⟩
     ·obtain⟨_,ok,hk1,hk2,_⟩:=h1 k q
      exact⟨ok,oj,hk1,hj,hk2⟩) a w hx
   cases hb:Ny c i with
   |true=>
     rw[hb] at h
     exact front (hhi (by have:=vW.1 hb;omega)) h
   |false=>
     rw[hb] at h
     cases hs:gN P L ops f c i with
     |false=>
       rw[hs] at h
       exact inner h
     |true=>
       rw[hs] at h
       have hci:¬c<=i:=λq=>by rw[vW.2 q] at hb;cases hb
       rcases (rf hi).1 hs with q|⟨q1,q2⟩
       ·exact absurd q hci
       ·have hcj:gO P L oj=true:=by
         rcases hca with r|r
         ·exact r
         ·rw[q2] at r;cases r
        have hcf:b8 P L true ops of oj=true:=by
         rcases hfj (λ_ _=>hcj) with r|r
         ·exact r
         ·omega
        exact CN hj hcj hok (front hcf h.1) (inner h.2)
theorem CW {rn:Option Nat}{f c:Nat}(hM:M.isSome=true)(hB:Ca P L ops f c):∀(fuel:Nat) (listed:Array Bool) (a:Act) (w:World),iC M w.heap->listed.size=ops.size->jx ops listed->(ax ops listed).length=fuel->
  (listed.getD f true=true->cv P M ops.size L ops (λa w=>Q .normal a w) (ax ops listed) a w)->
  (listed.getD f true=false->iX P M L ops f c (λa w=>Q .normal a w) (jZ listed (jc ops.size f)) a w)->
  wpAnyIn (FW rn) 0 P .any ops Q fuel listed a w:=by
 intro fuel
 induction fuel with
 |zero=>
   intro listed a w hG hs hc hl h _
   have h0:ax ops listed=[]:=List.length_eq_zero_iff.1 hl
   have hf:listed.getD f true=true:=by
    cases q:listed.getD f true with
    |true=>rfl
    |false=>
      have:f∈ax ops listed:=K3.2 ⟨KS.2 (QV hB.fc hB.cn),by simp[q]⟩
      rw[h0] at this;cases this
   refine⟨?_,by have:=h hf;rw[h0] at this;exact this⟩
   rw[List.eq_nil_iff_forall_not_mem]
   intro j hj
   obtain⟨hu,o,ho,_⟩:=mem_ready.1 hj
   have hlt:j<ops.size:=(KO.1 ho).1
   have:j∈ax ops listed:=K3.2 ⟨KS.2 hlt,by simp[hu]⟩
   rw[h0] at this
   cases this
 |succ fuel ih=>
   intro listed a w hG hs hc hl h hn
   refine wpAny_first hs hl hB.lt λj oj hoj hu hall=>?_
   have hlt:j<ops.size:=(KO.1 hoj).1
   have hfn:f<ops.size:=QV hB.fc hB.cn
   have hof:ops[f]?=some ops[f]:=K2 hfn
   have hwait:∀i,listed.getD i true=false->i<ops.size->waits (cE ops.toList []) j i=false:=by
    intro i hiu hil
    cases h3:waits (cE ops.toList []) j i with
    |false=>rfl
    |true=>
      have h4:=fD hc hB.lt j i oj hoj hall h3
      have:i<listed.size:=by omega
      simp[this] at hiu h4
      rw[hiu] at h4;cases h4
   have hclosed:jx ops (listed.setIfInBounds j true):=by
    intro q ok hq hql e he hb
    by_cases hqj:j=q
    ·subst hqj
     have:ok=oj:=K1 (hq.symm.trans hoj)
     subst this
     exact getD_set_true (hall e he hb)
    ·rw[getD_set_ne false hqj] at hql
     exact getD_set_true (hc q ok hq hql e he hb)
   obtain⟨l1,l2,e1,e2,e3⟩:=cZ (λi=>!listed.getD i true) j (by simp[hu]) ops.size hlt
   have e1':ax ops listed=l1++j::l2:=e1
   have e4:ax ops (listed.setIfInBounds j true)=l1++l2:=by
    rw[<-e3]
    exact oO λi hi=>by rw[hs];exact KS.1 hi
   have hlen:(ax ops (listed.setIfInBounds j true)).length=fuel:=by
    rw[e4]
    rw[e1'] at hl
    simp only[List.length_append,List.length_cons] at hl ⊢
    omega
   have setj:(listed.setIfInBounds j true).getD j true=true:=by
    have:j<listed.size:=by omega
    simp[this]
   have cm:∀i,i<j->listed.getD i true=false->i≠f->j≠f->∃oi,ops[i]?=some oi/\b8 P L true ops oi oj=true:=by
    intro i hij hiu hif hjf
    have hil:i<ops.size:=by omega
    have hoi:ops[i]?=some ops[i]:=K2 hil
    refine⟨ops[i],hoi,?_⟩
    rcases hB.pair i j _ _ hoi hoj hij hif hjf with h3|h3
    ·exact h3
    ·rw[hwait i hiu hil] at h3;cases h3
   cases hfl:listed.getD f true with
   |true=>
     have hjf:j≠f:=by rintro rfl;rw[hu] at hfl;cases hfl
     have hx:=h hfl
     rw[e1'] at hx
     have h2:=gy hM l1 l2 (λi hi=>by
      obtain⟨hij,hiu⟩:=e2 i hi
      have hiu':listed.getD i true=false:=by simpa using hiu
      obtain⟨oi,q1,q2⟩:=cm i hij hiu' (by rintro rfl;rw[hfl] at hiu';cases hiu') hjf
      exact⟨oi,oj,q1,hoj,q2⟩) a w hx
     refine pZ hoj hG h2 λa' w' hok hk=>ih _ a' w' hok (by simp[hs]) hclosed hlen (λ_=>by rw[e4];exact hk) (λhq=>?_)
     rw[getD_set_ne true hjf] at hq
     rw[hfl] at hq;cases hq
   |false=>
     have hx:=hn hfl
     by_cases hjf:j=f
     ·subst hjf
      have h1:=vM _ a w hx
      have hsub:∀i∈(jZ listed (jc ops.size j)).takeWhile (λi=>!gN P L ops j c i),i<ops.size/\i≠j/\listed.getD i true=false/\gN P L ops j c i=false:=by
       intro i hi
       have q1:=Lv.1 (List.all_takeWhile (p:=λi=>!gN P L ops j c i) (l:=jZ listed (jc ops.size j))) i hi
       have q2:=(List.takeWhile_sublist _).mem hi
       obtain⟨q3,q4⟩:=K3.1 q2
       obtain⟨q5,q6⟩:=K3.1 q3
       refine⟨KS.1 q5,?_,by simpa using q4,by simpa using q1⟩
       rintro rfl
       simp at q6
      have h2:=gy hM _ _ (λi hi=>by
       obtain⟨hil,hij,hiu,hst⟩:=hsub i hi
       have hoi:ops[i]?=some ops[i]:=K2 hil
       have hns:¬(c<=i\/(j<i/\gO P L ops[i]=false)):=λq=>by
        rw[(rf hoi).2 q] at hst;cases hst
       refine⟨ops[i],oj,hoi,hoj,?_⟩
       rcases Lr i j with q|q
       ·rcases hB.below i _ _ hoi hoj q with h3|h3
        ·exact h3
        ·rw[hwait i hiu hil] at h3;cases h3
       ·have hji:j<i:=by omega
        refine((hB.mid i _ _ hoi hoj hji (by omega)).2 ?_).2
        cases hcm:gO P L ops[i] with
        |true=>rfl
        |false=>exact absurd (.inr ⟨hji,hcm⟩) hns) a w h1
      rw[List.takeWhile_append_dropWhile] at h2
      refine pZ hoj hG h2 λa' w' hok hk=>ih _ a' w' hok (by simp[hs]) hclosed hlen (λ_=>?_) (λhq=>?_)
      ·have e5:ax ops (listed.setIfInBounds j true)=(Lg ops.size).filter λi=>!listed.getD i true&&decide (i≠j):=oO λi hi=>by rw[hs];exact KS.1 hi
       have e6:jZ listed (jc ops.size j)=(Lg ops.size).filter λi=>!listed.getD i true&&decide (i≠j):=by
        unfold jZ jc
        rw[NH]
        refine LM λi _=>?_
        by_cases e:i=j
        ·subst e;simp
        ·have:K6 i j=false:=by
          cases q:K6 i j with
          |false=>rfl
          |true=>exact absurd (KX q) e
         simp[e,this]
       rw[e5,<-e6];exact hk
      ·rw[setj] at hq;cases hq
     ·have hfset:(listed.setIfInBounds j true).getD f true=false:=by rw[getD_set_ne true (MR (MR hjf))];exact hfl
      have hjb:K6 j f=false:=by
       cases q:K6 j f with
       |false=>rfl
       |true=>exact absurd (KX q) hjf
      obtain⟨m1,m2,f1,f2,f3⟩:=cZ (λi=>!listed.getD i true&&!K6 i f) j (by simp only[hu,hjb];rfl) ops.size hlt
      have g1:jZ listed (jc ops.size f)=m1++j::m2:=by
       rw[<-f1];unfold jZ jc;rw[NH]
      have g2:jZ (listed.setIfInBounds j true) (jc ops.size f)=m1++m2:=by
       rw[oO λi hi=>by rw[hs];exact KS.1 (K3.1 hi).1,<-f3]
       unfold jc
       rw[NH]
       refine LM λi _=>?_
       cases listed.getD i true<;>cases K6 i f<;>simp
      rw[g1] at hx
      have hsort:(m1++j::m2).Pairwise (·<·):=by rw[<-f1];exact NW _ NC
      have hwf:c<=j->b8 P L true ops ops[f] oj=true:=λq=>by
       rcases hB.above j _ _ hoj hof q with s|s
       ·rw[hwait f hfl hfn] at s;cases s
       ·exact s
      have hfj:(f<j->j<c->gO P L oj=true)->b8 P L true ops ops[f] oj=true\/j<f:=λq=>by
       rcases Nat.lt_trichotomy j f with r|r|r
       ·exact .inr r
       ·exact absurd r hjf
       ·rcases Lr j c with s|s
        ·exact .inl ((hB.mid j _ _ hoj hof r s).2 (q r s)).1
        ·exact .inl (hwf s)
      have h2:=ql (c:=c) hM hof hoj hfj hwf m1 m2 (λi hi=>by
       obtain⟨hij,hiu⟩:=f2 i hi
       simp only[KR,L0] at hiu
       obtain⟨oi,q1,q2⟩:=cm i hij hiu.1 (by rintro rfl;simp at hiu) hjf
       exact⟨hij,oi,q1,q2,(wY q2).symm⟩) (λi hi=>by
        rw[List.pairwise_append] at hsort
        exact(NF.1 hsort.2.1).1 i hi) (λ_=>trivial) a w hG hx
      exact pZ hoj hG h2 λa' w' hok hk=>ih _ a' w' hok (by simp[hs]) hclosed hlen (λhq=>by rw[hfset] at hq;cases hq) (λ_=>by rw[g2];exact hk)
theorem pG {rn:Option Nat}{id:Nat}{a:Act}{w:World}{f c:Nat}(hm:P.follows .mixedOrders=true)(hM:M.isSome=true)(hB:qX P L ops f c (cE ops.toList [])=true)(hG:iC M w.heap)
  (h:iX P M L ops f c (λa w=>Q .normal a w) (jc ops.size f) a {w with drawn:=w.drawn+1}):(Code.region id ops true).wpIn (FW rn) 0 P Q a w:=by
 have hfalse:∀(d:Bool) j,j<ops.size->(Lz ops.size false).getD j d=false:=λd j hj=>by simp[hj]
 have hF:=px hB
 have hfn:f<ops.size:=QV hF.fc hF.cn
 have hu:ax ops (Lz ops.size false)=Lg ops.size:=by
  unfold ax
  rw[L1]
  intro i hi
  have:=KS.1 hi
  simp[this]
 refine wpIn_region_any hm (CW hM hF ops.size _ a _ hG (by simp) ?_ (by rw[hu];simp) ?_ ?_)
 ·intro j oj _ hl
  have:∀j,(Lz ops.size false).getD j false=false:=λj=>by
   rcases Lr j ops.size with h|h
   ·simp[h]
   ·simp[h]
  rw[this] at hl
  cases hl
 ·intro hq;rw[hfalse true f hfn] at hq;cases hq
 ·intro _
  have:jZ (Lz ops.size false) (jc ops.size f)=jc ops.size f:=by
   unfold jZ
   rw[L1]
   intro i hi
   rw[hfalse true i (KS.1 (K3.1 hi).1)];rfl
  rw[this];exact h
end
end Go.Proofs.YtdpdmbceakdlmaaGreatDoor
