/-
 Ground, a text behind the first: a region in which one effect floats beside others: it may go ahead of any of those that do not wait for it. The walk serves every order if it serves each place of that one.
-/
import Derived.Test.YtkehfflpbpdokaaGreatDoorFxa
open Array renaming getElem?_eq_some_iff->KA,getElem?_eq_getElem->Lb,replicate->LV
open Bool renaming and_eq_true->KD,or_eq_true->Lo,not_eq_true'->LY
open Go.Region renaming binds->Mk
open List renaming mem_cons->Ku,mem_cons_self->Kw,mem_cons_of_mem->KO,mem_filter->KP,mem_range->Lg,all_eq_true->LO,pairwise_cons->LR,range->L7,takeWhile_cons->Mf,filter_eq_self->Mr,filter_congr->MT,pairwise_lt_range->Oc,cons_append->Ot,filter_filter->OJ,dropWhile_cons->Py
open List.Pairwise renaming filter->Pm
open Nat renaming eq_of_beq_eq_true->KR,beq->K3,lt_or_ge->K8,blt->L5,ble->NX,lt_trans->Qr
open Ne renaming symm->M7
open Option.some renaming inj->Kq
namespace Go.Proofs.YtkehfflpbpdokaaGreatDoor
section
variable {P:Program}{M:Option (aa->Prop)}{L:List Nat}{ops:Array Oper}{Q:Exit->Act->World->Prop}
def fY (P:Program)(L:List Nat)(o:Oper):Bool:=dh P L o==0||dh P L o==1
def Ha (ops:Array Oper)(i:Nat)(t:Oper->Bool):Bool:=match ops[i]? with|some o=>t o|none=>false
theorem kk {i:Nat}{t:Oper->Bool}{o:Oper}(h:Ha ops i t=true)(ho:ops[i]?=some o):t o=true:=by
 unfold Ha at h;rw[ho] at h;exact h
def py (P:Program)(L:List Nat)(ops:Array Oper)(f c:Nat)(B:List Nat):Bool:=
 decide (f<c)&&decide (c<ops.size)&&waits B c f&&
 (L7 ops.size).all λj=>Ha ops j λoj=>
  (oj.after.all λe=>!Mk .any e||decide (e.on<j))&&
  ((L7 j).all λi=>i==f||j==f||Ha ops i (λoi=>cV P L true ops oi oj||waits B j i))&&
  Ha ops f (λof=>(bif L5 j f then cV P L true ops oj of||waits B f j else
   bif K3 j f then true else
   bif L5 j c then !(waits B j f)&&(!(fY P L oj)||(cV P L true ops of oj&&cV P L true ops oj of))
   else (waits B j f||cV P L true ops of oj)))
structure CB (P:Program)(L:List Nat)(ops:Array Oper)(f c:Nat):Prop where
 fc:f<c
 cn:c<ops.size
 wait:waits (fw ops.toList []) c f=true
 lt:∀j oj,ops[j]?=some oj->∀e∈oj.after,Mk .any e=true->e.on<j
 pair:∀i j oi oj,ops[i]?=some oi->ops[j]?=some oj->i<j->i≠f->j≠f->cV P L true ops oi oj=true\/waits (fw ops.toList []) j i=true
 below:∀i oi of,ops[i]?=some oi->ops[f]?=some of->i<f->cV P L true ops oi of=true\/waits (fw ops.toList []) f i=true
 mid:∀i oi of,ops[i]?=some oi->ops[f]?=some of->f<i->i<c->waits (fw ops.toList []) i f=false/\(fY P L oi=true->cV P L true ops of oi=true/\cV P L true ops oi of=true)
 above:∀i oi of,ops[i]?=some oi->ops[f]?=some of->c<=i->waits (fw ops.toList []) i f=true\/cV P L true ops of oi=true
theorem nP {f c:Nat}(h:py P L ops f c (fw ops.toList [])=true):CB P L ops f c:=by
 unfold py at h
 simp only[KD,decide_eq_true_eq] at h
 obtain⟨⟨⟨h1,h2⟩,h3⟩,h4⟩:=h
 have key:∀j oj,ops[j]?=some oj->_:=λj oj hj=>by
  have hlt:j<ops.size:=(KA.1 hj).1
  exact kk (LO.1 h4 j (Lg.2 hlt)) hj
 simp only[KD] at key
 refine⟨h1,h2,h3,?_,?_,?_,?_,?_⟩
 ·intro j oj hj e he hb
  have:=Array.all_eq_true_iff_forall_mem.1 (key j oj hj).1.1 e he
  simpa[hb] using this
 ·intro i j oi oj hi hj hij hif hjf
  have:=LO.1 (key j oj hj).1.2 i (Lg.2 hij)
  simp only[Lo,beq_iff_eq] at this
  rcases this with (q|q)|q
  ·exact absurd q hif
  ·exact absurd q hjf
  ·have:=kk q hi
   simpa[Lo] using this
 ·intro i oi of hi hf hlt
  have:=kk (key i oi hi).2 hf
  rw[fi.2 hlt] at this
  simpa[Lo] using this
 ·intro i oi of hi hf hfi hic
  have:=kk (key i oi hi).2 hf
  rw[vg (by omega:¬i<f),fi.2 hic] at this
  have hb:K3 i f=false:=by
   cases q:K3 i f with
   |false=>rfl
   |true=>have:=KR q;omega
  rw[hb] at this
  simp only[cond_false,cond_true,KD,Lo,LY] at this
  refine⟨this.1,λhc=>?_⟩
  rcases this.2 with q|q
  ·rw[hc] at q;cases q
  ·exact q
 ·intro i oi of hi hf hci
  have:=kk (key i oi hi).2 hf
  rw[vg (by omega:¬i<f),vg (by omega:¬i<c)] at this
  have hb:K3 i f=false:=by
   cases q:K3 i f with
   |false=>rfl
   |true=>have:=KR q;omega
  rw[hb] at this
  simpa[Lo] using this
theorem xJ {m:Bool}{x y:Oper}(h:cV P L m ops x y=true):fY P L x=true\/fY P L y=true:=by
 obtain⟨_,h2,_⟩:=kX h
 unfold fY
 rcases h2 with q|q|⟨q,_⟩|⟨_,q|q⟩
 ·left;simp[q]
 ·right;simp[q]
 ·left;simp[q]
 ·left;simp[q]
 ·right;simp[q]
theorem fN {K:Act->World->Prop}{j:Nat}(hM:M.isSome=true):∀(l1 l2:List Nat),(∀i∈l1,∃oi oj,ops[i]?=some oi/\ops[j]?=some oj/\cV P L true ops oi oj=true)->
  ∀a w,dO P M ops.size L ops K (l1++j::l2) a w->bS P M ops.size L ops j (dO P M ops.size L ops K (l1++l2)) a w
 |[],l2,_,a,w,h=>h
 |i::l1,l2,hc,a,w,h=>by
   have h1:bS P M ops.size L ops i (bS P M ops.size L ops j (dO P M ops.size L ops K (l1++l2))) a w:=fK (fN hM l1 l2 (λk hk=>hc k (KO _ hk))) h
   obtain⟨oi,oj,hi,hj,hcm⟩:=hc i Kw
   have mi:mP M ops.size i=M:=by unfold mP;rw[fi.2 (KA.1 hi).1];rfl
   have mj:mP M ops.size j=M:=by unfold mP;rw[fi.2 (KA.1 hj).1];rfl
   have e:∀K',bS P M ops.size L ops i K'=eH P M L ops oi K':=λK'=>by funext a w;simp only[bS,hi,mi]
   have e':∀K',bS P M ops.size L ops j K'=eH P M L ops oj K':=λK'=>by funext a w;simp only[bS,hj,mj]
   rw[e,e'] at h1
   have h2:=ni hcm (λ_=>⟨rfl,hM⟩) h1
   simp only[Ot,dO]
   rw[e,e']
   exact h2
theorem tG {rn:Option Nat}{fuel j:Nat}{listed:Array Bool}{a:Act}{w:World}{X:Act->World->Prop}{oj:Oper}(hoj:ops[j]?=some oj)(hok:iS M w.heap)
  (h:bS P M ops.size L ops j X a w) (go:∀a' w',iS M w'.heap->X a' w'->wpAnyIn (FW rn) 0 P .any ops Q fuel (listed.setIfInBounds j true) a' w'):
  wpOpIn (FW rn) 0 P ops Q j (λa w=>wpAnyIn (FW rn) 0 P .any ops Q fuel (listed.setIfInBounds j true) a w) a w:=by
 have mj:mP M ops.size j=M:=by unfold mP;rw[fi.2 (KA.1 hoj).1];rfl
 have h3:bS P M ops.size L ops j (λa w=>iS M w.heap/\X a w) a w:=by
  unfold bS at h ⊢
  rw[hoj] at h ⊢
  exact mZ hok (.inr (.inr mj)) h
 exact jf (λ_ _ _ _=>hok) (fK (λa' w' h5=>go a' w' h5.1 h5.2) h3)
theorem wpAny_first {rn:Option Nat}{fuel:Nat}{listed:Array Bool}{a:Act}{w:World}(hs:listed.size=ops.size)(hl:(aX ops listed).length=fuel+1)(hlt:∀j oj,ops[j]?=some oj->∀e∈oj.after,Mk .any e=true->e.on<j)
  (h:∀j oj,ops[j]?=some oj->listed.getD j true=false->(∀e∈oj.after,Mk .any e=true->listed.getD e.on false=true)->wpOpIn (FW rn) 0 P ops Q j (λa w=>wpAnyIn (FW rn) 0 P .any ops Q fuel (listed.setIfInBounds j true) a w) a w):
  wpAnyIn (FW rn) 0 P .any ops Q (fuel+1) listed a w:=by
 refine⟨λh0=>?_,λj hj=>?_⟩
 ·exfalso
  cases hU:aX ops listed with
  |nil=>rw[hU] at hl;simp at hl
  |cons m rest=>
    have hm:m∈aX ops listed:=by rw[hU];exact Kw
    have hmin:∀i,i<m->listed.getD i false=true:=by
     intro i hi
     obtain⟨hm1,hm2⟩:=KP.1 hm
     have hmlt:=Lg.1 hm1
     cases hli:listed.getD i true with
     |true=>
       have:i<listed.size:=by omega
       simp[this] at hli ⊢;exact hli
     |false=>
       have hi2:i∈aX ops listed:=KP.2 ⟨Lg.2 (by omega),by simp[hli]⟩
       rw[hU] at hi2
       have hsorted:(aX ops listed).Pairwise (·<·):=Pm _ Oc
       rw[hU,LR] at hsorted
       rcases Ku.1 hi2 with e|e
       ·omega
       ·have:=hsorted.1 i e;omega
    obtain⟨hm1,hm2⟩:=KP.1 hm
    have hmlt:=Lg.1 hm1
    have ho:ops[m]?=some ops[m]:=Lb hmlt
    have:m∈Region.ready .any ops listed:=mem_ready.2 ⟨by simpa using hm2,_,ho,λe he hb=>hmin _ (hlt m _ ho e he hb)⟩
    rw[h0] at this
    cases this
 ·obtain⟨hu,oj,hoj,hall⟩:=mem_ready.1 hj
  exact h j oj hoj hu hall
def jH (listed:Array Bool)(l:List Nat):List Nat:=l.filter λi=>!listed.getD i true
theorem nC {listed:Array Bool}{j:Nat}{l:List Nat}(hb:∀i∈l,i<listed.size):jH (listed.setIfInBounds j true) l=(l.filter λi=>!listed.getD i true&&decide (i≠j)):=by
 unfold jH
 refine MT λi hi=>?_
 have hi':=hb i hi
 by_cases hij:i=j
 ·subst hij;simp[hi']
 ·rw[getD_set_ne true (M7 hij)];simp[hij]
def iD (n f:Nat):List Nat:=(L7 n).filter λi=>!K3 i f
def gd (P:Program)(L:List Nat)(ops:Array Oper)(f c i:Nat):Bool:=NX c i||(L5 f i&&Ha ops i λo=>!(fY P L o))
def iw (P:Program)(M:Option (aa->Prop))(L:List Nat)(ops:Array Oper)(f c:Nat)(K:Act->World->Prop):List Nat->Act->World->Prop
 |[]=>dO P M ops.size L ops K [f]
 |i::l=>bif NX c i then dO P M ops.size L ops K (f::i::l) else
   bif gd P L ops f c i then λa w=>dO P M ops.size L ops K (f::i::l) a w/\bS P M ops.size L ops i (iw P M L ops f c K l) a w
   else bS P M ops.size L ops i (iw P M L ops f c K l)
theorem uT {i k:Nat}:NX i k=true↔i<=k:=⟨Nat.le_of_ble_eq_true,Nat.ble_eq_true_of_le⟩
theorem zx {f c:Nat}{K:Act->World->Prop}{l:List Nat}(h:∀i∈l,c<=i):iw P M L ops f c K l=dO P M ops.size L ops K (f::l):=by
 cases l with
 |nil=>rfl
 |cons i l=>
   show (bif NX c i then _ else _)=_
   rw[uT.2 (h i Kw)];rfl
theorem y9 {i:Nat}{oi:Oper}{K:Act->World->Prop}{a:Act}{w:World}(hi:ops[i]?=some oi)(hok:iS M w.heap)(h:bS P M ops.size L ops i K a w):bS P M ops.size L ops i (λa w=>iS M w.heap/\K a w) a w:=by
 have mi:mP M ops.size i=M:=by unfold mP;rw[fi.2 (KA.1 hi).1];rfl
 unfold bS at h ⊢
 rw[hi] at h ⊢
 exact mZ hok (.inr (.inr mi)) h
theorem w8 {i j:Nat}{oi oj:Oper}(hM:M.isSome=true)(hi:ops[i]?=some oi)(hj:ops[j]?=some oj)(hcm:cV P L true ops oi oj=true){K:Act->World->Prop}{a:Act}{w:World}
  (h:bS P M ops.size L ops i (bS P M ops.size L ops j K) a w):bS P M ops.size L ops j (bS P M ops.size L ops i K) a w:=by
 have mi:mP M ops.size i=M:=by unfold mP;rw[fi.2 (KA.1 hi).1];rfl
 have mj:mP M ops.size j=M:=by unfold mP;rw[fi.2 (KA.1 hj).1];rfl
 have e:∀K',bS P M ops.size L ops i K'=eH P M L ops oi K':=λK'=>by funext a w;simp only[bS,hi,mi]
 have e':∀K',bS P M ops.size L ops j K'=eH P M L ops oj K':=λK'=>by funext a w;simp only[bS,hj,mj]
 rw[e,e'] at h
 rw[e',e]
 exact ni hcm (λ_=>⟨rfl,hM⟩) h
theorem A7 {j:Nat}{oj:Oper}(hj:ops[j]?=some oj)(hc:fY P L oj=true){A B:Act->World->Prop}{a:Act}{w:World}(hok:iS M w.heap)(h1:bS P M ops.size L ops j A a w)(h2:bS P M ops.size L ops j B a w):
  bS P M ops.size L ops j (λa w=>A a w/\B a w) a w:=by
 have mj:mP M ops.size j=M:=by unfold mP;rw[fi.2 (KA.1 hj).1];rfl
 unfold bS at*
 rw[hj] at*
 simp only[mj] at*
 unfold eH at*
 split
 ·rename_i hw
  rw[if_pos hw] at h1 h2
  unfold fY at hc
  simp only[Lo,beq_iff_eq] at hc
  rcases hc with q|q
  ·rw[q] at h1 h2 ⊢
   obtain⟨v1,r1,k1⟩:=h1
   obtain⟨v2,r2,k2⟩:=h2
   have:=(r1 w).symm.trans (r2 w)
   cases this
   exact⟨v1,r1,k1,k2⟩
  ·rw[q] at h1 h2 ⊢
   obtain⟨v1,r1,k1⟩:=h1
   obtain⟨v2,r2,k2⟩:=h2
   have:=(r1 w (pv hok)).symm.trans (r2 w (pv hok))
   cases this
   exact⟨v1,r1,k1,k2⟩
 ·rename_i hw
  rw[if_neg hw] at h1 h2
  exact⟨h1,h2⟩
theorem po {f c i:Nat}{oi:Oper}(hi:ops[i]?=some oi):gd P L ops f c i=true↔c<=i\/(f<i/\fY P L oi=false):=by
 unfold gd Ha
 rw[hi]
 simp only[Lo,KD,LY]
 rw[uT,fi]
theorem wg {f c:Nat}{K:Act->World->Prop}:∀(l:List Nat) (a:Act) (w:World),iw P M L ops f c K l a w->dO P M ops.size L ops K ((l.takeWhile λi=>!gd P L ops f c i)++f::l.dropWhile λi=>!gd P L ops f c i) a w
 |[],a,w,h=>h
 |i::l,a,w,h=>by
   unfold iw at h
   cases hb:NX c i with
   |true=>
     rw[hb] at h
     have hs:gd P L ops f c i=true:=by unfold gd;rw[hb];rfl
     simp only[Mf,Py,hs]
     exact h
   |false=>
     rw[hb] at h
     cases hs:gd P L ops f c i with
     |true=>
       rw[hs] at h
       simp only[Mf,Py,hs]
       exact h.1
     |false=>
       rw[hs] at h
       simp only[Mf,Py,hs]
       exact fK (wg l) h
theorem pI {f c j:Nat}{of oj:Oper}{K:Act->World->Prop}(hM:M.isSome=true)(hf:ops[f]?=some of)(hj:ops[j]?=some oj)(hfj:(f<j->j<c->fY P L oj=true)->cV P L true ops of oj=true\/j<f)(hhi:c<=j->cV P L true ops of oj=true):
  ∀(l1 l2:List Nat),(∀i∈l1,i<j/\∃oi,ops[i]?=some oi/\cV P L true ops oi oj=true/\(fY P L oj=true\/fY P L oi=true))->(∀i∈l2,j<i)->(c<=j->True)->
  ∀a w,iS M w.heap->iw P M L ops f c K (l1++j::l2) a w->bS P M ops.size L ops j (iw P M L ops f c K (l1++l2)) a w
 |[],l2,_,h2,_,a,w,hok,h=>by
   simp only[List.nil_append] at h ⊢
   unfold iw at h
   cases hb:NX c j with
   |true=>
     rw[hb] at h
     have hcj:=uT.1 hb
     rw[zx λi hi=>Nat.le_trans hcj (Nat.le_of_lt (h2 i hi))]
     exact fN hM [f] l2 (λi hi=>by rw[List.mem_singleton] at hi;subst hi;exact⟨of,oj,hf,hj,hhi hcj⟩) a w h
   |false=>
     rw[hb] at h
     cases hs:gd P L ops f c j with
     |true=>rw[hs] at h;exact h.2
     |false=>rw[hs] at h;exact h
 |i::l1,l2,h1,h2,h3,a,w,hok,h=>by
   obtain⟨hij,oi,hi,hcm,hca⟩:=h1 i Kw
   have h1':=λk hk=>h1 k (KO _ hk)
   simp only[Ot] at h ⊢
   unfold iw at h
   rw[show iw P M L ops f c K (i::(l1++l2))=(bif NX c i then dO P M ops.size L ops K (f::i::(l1++l2)) else
    bif gd P L ops f c i then λa w=>dO P M ops.size L ops K (f::i::(l1++l2)) a w/\bS P M ops.size L ops i (iw P M L ops f c K (l1++l2)) a w
    else bS P M ops.size L ops i (iw P M L ops f c K (l1++l2))) from rfl]
   have inner:bS P M ops.size L ops i (iw P M L ops f c K (l1++j::l2)) a w->bS P M ops.size L ops j (bS P M ops.size L ops i (iw P M L ops f c K (l1++l2))) a w:=λhx=>
    w8 hM hi hj hcm (fK (λa' w' hk=>pI hM hf hj hfj hhi l1 l2 h1' h2 h3 a' w' hk.1 hk.2) (y9 hi hok hx))
   have front:cV P L true ops of oj=true->dO P M ops.size L ops K (f::i::(l1++j::l2)) a w->bS P M ops.size L ops j (dO P M ops.size L ops K (f::i::(l1++l2))) a w:=λhc hx=>
    fN hM (f::i::l1) l2 (λk hk=>by
     rcases Ku.1 hk with q|q
     ·subst q;exact⟨of,oj,hf,hj,hc⟩
     ·obtain⟨_,ok,hk1,hk2,_⟩:=h1 k q
      exact⟨ok,oj,hk1,hj,hk2⟩) a w hx
   cases hb:NX c i with
   |true=>
     rw[hb] at h
     exact front (hhi (by have:=uT.1 hb;omega)) h
   |false=>
     rw[hb] at h
     cases hs:gd P L ops f c i with
     |false=>
       rw[hs] at h
       exact inner h
     |true=>
       rw[hs] at h
       have hci:¬c<=i:=λq=>by rw[uT.2 q] at hb;cases hb
       rcases (po hi).1 hs with q|⟨q1,q2⟩
       ·exact absurd q hci
       ·have hcj:fY P L oj=true:=by
         rcases hca with r|r
         ·exact r
         ·rw[q2] at r;cases r
        have hcf:cV P L true ops of oj=true:=by
         rcases hfj (λ_ _=>hcj) with r|r
         ·exact r
         ·omega
        exact A7 hj hcj hok (front hcf h.1) (inner h.2)
theorem BX {rn:Option Nat}{f c:Nat}(hM:M.isSome=true)(hB:CB P L ops f c):∀(fuel:Nat) (listed:Array Bool) (a:Act) (w:World),iS M w.heap->listed.size=ops.size->uu ops listed->(aX ops listed).length=fuel->
  (listed.getD f true=true->dO P M ops.size L ops (λa w=>Q .normal a w) (aX ops listed) a w)->
  (listed.getD f true=false->iw P M L ops f c (λa w=>Q .normal a w) (jH listed (iD ops.size f)) a w)->
  wpAnyIn (FW rn) 0 P .any ops Q fuel listed a w:=by
 intro fuel
 induction fuel with
 |zero=>
   intro listed a w hG hs hc hl h _
   have h0:aX ops listed=[]:=List.length_eq_zero_iff.1 hl
   have hf:listed.getD f true=true:=by
    cases q:listed.getD f true with
    |true=>rfl
    |false=>
      have:f∈aX ops listed:=KP.2 ⟨Lg.2 (Qr hB.fc hB.cn),by simp[q]⟩
      rw[h0] at this;cases this
   refine⟨?_,by have:=h hf;rw[h0] at this;exact this⟩
   rw[List.eq_nil_iff_forall_not_mem]
   intro j hj
   obtain⟨hu,o,ho,_⟩:=mem_ready.1 hj
   have hlt:j<ops.size:=(KA.1 ho).1
   have:j∈aX ops listed:=KP.2 ⟨Lg.2 hlt,by simp[hu]⟩
   rw[h0] at this
   cases this
 |succ fuel ih=>
   intro listed a w hG hs hc hl h hn
   refine wpAny_first hs hl hB.lt λj oj hoj hu hall=>?_
   have hlt:j<ops.size:=(KA.1 hoj).1
   have hfn:f<ops.size:=Qr hB.fc hB.cn
   have hof:ops[f]?=some ops[f]:=Lb hfn
   have hwait:∀i,listed.getD i true=false->i<ops.size->waits (fw ops.toList []) j i=false:=by
    intro i hiu hil
    cases h3:waits (fw ops.toList []) j i with
    |false=>rfl
    |true=>
      have h4:=mH hc hB.lt j i oj hoj hall h3
      have:i<listed.size:=by omega
      simp[this] at hiu h4
      rw[hiu] at h4;cases h4
   have hclosed:uu ops (listed.setIfInBounds j true):=by
    intro q ok hq hql e he hb
    by_cases hqj:j=q
    ·subst hqj
     have:ok=oj:=Kq (hq.symm.trans hoj)
     subst this
     exact getD_set_true (hall e he hb)
    ·rw[getD_set_ne false hqj] at hql
     exact getD_set_true (hc q ok hq hql e he hb)
   obtain⟨l1,l2,e1,e2,e3⟩:=gp (λi=>!listed.getD i true) j (by simp[hu]) ops.size hlt
   have e1':aX ops listed=l1++j::l2:=e1
   have e4:aX ops (listed.setIfInBounds j true)=l1++l2:=by
    rw[<-e3]
    exact nC λi hi=>by rw[hs];exact Lg.1 hi
   have hlen:(aX ops (listed.setIfInBounds j true)).length=fuel:=by
    rw[e4]
    rw[e1'] at hl
    simp only[List.length_append,List.length_cons] at hl ⊢
    omega
   have setj:(listed.setIfInBounds j true).getD j true=true:=by
    have:j<listed.size:=by omega
    simp[this]
   have cm:∀i,i<j->listed.getD i true=false->i≠f->j≠f->∃oi,ops[i]?=some oi/\cV P L true ops oi oj=true:=by
    intro i hij hiu hif hjf
    have hil:i<ops.size:=by omega
    have hoi:ops[i]?=some ops[i]:=Lb hil
    refine⟨ops[i],hoi,?_⟩
    rcases hB.pair i j _ _ hoi hoj hij hif hjf with h3|h3
    ·exact h3
    ·rw[hwait i hiu hil] at h3;cases h3
   cases hfl:listed.getD f true with
   |true=>
     have hjf:j≠f:=by rintro rfl;rw[hu] at hfl;cases hfl
     have hx:=h hfl
     rw[e1'] at hx
     have h2:=fN hM l1 l2 (λi hi=>by
      obtain⟨hij,hiu⟩:=e2 i hi
      have hiu':listed.getD i true=false:=by simpa using hiu
      obtain⟨oi,q1,q2⟩:=cm i hij hiu' (by rintro rfl;rw[hfl] at hiu';cases hiu') hjf
      exact⟨oi,oj,q1,hoj,q2⟩) a w hx
     refine tG hoj hG h2 λa' w' hok hk=>ih _ a' w' hok (by simp[hs]) hclosed hlen (λ_=>by rw[e4];exact hk) (λhq=>?_)
     rw[getD_set_ne true hjf] at hq
     rw[hfl] at hq;cases hq
   |false=>
     have hx:=hn hfl
     by_cases hjf:j=f
     ·subst hjf
      have h1:=wg _ a w hx
      have hsub:∀i∈(jH listed (iD ops.size j)).takeWhile (λi=>!gd P L ops j c i),i<ops.size/\i≠j/\listed.getD i true=false/\gd P L ops j c i=false:=by
       intro i hi
       have q1:=LO.1 (List.all_takeWhile (p:=λi=>!gd P L ops j c i) (l:=jH listed (iD ops.size j))) i hi
       have q2:=(List.takeWhile_sublist _).mem hi
       obtain⟨q3,q4⟩:=KP.1 q2
       obtain⟨q5,q6⟩:=KP.1 q3
       refine⟨Lg.1 q5,?_,by simpa using q4,by simpa using q1⟩
       rintro rfl
       simp at q6
      have h2:=fN hM _ _ (λi hi=>by
       obtain⟨hil,hij,hiu,hst⟩:=hsub i hi
       have hoi:ops[i]?=some ops[i]:=Lb hil
       have hns:¬(c<=i\/(j<i/\fY P L ops[i]=false)):=λq=>by
        rw[(po hoi).2 q] at hst;cases hst
       refine⟨ops[i],oj,hoi,hoj,?_⟩
       rcases K8 i j with q|q
       ·rcases hB.below i _ _ hoi hoj q with h3|h3
        ·exact h3
        ·rw[hwait i hiu hil] at h3;cases h3
       ·have hji:j<i:=by omega
        refine((hB.mid i _ _ hoi hoj hji (by omega)).2 ?_).2
        cases hcm:fY P L ops[i] with
        |true=>rfl
        |false=>exact absurd (.inr ⟨hji,hcm⟩) hns) a w h1
      rw[List.takeWhile_append_dropWhile] at h2
      refine tG hoj hG h2 λa' w' hok hk=>ih _ a' w' hok (by simp[hs]) hclosed hlen (λ_=>?_) (λhq=>?_)
      ·have e5:aX ops (listed.setIfInBounds j true)=(L7 ops.size).filter λi=>!listed.getD i true&&decide (i≠j):=nC λi hi=>by rw[hs];exact Lg.1 hi
       have e6:jH listed (iD ops.size j)=(L7 ops.size).filter λi=>!listed.getD i true&&decide (i≠j):=by
        unfold jH iD
        rw[OJ]
        refine MT λi _=>?_
        by_cases e:i=j
        ·subst e;simp
        ·have:K3 i j=false:=by
          cases q:K3 i j with
          |false=>rfl
          |true=>exact absurd (KR q) e
         simp[e,this]
       rw[e5,<-e6];exact hk
      ·rw[setj] at hq;cases hq
     ·have hfset:(listed.setIfInBounds j true).getD f true=false:=by rw[getD_set_ne true (M7 (M7 hjf))];exact hfl
      have hjb:K3 j f=false:=by
       cases q:K3 j f with
       |false=>rfl
       |true=>exact absurd (KR q) hjf
      obtain⟨m1,m2,f1,f2,f3⟩:=gp (λi=>!listed.getD i true&&!K3 i f) j (by simp only[hu,hjb];rfl) ops.size hlt
      have g1:jH listed (iD ops.size f)=m1++j::m2:=by
       rw[<-f1];unfold jH iD;rw[OJ]
      have g2:jH (listed.setIfInBounds j true) (iD ops.size f)=m1++m2:=by
       rw[nC λi hi=>by rw[hs];exact Lg.1 (KP.1 hi).1,<-f3]
       unfold iD
       rw[OJ]
       refine MT λi _=>?_
       cases listed.getD i true<;>cases K3 i f<;>simp
      rw[g1] at hx
      have hsort:(m1++j::m2).Pairwise (·<·):=by rw[<-f1];exact Pm _ Oc
      have hwf:c<=j->cV P L true ops ops[f] oj=true:=λq=>by
       rcases hB.above j _ _ hoj hof q with s|s
       ·rw[hwait f hfl hfn] at s;cases s
       ·exact s
      have hfj:(f<j->j<c->fY P L oj=true)->cV P L true ops ops[f] oj=true\/j<f:=λq=>by
       rcases Nat.lt_trichotomy j f with r|r|r
       ·exact .inr r
       ·exact absurd r hjf
       ·rcases K8 j c with s|s
        ·exact .inl ((hB.mid j _ _ hoj hof r s).2 (q r s)).1
        ·exact .inl (hwf s)
      have h2:=pI (c:=c) hM hof hoj hfj hwf m1 m2 (λi hi=>by
       obtain⟨hij,hiu⟩:=f2 i hi
       simp only[KD,LY] at hiu
       obtain⟨oi,q1,q2⟩:=cm i hij hiu.1 (by rintro rfl;simp at hiu) hjf
       exact⟨hij,oi,q1,q2,(xJ q2).symm⟩) (λi hi=>by
        rw[List.pairwise_append] at hsort
        exact(LR.1 hsort.2.1).1 i hi) (λ_=>trivial) a w hG hx
      exact tG hoj hG h2 λa' w' hok hk=>ih _ a' w' hok (by simp[hs]) hclosed hlen (λhq=>by rw[hfset] at hq;cases hq) (λ_=>by rw[g2];exact hk)
theorem oy {rn:Option Nat}{id:Nat}{a:Act}{w:World}{f c:Nat}(hm:P.follows .mixedOrders=true)(hM:M.isSome=true)(hB:py P L ops f c (fw ops.toList [])=true)(hG:iS M w.heap)
  (h:iw P M L ops f c (λa w=>Q .normal a w) (iD ops.size f) a {w with drawn:=w.drawn+1}):(Code.region id ops true).wpIn (FW rn) 0 P Q a w:=by
 have hfalse:∀(d:Bool) j,j<ops.size->(LV ops.size false).getD j d=false:=λd j hj=>by simp[hj]
 have hF:=nP hB
 have hfn:f<ops.size:=Qr hF.fc hF.cn
 have hu:aX ops (LV ops.size false)=L7 ops.size:=by
  unfold aX
  rw[Mr]
  intro i hi
  have:=Lg.1 hi
  simp[this]
 refine wpIn_region_any hm (BX hM hF ops.size _ a _ hG (by simp) ?_ (by rw[hu];simp) ?_ ?_)
 ·intro j oj _ hl
  have:∀j,(LV ops.size false).getD j false=false:=λj=>by
   rcases K8 j ops.size with h|h
   ·simp[h]
   ·simp[h]
  rw[this] at hl
  cases hl
 ·intro hq;rw[hfalse true f hfn] at hq;cases hq
 ·intro _
  have:jH (LV ops.size false) (iD ops.size f)=iD ops.size f:=by
   unfold jH
   rw[Mr]
   intro i hi
   rw[hfalse true i (Lg.1 (KP.1 hi).1)];rfl
  rw[this];exact h
end
end Go.Proofs.YtkehfflpbpdokaaGreatDoor
