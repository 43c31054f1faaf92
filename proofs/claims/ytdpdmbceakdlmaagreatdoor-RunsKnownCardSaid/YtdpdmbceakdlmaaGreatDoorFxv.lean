/-
 Ground, a text behind the first: a region some of whose operations float beside others. The walk takes first what may go first; where none may, it forks over all that are ready.
-/
import Derived.Test.YtdpdmbceakdlmaaGreatDoorFxu
open Array renaming getElem?_eq_some_iff->KO,replicate->Lz
open Bool renaming and_eq_true->KR
open Go.Region renaming binds->LY
open List renaming mem_range->KS,mem_cons_self->KV,mem_filter->K3,mem_cons_of_mem->K7,mem_cons->K8,range->Lg,length_cons->Ln,all_eq_true->Lv,filter_congr->LM,filter_eq_self->L1,filter_filter->NH,length_pos_iff_exists_mem->Qi
open Nat renaming eq_of_beq_eq_true->KX,beq->K6
open Ne renaming symm->MR
open Option.some renaming inj->K1
namespace Go.Proofs.YtdpdmbceakdlmaaGreatDoor
def ia (B:List Nat)(l:List Nat)(j:Nat):Bool:=l.all λi=>!(waits B j i)
def Hh (P:Program)(L:List Nat)(ops:Array Oper)(i j:Nat):Bool:=Bv ops i λoi=>Bv ops j λoj=>b8 P L true ops oi oj&&b8 P L true ops oj oi
def AA (P:Program)(L:List Nat)(ops:Array Oper)(B:List Nat)(l:List Nat)(j:Nat):Bool:=ia B l j&&l.all λi=>K6 i j||(waits B i j||Hh P L ops i j)
def eO (l:List Nat)(j:Nat):List Nat:=l.filter λi=>!(K6 i j)
def lX (t:Nat->Bool):List Nat->Option Nat
 |[]=>none
 |j::l=>bif t j then some j else lX t l
def uL (t:Nat->Bool)(f:Nat->Prop):List Nat->Prop
 |[]=>True
 |j::l=>bif t j then f j/\uL t f l else uL t f l
theorem jC {t:Nat->Bool}:∀{l:List Nat} {j:Nat},lX t l=some j->j∈l/\t j=true
 |[],_,h=>by cases h
 |i::l,j,h=>by
   unfold lX at h
   cases hb:t i with
   |true=>rw[hb] at h;cases h;exact⟨KV,hb⟩
   |false=>rw[hb] at h;have:=jC (l:=l) h;exact⟨K7 _ this.1,this.2⟩
theorem qt {t:Nat->Bool}:∀{l:List Nat},lX t l=none->∀j∈l,t j=false
 |[],_,_,hj=>by cases hj
 |i::l,h,j,hj=>by
   unfold lX at h
   cases hb:t i with
   |true=>rw[hb] at h;cases h
   |false=>
     rw[hb] at h
     rcases K8.1 hj with q|q
     ·subst q;exact hb
     ·exact qt (l:=l) h j q
theorem qO {t:Nat->Bool}{f:Nat->Prop}:∀{l:List Nat} {j:Nat},uL t f l->j∈l->t j=true->f j
 |[],_,_,h,_=>by cases h
 |i::l,j,h,hj,ht=>by
   unfold uL at h
   cases hb:t i with
   |true=>
     rw[hb] at h
     rcases K8.1 hj with q|q
     ·subst q;exact h.1
     ·exact qO (l:=l) h.2 q ht
   |false=>
     rw[hb] at h
     rcases K8.1 hj with q|q
     ·subst q;rw[hb] at ht;cases ht
     ·exact qO (l:=l) h q ht
theorem nZ {t:Nat->Bool}{f g:Nat->Prop}:∀{l:List Nat},(∀j∈l,f j->g j)->uL t f l->uL t g l
 |[],_,_=>trivial
 |i::l,hm,h=>by
   unfold uL at h ⊢
   cases hb:t i with
   |true=>rw[hb] at h;exact⟨hm i KV h.1,nZ (λj hj=>hm j (K7 _ hj)) h.2⟩
   |false=>rw[hb] at h;exact nZ (λj hj=>hm j (K7 _ hj)) h
theorem Ii {i j:Nat}(h:i≠j):K6 i j=false:=by
 cases q:K6 i j with
 |false=>rfl
 |true=>exact absurd (KX q) h
theorem I0 (i:Nat):K6 i i=true:=by simp
theorem fG {l:List Nat}{i j:Nat}:i∈eO l j↔i∈l/\i≠j:=by
 unfold eO
 rw[K3]
 by_cases h:i=j
 ·subst h;simp[I0]
 ·simp[Ii h,h]
theorem ti (l:List Nat)(i j:Nat):eO (eO l i) j=eO (eO l j) i:=by
 unfold eO
 rw[NH,NH]
 refine LM λx _=>?_
 exact Bool.and_comm _ _
theorem jr:∀{l:List Nat} {j:Nat},l.Nodup->j∈l->(eO l j).length+1=l.length
 |[],_,_,h=>by cases h
 |i::l,j,hn,hj=>by
   obtain⟨h1,h2⟩:=List.nodup_cons.1 hn
   unfold eO
   rw[List.filter_cons]
   by_cases e:i=j
   ·subst e
    rw[if_neg (by simp[I0])]
    have:(l.filter λx=>!(K6 x i))=l:=by
     rw[L1]
     intro x hx
     have:x≠i:=λq=>h1 (q▸hx)
     simp[Ii this]
    rw[this];rfl
   ·rw[if_pos (by simp[Ii e]),Ln]
    rcases K8.1 hj with q|q
    ·exact absurd q.symm e
    ·have:=jr (l:=l) h2 q
     unfold eO at this
     rw[Ln];omega
theorem jI {l:List Nat}{j:Nat}(h:l.Nodup):(eO l j).Nodup:=h.filter _
theorem lZ {B l:List Nat}{i j:Nat}(h:ia B l j=true):ia B (eO l i) j=true:=by
 unfold ia at*
 rw[Lv] at*
 exact λx hx=>h x (fG.1 hx).1
section
variable {P:Program}{M:Option (Heap->Prop)}{L:List Nat}{ops:Array Oper}{Q:Exit->Act->World->Prop}
theorem zq {B l:List Nat}{i j:Nat}(h:AA P L ops B l j=true):AA P L ops B (eO l i) j=true:=by
 unfold AA at*
 rw[KR] at*
 refine⟨lZ h.1,?_⟩
 have:=h.2
 rw[Lv] at*
 exact λx hx=>this x (fG.1 hx).1
theorem sW {B l:List Nat}{j:Nat}(h:AA P L ops B l j=true):ia B l j=true:=by
 unfold AA at h;rw[KR] at h;exact h.1
theorem wC {B l:List Nat}{i j:Nat}(h:AA P L ops B l j=true)(hi:i∈l)(hj:j∈l)(hij:i≠j)(hr:ia B l i=true):
  ∃oi oj,ops[i]?=some oi/\ops[j]?=some oj/\b8 P L true ops oi oj=true/\b8 P L true ops oj oi=true:=by
 unfold AA at h
 rw[KR] at h
 have h1:=Lv.1 h.2 i hi
 have h2:=Lv.1 hr j hj
 simp only[Bool.not_eq_true'] at h2
 have hb:K6 i j=false:=by
  cases q:K6 i j with
  |false=>rfl
  |true=>exact absurd (KX q) hij
 rw[hb,h2] at h1
 simp only[Bool.false_or] at h1
 unfold Hh at h1
 cases e1:ops[i]? with
 |none=>unfold Bv at h1;rw[e1] at h1;cases h1
 |some oi=>
   have h3:=gw h1 e1
   cases e2:ops[j]? with
   |none=>unfold Bv at h3;rw[e2] at h3;cases h3
   |some oj=>
     have h4:=gw h3 e2
     rw[KR] at h4
     exact⟨oi,oj,rfl,rfl,h4.1,h4.2⟩
def nj (P:Program)(M:Option (Heap->Prop))(L:List Nat)(ops:Array Oper)(K:Act->World->Prop):Nat->List Nat->Act->World->Prop
 |0,_=>K
 |n+1,l=>(match lX (AA P L ops (cE ops.toList []) l) l with
   |some j=>bF P M ops.size L ops j (nj P M L ops K n (eO l j))
   |none=>λa w=>uL (ia (cE ops.toList []) l) (λj=>bF P M ops.size L ops j (nj P M L ops K n (eO l j)) a w) l)
theorem jj (hM:M.isSome=true)(K:Act->World->Prop):∀(n:Nat) (l:List Nat),l.Nodup->l.length=n+1->
  (∀j∈l,ia (cE ops.toList []) l j=true->∀a w,nj P M L ops K (n+1) l a w->bF P M ops.size L ops j (nj P M L ops K n (eO l j)) a w)/\
  (∀j∈l,AA P L ops (cE ops.toList []) l j=true->∀a w,bF P M ops.size L ops j (nj P M L ops K n (eO l j)) a w->nj P M L ops K (n+1) l a w)
 |n,l,hn,hl=>by
   refine⟨λj hj hr a w h=>?_,λj hj hok a w h=>?_⟩
   ·unfold nj at h
    cases hf:lX (AA P L ops (cE ops.toList []) l) l with
    |none=>
      rw[hf] at h
      exact qO h hj hr
    |some i=>
      rw[hf] at h
      simp only at h
      obtain⟨hi,hoi⟩:=jC hf
      by_cases hij:j=i
      ·subst hij;exact h
      ·obtain⟨oj,oi,e1,e2,c1,c2⟩:=wC hoi hj hi hij hr
       have li:=jr hn hi
       have lj:=jr hn hj
       match n,hl,h with
       | 0, hl, h => have : 0 < (eO l i).length := Qi.2 ⟨j, fG.2 ⟨hj, hij⟩⟩
                     omega
       |n+1,hl,h=>
         have hbi:=jj hM K n (eO l i) (jI hn) (by omega)
         have hbj:=jj hM K n (eO l j) (jI hn) (by omega)
         have h1:=bV (λa w hx=>hbi.1 j (fG.2 ⟨hj,hij⟩) (lZ hr) a w hx) h
         have h2:=mQ hM e2 e1 c2 h1
         refine bV (λa w hx=>hbj.2 i (fG.2 ⟨hi,MR hij⟩) (zq hoi) a w ?_) h2
         rw[ti l j i];exact hx
   ·unfold nj
    cases hf:lX (AA P L ops (cE ops.toList []) l) l with
    |none=>
      have:=qt hf j hj
      rw[hok] at this;cases this
    |some i=>
      simp only
      obtain⟨hi,hoi⟩:=jC hf
      by_cases hij:j=i
      ·subst hij;exact h
      ·obtain⟨oj,oi,e1,e2,c1,c2⟩:=wC hoi hj hi hij (sW hok)
       have li:=jr hn hi
       have lj:=jr hn hj
       match n,hl,h with
       | 0, hl, h => have : 0 < (eO l i).length := Qi.2 ⟨j, fG.2 ⟨hj, hij⟩⟩
                     omega
       |n+1,hl,h=>
         have hbi:=jj hM K n (eO l i) (jI hn) (by omega)
         have hbj:=jj hM K n (eO l j) (jI hn) (by omega)
         have h1:=bV (λa w hx=>hbj.1 i (fG.2 ⟨hi,MR hij⟩) (lZ (sW hoi)) a w hx) h
         have h2:=mQ hM e1 e2 c1 h1
         refine bV (λa w hx=>hbi.2 j (fG.2 ⟨hj,hij⟩) (zq hok) a w ?_) h2
         rw[ti l i j];exact hx
def IZ (ops:Array Oper):Bool:=(Lg ops.size).all λj=>Bv ops j λoj=>oj.after.all λe=>!LY .any e||decide (e.on<j)
theorem CP (h:IZ ops=true):∀j oj,ops[j]?=some oj->∀e∈oj.after,LY .any e=true->e.on<j:=by
 intro j oj hj e he hb
 have hlt:j<ops.size:=(KO.1 hj).1
 have h1:=gw (Lv.1 h j (KS.2 hlt)) hj
 have h2:=Array.all_eq_true'.1 h1 e he
 simpa[hb] using h2
theorem Dq {rn:Option Nat}(hM:M.isSome=true)(hB:IZ ops=true):∀(fuel:Nat) (listed:Array Bool) (a:Act) (w:World),iC M w.heap->listed.size=ops.size->jx ops listed->(ax ops listed).length=fuel->
  nj P M L ops (λa w=>Q .normal a w) fuel (ax ops listed) a w->wpAnyIn (FW rn) 0 P .any ops Q fuel listed a w:=by
 have hlt0:=CP hB
 intro fuel
 induction fuel with
 |zero=>
   intro listed a w hG hs hc hl h
   have h0:ax ops listed=[]:=List.length_eq_zero_iff.1 hl
   refine⟨?_,h⟩
   rw[List.eq_nil_iff_forall_not_mem]
   intro j hj
   obtain⟨hu,o,ho,_⟩:=mem_ready.1 hj
   have hlt:j<ops.size:=(KO.1 ho).1
   have:j∈ax ops listed:=K3.2 ⟨KS.2 hlt,by simp[hu]⟩
   rw[h0] at this
   cases this
 |succ fuel ih=>
   intro listed a w hG hs hc hl h
   refine wpAny_first hs hl hlt0 λj oj hoj hu hall=>?_
   have hlt:j<ops.size:=(KO.1 hoj).1
   have hwait:∀i,listed.getD i true=false->i<ops.size->waits (cE ops.toList []) j i=false:=by
    intro i hiu hil
    cases h3:waits (cE ops.toList []) j i with
    |false=>rfl
    |true=>
      have h4:=fD hc hlt0 j i oj hoj hall h3
      have:i<listed.size:=by omega
      simp[this] at hiu h4
      rw[hiu] at h4;cases h4
   have hclosed:jx ops (listed.setIfInBounds j true):=by
    intro q ok hq hql e he hb
    by_cases hqj:j=q
    ·subst hqj
     have:ok=oj:=K1 (hq.symm.trans hoj)
     subst this
     exact getD_set_true (hall e he hb)
    ·rw[getD_set_ne false hqj] at hql
     exact getD_set_true (hc q ok hq hql e he hb)
   have hmem:∀{i:Nat},i∈ax ops listed↔i<ops.size/\listed.getD i true=false:=by
    intro i
    unfold ax
    rw[K3,KS]
    simp
   have hju:j∈ax ops listed:=hmem.2 ⟨hlt,hu⟩
   have hnd:(ax ops listed).Nodup:=List.nodup_range.filter _
   have e4:ax ops (listed.setIfInBounds j true)=eO (ax ops listed) j:=by
    unfold ax eO
    rw[NH]
    refine LM λi hi=>?_
    have hi':i<listed.size:=by rw[hs];exact KS.1 hi
    by_cases hij:i=j
    ·subst hij;simp[hi']
    ·rw[getD_set_ne true (MR hij)]
     have hb:K6 i j=false:=by
      cases q:K6 i j with
      |false=>rfl
      |true=>exact absurd (KX q) hij
     rw[hb];simp
   have hr:ia (cE ops.toList []) (ax ops listed) j=true:=by
    unfold ia
    rw[Lv]
    intro i hi
    obtain⟨q1,q2⟩:=hmem.1 hi
    rw[hwait i q2 q1];rfl
   have hlen:=jr hnd hju
   have h2:=(jj hM _ fuel _ hnd hl).1 j hju hr a w h
   refine pZ hoj hG h2 λa' w' hok hk=>ih _ a' w' hok (by simp[hs]) hclosed (by rw[e4];omega) (by rw[e4];exact hk)
theorem nf {rn:Option Nat}{id:Nat}{a:Act}{w:World}(hm:P.follows .mixedOrders=true)(hM:M.isSome=true)(hB:IZ ops=true)(hG:iC M w.heap)
  (h:nj P M L ops (λa w=>Q .normal a w) ops.size (Lg ops.size) a {w with drawn:=w.drawn+1}):(Code.region id ops true).wpIn (FW rn) 0 P Q a w:=by
 have hu:ax ops (Lz ops.size false)=Lg ops.size:=by
  unfold ax
  rw[L1]
  intro i hi
  have:=KS.1 hi
  simp[this]
 refine wpIn_region_any hm (Dq hM hB ops.size _ a _ hG (by simp) ?_ (by rw[hu];simp) (by rw[hu];exact h))
 intro j oj _ hl
 have:∀j,(Lz ops.size false).getD j false=false:=λj=>by
  rcases Nat.lt_or_ge j ops.size with h|h
  ·simp[h]
  ·simp[h]
 rw[this] at hl
 cases hl
end
end Go.Proofs.YtdpdmbceakdlmaaGreatDoor
