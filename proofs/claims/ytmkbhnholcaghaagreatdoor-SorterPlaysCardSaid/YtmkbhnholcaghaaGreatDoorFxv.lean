/-
 Ground, a text behind the first: a region some of whose operations float beside others. The walk takes first what may go first; where none may, it forks over all that are ready.
-/
import Derived.Test.YtmkbhnholcaghaaGreatDoorFxu
open Array renaming getElem?_eq_some_iff->N7,replicate->Qj
open Bool renaming and_eq_true->Ob
open Go.Region renaming binds->PC
open List renaming mem_cons->Of,mem_cons_of_mem->Oh,mem_cons_self->Oq,mem_filter->OC,mem_range->OD,length_cons->OF,all_eq_true->O3,range->Pa,filter_eq_self->PF,filter_congr->PJ,filter_filter->QP,length_pos_iff_exists_mem->Ub
open Nat renaming eq_of_beq_eq_true->Od,beq->Ou
open Ne renaming symm->Pt
open Option.some renaming inj->Ow
namespace Go.Proofs.YtmkbhnholcaghaaGreatDoor
def iK (B:List Nat)(l:List Nat)(j:Nat):Bool:=l.all λi=>!(waits B j i)
def Jj (P:Program)(L:List Nat)(ops:Array Oper)(i j:Nat):Bool:=Dl ops i λoi=>Dl ops j λoj=>cP P L true ops oi oj&&cP P L true ops oj oi
def CV (P:Program)(L:List Nat)(ops:Array Oper)(B:List Nat)(l:List Nat)(j:Nat):Bool:=iK B l j&&l.all λi=>Ou i j||(waits B i j||Jj P L ops i j)
def fg (l:List Nat)(j:Nat):List Nat:=l.filter λi=>!(Ou i j)
def nj (t:Nat->Bool):List Nat->Option Nat
 |[]=>none
 |j::l=>bif t j then some j else nj t l
def vU (t:Nat->Bool)(f:Nat->Prop):List Nat->Prop
 |[]=>True
 |j::l=>bif t j then f j/\vU t f l else vU t f l
theorem ke {t:Nat->Bool}:∀{l:List Nat} {j:Nat},nj t l=some j->j∈l/\t j=true
 |[],_,h=>by cases h
 |i::l,j,h=>by
   unfold nj at h;cases a:t i with
   |true=>rw[a] at h;cases h;exact⟨Oq,a⟩
   |false=>rw[a] at h;have:=ke (l:=l) h;exact⟨Oh _ this.1,this.2⟩
theorem rQ {t:Nat->Bool}:∀{l:List Nat},nj t l=none->∀j∈l,t j=false
 |[],_,_,a=>by cases a
 |i::l,h,j,a=>by
   unfold nj at h;cases b:t i with
   |true=>rw[b] at h;cases h
   |false=>
     rw[b] at h;rcases Of.1 a with q|q
     ·subst q;exact b
     ·exact rQ (l:=l) h j q
theorem sf {t:Nat->Bool}{f:Nat->Prop}:∀{l:List Nat} {j:Nat},vU t f l->j∈l->t j=true->f j
 |[],_,_,h,_=>by cases h
 |i::l,j,h,c,a=>by
   unfold vU at h;cases b:t i with
   |true=>
     rw[b] at h;rcases Of.1 c with q|q
     ·subst q;exact h.1
     ·exact sf (l:=l) h.2 q a
   |false=>
     rw[b] at h;rcases Of.1 c with q|q
     ·subst q;rw[b] at a;cases a
     ·exact sf (l:=l) h q a
theorem qa {t:Nat->Bool}{f g:Nat->Prop}:∀{l:List Nat},(∀j∈l,f j->g j)->vU t f l->vU t g l
 |[],_,_=>trivial
 |i::l,hm,h=>by
   unfold vU at h ⊢;cases b:t i with
   |true=>rw[b] at h;exact⟨hm i Oq h.1,qa (λj a=>hm j (Oh _ a)) h.2⟩
   |false=>rw[b] at h;exact qa (λj a=>hm j (Oh _ a)) h
theorem KT {i j:Nat}(h:i≠j):Ou i j=false:=by
 cases q:Ou i j with
 |false=>rfl
 |true=>exact absurd (Od q) h
theorem LP (i:Nat):Ou i i=true:=by simp
theorem fF {l:List Nat}{i j:Nat}:i∈fg l j↔i∈l/\i≠j:=by
 unfold fg;rw[OC];by_cases h:i=j
 ·subst h;simp[LP]
 ·simp[KT h,h]
theorem um (l:List Nat)(i j:Nat):fg (fg l i) j=fg (fg l j) i:=by
 unfold fg;rw[QP,QP];refine PJ λx _=>?_;exact Bool.and_comm _ _
theorem jM:∀{l:List Nat} {j:Nat},l.Nodup->j∈l->(fg l j).length+1=l.length
 |[],_,_,h=>by cases h
 |i::l,j,a,b=>by
   obtain⟨h1,c⟩:=List.nodup_cons.1 a;unfold fg;rw[List.filter_cons];by_cases e:i=j
   ·subst e;rw[if_neg (by simp[LP])];have:(l.filter λx=>!(Ou x i))=l:=by
     rw[PF];intro x d;have:x≠i:=λq=>h1 (q▸d);simp[KT this]
    rw[this];rfl
   ·rw[if_pos (by simp[KT e]),OF];rcases Of.1 b with q|q
    ·exact absurd q.symm e
    ·have:=jM (l:=l) c q;unfold fg at this;rw[OF];omega
theorem ks {l:List Nat}{j:Nat}(h:l.Nodup):(fg l j).Nodup:=h.filter _
theorem nP {B l:List Nat}{i j:Nat}(h:iK B l j=true):iK B (fg l i) j=true:=by
 unfold iK at*;rw[O3] at*;exact λx a=>h x (fF.1 a).1
section
variable {P:Program}{M:Option (aa->Prop)}{L:List Nat}{ops:Array Oper}{Q:Exit->Act->World->Prop}
theorem Bz {B l:List Nat}{i j:Nat}(h:CV P L ops B l j=true):CV P L ops B (fg l i) j=true:=by
 unfold CV at*;rw[Ob] at*;refine⟨nP h.1,?_⟩;have:=h.2;rw[O3] at*;exact λx a=>this x (fF.1 a).1
theorem ur {B l:List Nat}{j:Nat}(h:CV P L ops B l j=true):iK B l j=true:=by
 unfold CV at h;rw[Ob] at h;exact h.1
theorem yc {B l:List Nat}{i j:Nat}(h:CV P L ops B l j=true)(hi:i∈l)(f:j∈l)(b:i≠j)(g:iK B l i=true):
  ∃oi oj,ops[i]?=some oi/\ops[j]?=some oj/\cP P L true ops oi oj=true/\cP P L true ops oj oi=true:=by
 unfold CV at h;rw[Ob] at h;have h1:=O3.1 h.2 i hi;have d:=O3.1 g j f;simp only[Bool.not_eq_true'] at d;have k:Ou i j=false:=by
  cases q:Ou i j with
  |false=>rfl
  |true=>exact absurd (Od q) b
 rw[k,d] at h1;simp only[Bool.false_or] at h1;unfold Jj at h1;cases e:ops[i]? with
 |none=>unfold Dl at h1;rw[e] at h1;cases h1
 |some oi=>
   have a:=gP h1 e;cases e2:ops[j]? with
   |none=>unfold Dl at a;rw[e2] at a;cases a
   |some oj=>
     have c:=gP a e2;rw[Ob] at c;exact⟨oi,oj,rfl,rfl,c.1,c.2⟩
def oQ (P:Program)(M:Option (aa->Prop))(L:List Nat)(ops:Array Oper)(K:Act->World->Prop):Nat->List Nat->Act->World->Prop
 |0,_=>K
 |n+1,l=>(match nj (CV P L ops (dq ops.toList []) l) l with
   |some j=>bS P M ops.size L ops j (oQ P M L ops K n (fg l j))
   |none=>λa w=>vU (iK (dq ops.toList []) l) (λj=>bS P M ops.size L ops j (oQ P M L ops K n (fg l j)) a w) l)
theorem jD (hM:M.isSome=true)(K:Act->World->Prop):∀(n:Nat) (l:List Nat),l.Nodup->l.length=n+1->
  (∀j∈l,iK (dq ops.toList []) l j=true->∀a w,oQ P M L ops K (n+1) l a w->bS P M ops.size L ops j (oQ P M L ops K n (fg l j)) a w)/\
  (∀j∈l,CV P L ops (dq ops.toList []) l j=true->∀a w,bS P M ops.size L ops j (oQ P M L ops K n (fg l j)) a w->oQ P M L ops K (n+1) l a w)
 |n,l,hn,hl=>by
   refine⟨λj hj hr a w h=>?_,λj hj hok a w h=>?_⟩
   ·unfold oQ at h;cases hf:nj (CV P L ops (dq ops.toList []) l) l with
    |none=>
      rw[hf] at h;exact sf h hj hr
    |some i=>
      rw[hf] at h;simp only at h;obtain⟨hi,hoi⟩:=ke hf;by_cases hij:j=i
      ·subst hij;exact h
      ·obtain⟨oj,oi,e1,e2,c1,c2⟩:=yc hoi hj hi hij hr;have li:=jM hn hi;have lj:=jM hn hj
       match n,hl,h with
       | 0, hl, h => have : 0 < (fg l i).length := Ub.2 ⟨j, fF.2 ⟨hj, hij⟩⟩
                     omega
       |n+1,hl,h=>
         have hbi:=jD hM K n (fg l i) (ks hn) (by omega);have hbj:=jD hM K n (fg l j) (ks hn) (by omega);have h1:=df (λa w hx=>hbi.1 j (fF.2 ⟨hj,hij⟩) (nP hr) a w hx) h;have h2:=nD hM e2 e1 c2 h1;refine df (λa w hx=>hbj.2 i (fF.2 ⟨hi,Pt hij⟩) (Bz hoi) a w ?_) h2;rw[um l j i];exact hx
   ·unfold oQ;cases hf:nj (CV P L ops (dq ops.toList []) l) l with
    |none=>
      have:=rQ hf j hj;rw[hok] at this;cases this
    |some i=>
      simp only;obtain⟨hi,hoi⟩:=ke hf;by_cases hij:j=i
      ·subst hij;exact h
      ·obtain⟨oj,oi,e1,e2,c1,c2⟩:=yc hoi hj hi hij (ur hok);have li:=jM hn hi;have lj:=jM hn hj
       match n,hl,h with
       | 0, hl, h => have : 0 < (fg l i).length := Ub.2 ⟨j, fF.2 ⟨hj, hij⟩⟩
                     omega
       |n+1,hl,h=>
         have hbi:=jD hM K n (fg l i) (ks hn) (by omega);have hbj:=jD hM K n (fg l j) (ks hn) (by omega);have h1:=df (λa w hx=>hbj.1 i (fF.2 ⟨hi,Pt hij⟩) (nP (ur hoi)) a w hx) h;have h2:=nD hM e1 e2 c1 h1;refine df (λa w hx=>hbi.2 j (fF.2 ⟨hj,hij⟩) (Bz hok) a w ?_) h2;rw[um l i j];exact hx
def LC (ops:Array Oper):Bool:=(Pa ops.size).all λj=>Dl ops j λoj=>oj.after.all λe=>!PC .any e||decide (e.on<j)
theorem FC (h:LC ops=true):∀j oj,ops[j]?=some oj->∀e∈oj.after,PC .any e=true->e.on<j:=by
 intro j oj b e he c;have a:j<ops.size:=(N7.1 b).1;have h1:=gP (O3.1 h j (OD.2 a)) b;have d:=Array.all_eq_true'.1 h1 e he;simpa[c] using d
theorem Ff {rn:Option Nat}(D:M.isSome=true)(E:LC ops=true):∀(fuel:Nat) (listed:Array Bool) (a:Act) (w:World),iQ M w.heap->listed.size=ops.size->qc ops listed->(aN ops listed).length=fuel->
  oQ P M L ops (λa w=>Q .normal a w) fuel (aN ops listed) a w->wpAnyIn (FW rn) 0 P .any ops Q fuel listed a w:=by
 have d:=FC E;intro fuel
 induction fuel with
 |zero=>
   intro listed a w A hs v hl h;have F:aN ops listed=[]:=List.length_eq_zero_iff.1 hl;refine⟨?_,h⟩;rw[List.eq_nil_iff_forall_not_mem];intro j G;obtain⟨hu,o,H,_⟩:=mem_ready.1 G;have k:j<ops.size:=(N7.1 H).1;have:j∈aN ops listed:=OC.2 ⟨OD.2 k,by simp[hu]⟩;rw[F] at this;cases this
 |succ fuel I=>
   intro listed a w A hs v hl h;refine wpAny_first hs hl d λj oj c hu f=>?_;have k:j<ops.size:=(N7.1 c).1;have l:∀i,listed.getD i true=false->i<ops.size->waits (dq ops.toList []) j i=false:=by
    intro i n J;cases K:waits (dq ops.toList []) j i with
    |false=>rfl
    |true=>
      have x:=kj v d j i oj c f K;have:i<listed.size:=by omega
      simp[this] at n x;rw[n] at x;cases x
   have b:qc ops (listed.setIfInBounds j true):=by
    intro q ok B p e he u;by_cases r:j=q
    ·subst r;have:ok=oj:=Ow (B.symm.trans c);subst this;exact getD_set_true (f e he u)
    ·rw[getD_set_ne false r] at p;exact getD_set_true (v q ok B p e he u)
   have g:∀{i:Nat},i∈aN ops listed↔i<ops.size/\listed.getD i true=false:=by
    intro i;unfold aN;rw[OC,OD];simp
   have s:j∈aN ops listed:=g.2 ⟨k,hu⟩;have t:(aN ops listed).Nodup:=List.nodup_range.filter _;have C:aN ops (listed.setIfInBounds j true)=fg (aN ops listed) j:=by
    unfold aN fg;rw[QP];refine PJ λi hi=>?_;have y:i<listed.size:=by rw[hs];exact OD.1 hi
    by_cases m:i=j
    ·subst m;simp[y]
    ·rw[getD_set_ne true (Pt m)];have u:Ou i j=false:=by
      cases q:Ou i j with
      |false=>rfl
      |true=>exact absurd (Od q) m
     rw[u];simp
   have N:iK (dq ops.toList []) (aN ops listed) j=true:=by
    unfold iK;rw[O3];intro i hi;obtain⟨O,R⟩:=g.1 hi;rw[l i R O];rfl
   have hlen:=jM t s;have S:=(jD D _ fuel _ t hl).1 j s N a w h;refine qV c A S λT w' z hk=>I _ T w' z (by simp[hs]) b (by rw[C];omega) (by rw[C];exact hk)
theorem oT {rn:Option Nat}{id:Nat}{a:Act}{w:World}(hm:P.follows .mixedOrders=true)(b:M.isSome=true)(c:LC ops=true)(d:iQ M w.heap)
  (h:oQ P M L ops (λa w=>Q .normal a w) ops.size (Pa ops.size) a {w with drawn:=w.drawn+1}):(Code.region id ops true).wpIn (FW rn) 0 P Q a w:=by
 have hu:aN ops (Qj ops.size false)=Pa ops.size:=by
  unfold aN;rw[PF];intro i hi;have:=OD.1 hi;simp[this]
 refine wpIn_region_any hm (Ff b c ops.size _ a _ d (by simp) ?_ (by rw[hu];simp) (by rw[hu];exact h));intro j oj _ hl;have:∀j,(Qj ops.size false).getD j false=false:=λj=>by
  rcases Nat.lt_or_ge j ops.size with h|h
  ·simp[h]
  ·simp[h]
 rw[this] at hl;cases hl
end
end Go.Proofs.YtmkbhnholcaghaaGreatDoor
