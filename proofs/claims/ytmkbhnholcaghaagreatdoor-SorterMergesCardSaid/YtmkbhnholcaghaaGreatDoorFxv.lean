/-
 Ground, a text behind the first: a region some of whose operations float beside others. The walk takes first what may go first; where none may, it forks over all that are ready.
-/
import Derived.Test.YtmkbhnholcaghaaGreatDoorFxu
open Array renaming getElem?_eq_some_iff->Ow,replicate->QH
open Bool renaming and_eq_true->OB
open Go.Region renaming binds->P4
open List renaming mem_cons->OG,mem_cons_of_mem->OM,mem_cons_self->OO,mem_filter->OY,mem_range->O1,length_cons->O3,all_eq_true->Pw,range->PA,filter_eq_self->P7,filter_congr->P9,filter_filter->Rf,length_pos_iff_exists_mem->Uw
open Nat renaming eq_of_beq_eq_true->OD,beq->OQ
open Ne renaming symm->PR
open Option.some renaming inj->OS
namespace Go.Proofs.YtmkbhnholcaghaaGreatDoor
def iQ (B:List Nat)(l:List Nat)(j:Nat):Bool:=l.all λi=>!(waits B j i)
def Jx (P:Program)(L:List Nat)(ops:Array Oper)(i j:Nat):Bool:=DD ops i λoi=>DD ops j λoj=>cT P L true ops oi oj&&cT P L true ops oj oi
def Dd (P:Program)(L:List Nat)(ops:Array Oper)(B:List Nat)(l:List Nat)(j:Nat):Bool:=iQ B l j&&l.all λi=>OQ i j||(waits B i j||Jx P L ops i j)
def fk (l:List Nat)(j:Nat):List Nat:=l.filter λi=>!(OQ i j)
def nF (t:Nat->Bool):List Nat->Option Nat
 |[]=>none
 |j::l=>bif t j then some j else nF t l
def wi (t:Nat->Bool)(f:Nat->Prop):List Nat->Prop
 |[]=>True
 |j::l=>bif t j then f j/\wi t f l else wi t f l
theorem ky {t:Nat->Bool}:∀{l:List Nat} {j:Nat},nF t l=some j->j∈l/\t j=true
 |[],_,h=>by cases h
 |i::l,j,h=>by
   unfold nF at h;cases a:t i with
   |true=>rw[a] at h;cases h;exact⟨OO,a⟩
   |false=>rw[a] at h;have:=ky (l:=l) h;exact⟨OM _ this.1,this.2⟩
theorem se {t:Nat->Bool}:∀{l:List Nat},nF t l=none->∀j∈l,t j=false
 |[],_,_,a=>by cases a
 |i::l,h,j,a=>by
   unfold nF at h;cases b:t i with
   |true=>rw[b] at h;cases h
   |false=>
     rw[b] at h;rcases OG.1 a with q|q
     ·subst q;exact b
     ·exact se (l:=l) h j q
theorem sG {t:Nat->Bool}{f:Nat->Prop}:∀{l:List Nat} {j:Nat},wi t f l->j∈l->t j=true->f j
 |[],_,_,h,_=>by cases h
 |i::l,j,h,c,a=>by
   unfold wi at h;cases b:t i with
   |true=>
     rw[b] at h;rcases OG.1 c with q|q
     ·subst q;exact h.1
     ·exact sG (l:=l) h.2 q a
   |false=>
     rw[b] at h;rcases OG.1 c with q|q
     ·subst q;rw[b] at a;cases a
     ·exact sG (l:=l) h q a
theorem qn {t:Nat->Bool}{f g:Nat->Prop}:∀{l:List Nat},(∀j∈l,f j->g j)->wi t f l->wi t g l
 |[],_,_=>trivial
 |i::l,hm,h=>by
   unfold wi at h ⊢;cases b:t i with
   |true=>rw[b] at h;exact⟨hm i OO h.1,qn (λj a=>hm j (OM _ a)) h.2⟩
   |false=>rw[b] at h;exact qn (λj a=>hm j (OM _ a)) h
theorem K4 {i j:Nat}(h:i≠j):OQ i j=false:=by
 cases q:OQ i j with
 |false=>rfl
 |true=>exact absurd (OD q) h
theorem Mb (i:Nat):OQ i i=true:=by simp
theorem fK {l:List Nat}{i j:Nat}:i∈fk l j↔i∈l/\i≠j:=by
 unfold fk;rw[OY];by_cases h:i=j
 ·subst h;simp[Mb]
 ·simp[K4 h,h]
theorem uD (l:List Nat)(i j:Nat):fk (fk l i) j=fk (fk l j) i:=by
 unfold fk;rw[Rf,Rf];refine P9 λx _=>?_;exact Bool.and_comm _ _
theorem jS:∀{l:List Nat} {j:Nat},l.Nodup->j∈l->(fk l j).length+1=l.length
 |[],_,_,h=>by cases h
 |i::l,j,a,b=>by
   obtain⟨h1,c⟩:=List.nodup_cons.1 a;unfold fk;rw[List.filter_cons];by_cases e:i=j
   ·subst e;rw[if_neg (by simp[Mb])];have:(l.filter λx=>!(OQ x i))=l:=by
     rw[P7];intro x d;have:x≠i:=λq=>h1 (q▸d);simp[K4 this]
    rw[this];rfl
   ·rw[if_pos (by simp[K4 e]),O3];rcases OG.1 b with q|q
    ·exact absurd q.symm e
    ·have:=jS (l:=l) c q;unfold fk at this;rw[O3];omega
theorem kG {l:List Nat}{j:Nat}(h:l.Nodup):(fk l j).Nodup:=h.filter _
theorem nY {B l:List Nat}{i j:Nat}(h:iQ B l j=true):iQ B (fk l i) j=true:=by
 unfold iQ at*;rw[Pw] at*;exact λx a=>h x (fK.1 a).1
section
variable {P:Program}{M:Option (aa->Prop)}{L:List Nat}{ops:Array Oper}{Q:Exit->Act->World->Prop}
theorem BP {B l:List Nat}{i j:Nat}(h:Dd P L ops B l j=true):Dd P L ops B (fk l i) j=true:=by
 unfold Dd at*;rw[OB] at*;refine⟨nY h.1,?_⟩;have:=h.2;rw[Pw] at*;exact λx a=>this x (fK.1 a).1
theorem uG {B l:List Nat}{j:Nat}(h:Dd P L ops B l j=true):iQ B l j=true:=by
 unfold Dd at h;rw[OB] at h;exact h.1
theorem yv {B l:List Nat}{i j:Nat}(h:Dd P L ops B l j=true)(hi:i∈l)(f:j∈l)(b:i≠j)(g:iQ B l i=true):
  ∃oi oj,ops[i]?=some oi/\ops[j]?=some oj/\cT P L true ops oi oj=true/\cT P L true ops oj oi=true:=by
 unfold Dd at h;rw[OB] at h;have h1:=Pw.1 h.2 i hi;have d:=Pw.1 g j f;simp only[Bool.not_eq_true'] at d;have k:OQ i j=false:=by
  cases q:OQ i j with
  |false=>rfl
  |true=>exact absurd (OD q) b
 rw[k,d] at h1;simp only[Bool.false_or] at h1;unfold Jx at h1;cases e:ops[i]? with
 |none=>unfold DD at h1;rw[e] at h1;cases h1
 |some oi=>
   have a:=gT h1 e;cases e2:ops[j]? with
   |none=>unfold DD at a;rw[e2] at a;cases a
   |some oj=>
     have c:=gT a e2;rw[OB] at c;exact⟨oi,oj,rfl,rfl,c.1,c.2⟩
def oZ (P:Program)(M:Option (aa->Prop))(L:List Nat)(ops:Array Oper)(K:Act->World->Prop):Nat->List Nat->Act->World->Prop
 |0,_=>K
 |n+1,l=>(match nF (Dd P L ops (du ops.toList []) l) l with
   |some j=>bT P M ops.size L ops j (oZ P M L ops K n (fk l j))
   |none=>λa w=>wi (iQ (du ops.toList []) l) (λj=>bT P M ops.size L ops j (oZ P M L ops K n (fk l j)) a w) l)
theorem jJ (hM:M.isSome=true)(K:Act->World->Prop):∀(n:Nat) (l:List Nat),l.Nodup->l.length=n+1->
  (∀j∈l,iQ (du ops.toList []) l j=true->∀a w,oZ P M L ops K (n+1) l a w->bT P M ops.size L ops j (oZ P M L ops K n (fk l j)) a w)/\
  (∀j∈l,Dd P L ops (du ops.toList []) l j=true->∀a w,bT P M ops.size L ops j (oZ P M L ops K n (fk l j)) a w->oZ P M L ops K (n+1) l a w)
 |n,l,hn,hl=>by
   refine⟨λj hj hr a w h=>?_,λj hj hok a w h=>?_⟩
   ·unfold oZ at h;cases hf:nF (Dd P L ops (du ops.toList []) l) l with
    |none=>
      rw[hf] at h;exact sG h hj hr
    |some i=>
      rw[hf] at h;simp only at h;obtain⟨hi,hoi⟩:=ky hf;by_cases hij:j=i
      ·subst hij;exact h
      ·obtain⟨oj,oi,e1,e2,c1,c2⟩:=yv hoi hj hi hij hr;have li:=jS hn hi;have lj:=jS hn hj
       match n,hl,h with
       | 0, hl, h => have : 0 < (fk l i).length := Uw.2 ⟨j, fK.2 ⟨hj, hij⟩⟩
                     omega
       |n+1,hl,h=>
         have hbi:=jJ hM K n (fk l i) (kG hn) (by omega);have hbj:=jJ hM K n (fk l j) (kG hn) (by omega);have h1:=di (λa w hx=>hbi.1 j (fK.2 ⟨hj,hij⟩) (nY hr) a w hx) h;have h2:=nO hM e2 e1 c2 h1;refine di (λa w hx=>hbj.2 i (fK.2 ⟨hi,PR hij⟩) (BP hoi) a w ?_) h2;rw[uD l j i];exact hx
   ·unfold oZ;cases hf:nF (Dd P L ops (du ops.toList []) l) l with
    |none=>
      have:=se hf j hj;rw[hok] at this;cases this
    |some i=>
      simp only;obtain⟨hi,hoi⟩:=ky hf;by_cases hij:j=i
      ·subst hij;exact h
      ·obtain⟨oj,oi,e1,e2,c1,c2⟩:=yv hoi hj hi hij (uG hok);have li:=jS hn hi;have lj:=jS hn hj
       match n,hl,h with
       | 0, hl, h => have : 0 < (fk l i).length := Uw.2 ⟨j, fK.2 ⟨hj, hij⟩⟩
                     omega
       |n+1,hl,h=>
         have hbi:=jJ hM K n (fk l i) (kG hn) (by omega);have hbj:=jJ hM K n (fk l j) (kG hn) (by omega);have h1:=di (λa w hx=>hbj.1 i (fK.2 ⟨hi,PR hij⟩) (nY (uG hoi)) a w hx) h;have h2:=nO hM e1 e2 c1 h1;refine di (λa w hx=>hbi.2 j (fK.2 ⟨hj,hij⟩) (BP hok) a w ?_) h2;rw[uD l i j];exact hx
def LU (ops:Array Oper):Bool:=(PA ops.size).all λj=>DD ops j λoj=>oj.after.all λe=>!P4 .any e||decide (e.on<j)
theorem FQ (h:LU ops=true):∀j oj,ops[j]?=some oj->∀e∈oj.after,P4 .any e=true->e.on<j:=by
 intro j oj b e he c;have a:j<ops.size:=(Ow.1 b).1;have h1:=gT (Pw.1 h j (O1.2 a)) b;have d:=Array.all_eq_true'.1 h1 e he;simpa[c] using d
theorem Fz {rn:Option Nat}(D:M.isSome=true)(E:LU ops=true):∀(fuel:Nat) (listed:Array Bool) (a:Act) (w:World),iU M w.heap->listed.size=ops.size->qp ops listed->(aM ops listed).length=fuel->
  oZ P M L ops (λa w=>Q .normal a w) fuel (aM ops listed) a w->wpAnyIn (FW rn) 0 P .any ops Q fuel listed a w:=by
 have d:=FQ E;intro fuel
 induction fuel with
 |zero=>
   intro listed a w A hs v hl h;have F:aM ops listed=[]:=List.length_eq_zero_iff.1 hl;refine⟨?_,h⟩;rw[List.eq_nil_iff_forall_not_mem];intro j G;obtain⟨hu,o,H,_⟩:=mem_ready.1 G;have k:j<ops.size:=(Ow.1 H).1;have:j∈aM ops listed:=OY.2 ⟨O1.2 k,by simp[hu]⟩;rw[F] at this;cases this
 |succ fuel I=>
   intro listed a w A hs v hl h;refine wpAny_first hs hl d λj oj c hu f=>?_;have k:j<ops.size:=(Ow.1 c).1;have l:∀i,listed.getD i true=false->i<ops.size->waits (du ops.toList []) j i=false:=by
    intro i n J;cases K:waits (du ops.toList []) j i with
    |false=>rfl
    |true=>
      have x:=kC v d j i oj c f K;have:i<listed.size:=by omega
      simp[this] at n x;rw[n] at x;cases x
   have b:qp ops (listed.setIfInBounds j true):=by
    intro q ok B p e he u;by_cases r:j=q
    ·subst r;have:ok=oj:=OS (B.symm.trans c);subst this;exact getD_set_true (f e he u)
    ·rw[getD_set_ne false r] at p;exact getD_set_true (v q ok B p e he u)
   have g:∀{i:Nat},i∈aM ops listed↔i<ops.size/\listed.getD i true=false:=by
    intro i;unfold aM;rw[OY,O1];simp
   have s:j∈aM ops listed:=g.2 ⟨k,hu⟩;have t:(aM ops listed).Nodup:=List.nodup_range.filter _;have C:aM ops (listed.setIfInBounds j true)=fk (aM ops listed) j:=by
    unfold aM fk;rw[Rf];refine P9 λi hi=>?_;have y:i<listed.size:=by rw[hs];exact O1.1 hi
    by_cases m:i=j
    ·subst m;simp[y]
    ·rw[getD_set_ne true (PR m)];have u:OQ i j=false:=by
      cases q:OQ i j with
      |false=>rfl
      |true=>exact absurd (OD q) m
     rw[u];simp
   have N:iQ (du ops.toList []) (aM ops listed) j=true:=by
    unfold iQ;rw[Pw];intro i hi;obtain⟨O,R⟩:=g.1 hi;rw[l i R O];rfl
   have hlen:=jS t s;have S:=(jJ D _ fuel _ t hl).1 j s N a w h;refine rh c A S λT w' z hk=>I _ T w' z (by simp[hs]) b (by rw[C];omega) (by rw[C];exact hk)
theorem pb {rn:Option Nat}{id:Nat}{a:Act}{w:World}(hm:P.follows .mixedOrders=true)(b:M.isSome=true)(c:LU ops=true)(d:iU M w.heap)
  (h:oZ P M L ops (λa w=>Q .normal a w) ops.size (PA ops.size) a {w with drawn:=w.drawn+1}):(Code.region id ops true).wpIn (FW rn) 0 P Q a w:=by
 have hu:aM ops (QH ops.size false)=PA ops.size:=by
  unfold aM;rw[P7];intro i hi;have:=O1.1 hi;simp[this]
 refine wpIn_region_any hm (Fz b c ops.size _ a _ d (by simp) ?_ (by rw[hu];simp) (by rw[hu];exact h));intro j oj _ hl;have:∀j,(QH ops.size false).getD j false=false:=λj=>by
  rcases Nat.lt_or_ge j ops.size with h|h
  ·simp[h]
  ·simp[h]
 rw[this] at hl;cases hl
end
end Go.Proofs.YtmkbhnholcaghaaGreatDoor
