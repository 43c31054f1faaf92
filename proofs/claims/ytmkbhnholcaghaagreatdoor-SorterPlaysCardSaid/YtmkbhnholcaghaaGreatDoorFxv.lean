/-
 Ground, a text behind the first: a region some of whose operations float beside others. The walk takes first what may go first; where none may, it forks over all that are ready.
-/
import Derived.Test.YtmkbhnholcaghaaGreatDoorFxu
open Array renaming getElem?_eq_some_iff->Of,replicate->Qt
open Bool renaming and_eq_true->Oj
open Go.Region renaming binds->PL
open List renaming mem_cons->Oq,mem_cons_of_mem->Ou,mem_cons_self->OA,mem_filter->OK,mem_range->OM,length_cons->ON,all_eq_true->Pb,range->Pk,filter_eq_self->PO,filter_congr->PS,filter_filter->QY,length_pos_iff_exists_mem->Uj
open Nat renaming eq_of_beq_eq_true->Om,beq->OC
open Ne renaming symm->PB
open Option.some renaming inj->OE
namespace Go.Proofs.YtmkbhnholcaghaaGreatDoor
def iM (B:List Nat)(l:List Nat)(j:Nat):Bool:=l.all λi=>!(waits B j i)
def Jt (P:Program)(L:List Nat)(ops:Array Oper)(i j:Nat):Bool:=Dq ops i λoi=>Dq ops j λoj=>cQ P L true ops oi oj&&cQ P L true ops oj oi
def CY (P:Program)(L:List Nat)(ops:Array Oper)(B:List Nat)(l:List Nat)(j:Nat):Bool:=iM B l j&&l.all λi=>OC i j||(waits B i j||Jt P L ops i j)
def fh (l:List Nat)(j:Nat):List Nat:=l.filter λi=>!(OC i j)
def nr (t:Nat->Bool):List Nat->Option Nat
 |[]=>none
 |j::l=>bif t j then some j else nr t l
def vX (t:Nat->Bool)(f:Nat->Prop):List Nat->Prop
 |[]=>True
 |j::l=>bif t j then f j/\vX t f l else vX t f l
theorem kg {t:Nat->Bool}:∀{l:List Nat} {j:Nat},nr t l=some j->j∈l/\t j=true
 |[],_,h=>by cases h
 |i::l,j,h=>by
   unfold nr at h;cases a:t i with
   |true=>rw[a] at h;cases h;exact⟨OA,a⟩
   |false=>rw[a] at h;have:=kg (l:=l) h;exact⟨Ou _ this.1,this.2⟩
theorem rS {t:Nat->Bool}:∀{l:List Nat},nr t l=none->∀j∈l,t j=false
 |[],_,_,a=>by cases a
 |i::l,h,j,a=>by
   unfold nr at h;cases b:t i with
   |true=>rw[b] at h;cases h
   |false=>
     rw[b] at h;rcases Oq.1 a with q|q
     ·subst q;exact b
     ·exact rS (l:=l) h j q
theorem sh {t:Nat->Bool}{f:Nat->Prop}:∀{l:List Nat} {j:Nat},vX t f l->j∈l->t j=true->f j
 |[],_,_,h,_=>by cases h
 |i::l,j,h,c,a=>by
   unfold vX at h;cases b:t i with
   |true=>
     rw[b] at h;rcases Oq.1 c with q|q
     ·subst q;exact h.1
     ·exact sh (l:=l) h.2 q a
   |false=>
     rw[b] at h;rcases Oq.1 c with q|q
     ·subst q;rw[b] at a;cases a
     ·exact sh (l:=l) h q a
theorem qc {t:Nat->Bool}{f g:Nat->Prop}:∀{l:List Nat},(∀j∈l,f j->g j)->vX t f l->vX t g l
 |[],_,_=>trivial
 |i::l,hm,h=>by
   unfold vX at h ⊢;cases b:t i with
   |true=>rw[b] at h;exact⟨hm i OA h.1,qc (λj a=>hm j (Ou _ a)) h.2⟩
   |false=>rw[b] at h;exact qc (λj a=>hm j (Ou _ a)) h
theorem KY {i j:Nat}(h:i≠j):OC i j=false:=by
 cases q:OC i j with
 |false=>rfl
 |true=>exact absurd (Om q) h
theorem LX (i:Nat):OC i i=true:=by simp
theorem fG {l:List Nat}{i j:Nat}:i∈fh l j↔i∈l/\i≠j:=by
 unfold fh;rw[OK];by_cases h:i=j
 ·subst h;simp[LX]
 ·simp[KY h,h]
theorem uo (l:List Nat)(i j:Nat):fh (fh l i) j=fh (fh l j) i:=by
 unfold fh;rw[QY,QY];refine PS λx _=>?_;exact Bool.and_comm _ _
theorem jO:∀{l:List Nat} {j:Nat},l.Nodup->j∈l->(fh l j).length+1=l.length
 |[],_,_,h=>by cases h
 |i::l,j,a,b=>by
   obtain⟨h1,c⟩:=List.nodup_cons.1 a;unfold fh;rw[List.filter_cons];by_cases e:i=j
   ·subst e;rw[if_neg (by simp[LX])];have:(l.filter λx=>!(OC x i))=l:=by
     rw[PO];intro x d;have:x≠i:=λq=>h1 (q▸d);simp[KY this]
    rw[this];rfl
   ·rw[if_pos (by simp[KY e]),ON];rcases Oq.1 b with q|q
    ·exact absurd q.symm e
    ·have:=jO (l:=l) c q;unfold fh at this;rw[ON];omega
theorem kx {l:List Nat}{j:Nat}(h:l.Nodup):(fh l j).Nodup:=h.filter _
theorem nR {B l:List Nat}{i j:Nat}(h:iM B l j=true):iM B (fh l i) j=true:=by
 unfold iM at*;rw[Pb] at*;exact λx a=>h x (fG.1 a).1
section
variable {P:Program}{M:Option (aa->Prop)}{L:List Nat}{ops:Array Oper}{Q:Exit->Act->World->Prop}
theorem BC {B l:List Nat}{i j:Nat}(h:CY P L ops B l j=true):CY P L ops B (fh l i) j=true:=by
 unfold CY at*;rw[Oj] at*;refine⟨nR h.1,?_⟩;have:=h.2;rw[Pb] at*;exact λx a=>this x (fG.1 a).1
theorem uu {B l:List Nat}{j:Nat}(h:CY P L ops B l j=true):iM B l j=true:=by
 unfold CY at h;rw[Oj] at h;exact h.1
theorem yh {B l:List Nat}{i j:Nat}(h:CY P L ops B l j=true)(hi:i∈l)(f:j∈l)(b:i≠j)(g:iM B l i=true):
  ∃oi oj,ops[i]?=some oi/\ops[j]?=some oj/\cQ P L true ops oi oj=true/\cQ P L true ops oj oi=true:=by
 unfold CY at h;rw[Oj] at h;have h1:=Pb.1 h.2 i hi;have d:=Pb.1 g j f;simp only[Bool.not_eq_true'] at d;have k:OC i j=false:=by
  cases q:OC i j with
  |false=>rfl
  |true=>exact absurd (Om q) b
 rw[k,d] at h1;simp only[Bool.false_or] at h1;unfold Jt at h1;cases e:ops[i]? with
 |none=>unfold Dq at h1;rw[e] at h1;cases h1
 |some oi=>
   have a:=gQ h1 e;cases e2:ops[j]? with
   |none=>unfold Dq at a;rw[e2] at a;cases a
   |some oj=>
     have c:=gQ a e2;rw[Oj] at c;exact⟨oi,oj,rfl,rfl,c.1,c.2⟩
def oS (P:Program)(M:Option (aa->Prop))(L:List Nat)(ops:Array Oper)(K:Act->World->Prop):Nat->List Nat->Act->World->Prop
 |0,_=>K
 |n+1,l=>(match nr (CY P L ops (dr ops.toList []) l) l with
   |some j=>bS P M ops.size L ops j (oS P M L ops K n (fh l j))
   |none=>λa w=>vX (iM (dr ops.toList []) l) (λj=>bS P M ops.size L ops j (oS P M L ops K n (fh l j)) a w) l)
theorem jF (hM:M.isSome=true)(K:Act->World->Prop):∀(n:Nat) (l:List Nat),l.Nodup->l.length=n+1->
  (∀j∈l,iM (dr ops.toList []) l j=true->∀a w,oS P M L ops K (n+1) l a w->bS P M ops.size L ops j (oS P M L ops K n (fh l j)) a w)/\
  (∀j∈l,CY P L ops (dr ops.toList []) l j=true->∀a w,bS P M ops.size L ops j (oS P M L ops K n (fh l j)) a w->oS P M L ops K (n+1) l a w)
 |n,l,hn,hl=>by
   refine⟨λj hj hr a w h=>?_,λj hj hok a w h=>?_⟩
   ·unfold oS at h;cases hf:nr (CY P L ops (dr ops.toList []) l) l with
    |none=>
      rw[hf] at h;exact sh h hj hr
    |some i=>
      rw[hf] at h;simp only at h;obtain⟨hi,hoi⟩:=kg hf;by_cases hij:j=i
      ·subst hij;exact h
      ·obtain⟨oj,oi,e1,e2,c1,c2⟩:=yh hoi hj hi hij hr;have li:=jO hn hi;have lj:=jO hn hj
       match n,hl,h with
       | 0, hl, h => have : 0 < (fh l i).length := Uj.2 ⟨j, fG.2 ⟨hj, hij⟩⟩
                     omega
       |n+1,hl,h=>
         have hbi:=jF hM K n (fh l i) (kx hn) (by omega);have hbj:=jF hM K n (fh l j) (kx hn) (by omega);have h1:=dh (λa w hx=>hbi.1 j (fG.2 ⟨hj,hij⟩) (nR hr) a w hx) h;have h2:=nF hM e2 e1 c2 h1;refine dh (λa w hx=>hbj.2 i (fG.2 ⟨hi,PB hij⟩) (BC hoi) a w ?_) h2;rw[uo l j i];exact hx
   ·unfold oS;cases hf:nr (CY P L ops (dr ops.toList []) l) l with
    |none=>
      have:=rS hf j hj;rw[hok] at this;cases this
    |some i=>
      simp only;obtain⟨hi,hoi⟩:=kg hf;by_cases hij:j=i
      ·subst hij;exact h
      ·obtain⟨oj,oi,e1,e2,c1,c2⟩:=yh hoi hj hi hij (uu hok);have li:=jO hn hi;have lj:=jO hn hj
       match n,hl,h with
       | 0, hl, h => have : 0 < (fh l i).length := Uj.2 ⟨j, fG.2 ⟨hj, hij⟩⟩
                     omega
       |n+1,hl,h=>
         have hbi:=jF hM K n (fh l i) (kx hn) (by omega);have hbj:=jF hM K n (fh l j) (kx hn) (by omega);have h1:=dh (λa w hx=>hbj.1 i (fG.2 ⟨hi,PB hij⟩) (nR (uu hoi)) a w hx) h;have h2:=nF hM e1 e2 c1 h1;refine dh (λa w hx=>hbi.2 j (fG.2 ⟨hj,hij⟩) (BC hok) a w ?_) h2;rw[uo l i j];exact hx
def LK (ops:Array Oper):Bool:=(Pk ops.size).all λj=>Dq ops j λoj=>oj.after.all λe=>!PL .any e||decide (e.on<j)
theorem FH (h:LK ops=true):∀j oj,ops[j]?=some oj->∀e∈oj.after,PL .any e=true->e.on<j:=by
 intro j oj b e he c;have a:j<ops.size:=(Of.1 b).1;have h1:=gQ (Pb.1 h j (OM.2 a)) b;have d:=Array.all_eq_true'.1 h1 e he;simpa[c] using d
theorem Fk {rn:Option Nat}(D:M.isSome=true)(E:LK ops=true):∀(fuel:Nat) (listed:Array Bool) (a:Act) (w:World),iS M w.heap->listed.size=ops.size->qe ops listed->(aN ops listed).length=fuel->
  oS P M L ops (λa w=>Q .normal a w) fuel (aN ops listed) a w->wpAnyIn (FW rn) 0 P .any ops Q fuel listed a w:=by
 have d:=FH E;intro fuel
 induction fuel with
 |zero=>
   intro listed a w A hs v hl h;have F:aN ops listed=[]:=List.length_eq_zero_iff.1 hl;refine⟨?_,h⟩;rw[List.eq_nil_iff_forall_not_mem];intro j G;obtain⟨hu,o,H,_⟩:=mem_ready.1 G;have k:j<ops.size:=(Of.1 H).1;have:j∈aN ops listed:=OK.2 ⟨OM.2 k,by simp[hu]⟩;rw[F] at this;cases this
 |succ fuel I=>
   intro listed a w A hs v hl h;refine wpAny_first hs hl d λj oj c hu f=>?_;have k:j<ops.size:=(Of.1 c).1;have l:∀i,listed.getD i true=false->i<ops.size->waits (dr ops.toList []) j i=false:=by
    intro i n J;cases K:waits (dr ops.toList []) j i with
    |false=>rfl
    |true=>
      have x:=kq v d j i oj c f K;have:i<listed.size:=by omega
      simp[this] at n x;rw[n] at x;cases x
   have b:qe ops (listed.setIfInBounds j true):=by
    intro q ok B p e he u;by_cases r:j=q
    ·subst r;have:ok=oj:=OE (B.symm.trans c);subst this;exact getD_set_true (f e he u)
    ·rw[getD_set_ne false r] at p;exact getD_set_true (v q ok B p e he u)
   have g:∀{i:Nat},i∈aN ops listed↔i<ops.size/\listed.getD i true=false:=by
    intro i;unfold aN;rw[OK,OM];simp
   have s:j∈aN ops listed:=g.2 ⟨k,hu⟩;have t:(aN ops listed).Nodup:=List.nodup_range.filter _;have C:aN ops (listed.setIfInBounds j true)=fh (aN ops listed) j:=by
    unfold aN fh;rw[QY];refine PS λi hi=>?_;have y:i<listed.size:=by rw[hs];exact OM.1 hi
    by_cases m:i=j
    ·subst m;simp[y]
    ·rw[getD_set_ne true (PB m)];have u:OC i j=false:=by
      cases q:OC i j with
      |false=>rfl
      |true=>exact absurd (Om q) m
     rw[u];simp
   have N:iM (dr ops.toList []) (aN ops listed) j=true:=by
    unfold iM;rw[Pb];intro i hi;obtain⟨O,R⟩:=g.1 hi;rw[l i R O];rfl
   have hlen:=jO t s;have S:=(jF D _ fuel _ t hl).1 j s N a w h;refine qW c A S λT w' z hk=>I _ T w' z (by simp[hs]) b (by rw[C];omega) (by rw[C];exact hk)
theorem oV {rn:Option Nat}{id:Nat}{a:Act}{w:World}(hm:P.follows .mixedOrders=true)(b:M.isSome=true)(c:LK ops=true)(d:iS M w.heap)
  (h:oS P M L ops (λa w=>Q .normal a w) ops.size (Pk ops.size) a {w with drawn:=w.drawn+1}):(Code.region id ops true).wpIn (FW rn) 0 P Q a w:=by
 have hu:aN ops (Qt ops.size false)=Pk ops.size:=by
  unfold aN;rw[PO];intro i hi;have:=OM.1 hi;simp[this]
 refine wpIn_region_any hm (Fk b c ops.size _ a _ d (by simp) ?_ (by rw[hu];simp) (by rw[hu];exact h));intro j oj _ hl;have:∀j,(Qt ops.size false).getD j false=false:=λj=>by
  rcases Nat.lt_or_ge j ops.size with h|h
  ·simp[h]
  ·simp[h]
 rw[this] at hl;cases hl
end
end Go.Proofs.YtmkbhnholcaghaaGreatDoor
