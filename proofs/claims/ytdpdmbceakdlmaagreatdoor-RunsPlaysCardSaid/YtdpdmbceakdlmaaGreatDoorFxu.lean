/-
 Ground, a text behind the first: a region in which one effect floats beside others: it may go ahead of any of those that do not wait for it. The walk serves every order if it serves each place of that one.
-/
import Derived.Test.YtdpdmbceakdlmaaGreatDoorFxa
namespace Go.Proofs.YtdpdmbceakdlmaaGreatDoor
section
variable {P:Program} {M:Option (Heap→Prop)} {L:List Nat} {ops:Array Oper} {Q:Exit→Act→World→Prop}
def fR (P:Program) (L:List Nat) (o:Oper):Bool:=db P L o==0||db P L o==1
def E3 (ops:Array Oper) (i:Nat) (t:Oper→Bool):Bool:=match ops[i]? with|some o=>t o|none=>false
theorem jS {i:Nat} {t:Oper→Bool} {o:Oper} (h:E3 ops i t=true) (ho:ops[i]?=some o):t o=true:=by
 unfold E3 at h;rw[ho] at h;exact h
def pv (P:Program) (L:List Nat) (ops:Array Oper) (f c:Nat) (B:List Nat):Bool:=
 decide (f<c)&&decide (c<ops.size)&&waits B c f&&
 (List.range ops.size).all fun j=>E3 ops j fun oj=>
  (oj.after.all fun e=>!Region.binds .any e||decide (e.on<j))&&
  ((List.range j).all fun i=>i==f||j==f||E3 ops i (fun oi=>cU P L true ops oi oj||waits B j i))&&
  E3 ops f (fun of=>(bif Nat.blt j f then cU P L true ops oj of||waits B f j else
   bif Nat.beq j f then true else
   bif Nat.blt j c then !(waits B j f)&&(!(fR P L oj)||(cU P L true ops of oj&&cU P L true ops oj of))
   else (waits B j f||cU P L true ops of oj)))
structure y9 (P:Program) (L:List Nat) (ops:Array Oper) (f c:Nat):Prop where
 fc:f<c
 cn:c<ops.size
 wait:waits (eZ ops.toList []) c f=true
 lt:∀j oj,ops[j]?=some oj→∀e∈oj.after,Region.binds .any e=true→e.on<j
 pair:∀i j oi oj,ops[i]?=some oi→ops[j]?=some oj→i<j→i≠f→j≠f→cU P L true ops oi oj=true∨waits (eZ ops.toList []) j i=true
 below:∀i oi of,ops[i]?=some oi→ops[f]?=some of→i<f→cU P L true ops oi of=true∨waits (eZ ops.toList []) f i=true
 mid:∀i oi of,ops[i]?=some oi→ops[f]?=some of→f<i→i<c→waits (eZ ops.toList []) i f=false∧(fR P L oi=true→cU P L true ops of oi=true∧cU P L true ops oi of=true)
 above:∀i oi of,ops[i]?=some oi→ops[f]?=some of→c≤i→waits (eZ ops.toList []) i f=true∨cU P L true ops of oi=true
theorem nJ {f c:Nat} (h:pv P L ops f c (eZ ops.toList [])=true):y9 P L ops f c:=by
 unfold pv at h
 simp only[Bool.and_eq_true,decide_eq_true_eq] at h
 obtain⟨⟨⟨h1,h2⟩,h3⟩,h4⟩:=h
 have key:∀j oj,ops[j]?=some oj→_:=fun j oj hj=>by
  have hlt:j<ops.size:=(Array.getElem?_eq_some_iff.1 hj).1
  exact jS (List.all_eq_true.1 h4 j (List.mem_range.2 hlt)) hj
 simp only[Bool.and_eq_true] at key
 refine⟨h1,h2,h3,?_,?_,?_,?_,?_⟩
 ·intro j oj hj e he hb
  have:=Array.all_eq_true_iff_forall_mem.1 (key j oj hj).1.1 e he
  simpa[hb] using this
 ·intro i j oi oj hi hj hij hif hjf
  have:=List.all_eq_true.1 (key j oj hj).1.2 i (List.mem_range.2 hij)
  simp only[Bool.or_eq_true,beq_iff_eq] at this
  rcases this with (q|q)|q
  ·exact absurd q hif
  ·exact absurd q hjf
  ·have:=jS q hi
   simpa[Bool.or_eq_true] using this
 ·intro i oi of hi hf hlt
  have:=jS (key i oi hi).2 hf
  rw[eT.2 hlt] at this
  simpa[Bool.or_eq_true] using this
 ·intro i oi of hi hf hfi hic
  have:=jS (key i oi hi).2 hf
  rw[uy (by omega:¬i<f),eT.2 hic] at this
  have hb:Nat.beq i f=false:=by
   cases q:Nat.beq i f with
   |false=>rfl
   |true=>have:=Nat.eq_of_beq_eq_true q;omega
  rw[hb] at this
  simp only[cond_false,cond_true,Bool.and_eq_true,Bool.or_eq_true,Bool.not_eq_true'] at this
  refine⟨this.1,fun hc=>?_⟩
  rcases this.2 with q|q
  ·rw[hc] at q;cases q
  ·exact q
 ·intro i oi of hi hf hci
  have:=jS (key i oi hi).2 hf
  rw[uy (by omega:¬i<f),uy (by omega:¬i<c)] at this
  have hb:Nat.beq i f=false:=by
   cases q:Nat.beq i f with
   |false=>rfl
   |true=>have:=Nat.eq_of_beq_eq_true q;omega
  rw[hb] at this
  simpa[Bool.or_eq_true] using this
theorem vj {m:Bool} {x y:Oper} (h:cU P L m ops x y=true):fR P L x=true∨fR P L y=true:=by
 obtain⟨_,h2,_⟩:=kU h
 unfold fR
 rcases h2 with q|q|⟨q,_⟩|⟨_,q|q⟩
 ·left;simp[q]
 ·right;simp[q]
 ·left;simp[q]
 ·left;simp[q]
 ·right;simp[q]
theorem fH {K:Act→World→Prop} {j:Nat} (hM:M.isSome=true):∀(l1 l2:List Nat),(∀i∈l1,∃oi oj,ops[i]?=some oi∧ops[j]?=some oj∧cU P L true ops oi oj=true)→
  ∀a w,dO P M ops.size L ops K (l1++j::l2) a w→bT P M ops.size L ops j (dO P M ops.size L ops K (l1++l2)) a w
 |[],l2,_,a,w,h=>h
 |i::l1,l2,hc,a,w,h=>by
   have h1:bT P M ops.size L ops i (bT P M ops.size L ops j (dO P M ops.size L ops K (l1++l2))) a w:=eY (fH hM l1 l2 (fun k hk=>hc k (List.mem_cons_of_mem _ hk))) h
   obtain⟨oi,oj,hi,hj,hcm⟩:=hc i List.mem_cons_self
   have mi:mu M ops.size i=M:=by unfold mu;rw[eT.2 (Array.getElem?_eq_some_iff.1 hi).1];rfl
   have mj:mu M ops.size j=M:=by unfold mu;rw[eT.2 (Array.getElem?_eq_some_iff.1 hj).1];rfl
   have e:∀K',bT P M ops.size L ops i K'=ej P M L ops oi K':=fun K'=>by funext a w;simp only[bT,hi,mi]
   have e':∀K',bT P M ops.size L ops j K'=ej P M L ops oj K':=fun K'=>by funext a w;simp only[bT,hj,mj]
   rw[e,e'] at h1
   have h2:=mY hcm (fun _=>⟨rfl,hM⟩) h1
   simp only[List.cons_append,dO]
   rw[e,e']
   exact h2
theorem rA {rn:Option Nat} {fuel j:Nat} {listed:Array Bool} {a:Act} {w:World} {X:Act→World→Prop} {oj:Oper} (hoj:ops[j]?=some oj) (hok:im M w.heap)
  (h:bT P M ops.size L ops j X a w) (go:∀a' w',im M w'.heap→X a' w'→wpAnyIn (FW rn) 0 P .any ops Q fuel (listed.setIfInBounds j true) a' w'):
  wpOpIn (FW rn) 0 P ops Q j (fun a w=>wpAnyIn (FW rn) 0 P .any ops Q fuel (listed.setIfInBounds j true) a w) a w:=by
 have mj:mu M ops.size j=M:=by unfold mu;rw[eT.2 (Array.getElem?_eq_some_iff.1 hoj).1];rfl
 have h3:bT P M ops.size L ops j (fun a w=>im M w.heap∧X a w) a w:=by
  unfold bT at h ⊢
  rw[hoj] at h ⊢
  exact mN hok (.inr (.inr mj)) h
 exact iR (fun _ _ _ _=>hok) (eY (fun a' w' h5=>go a' w' h5.1 h5.2) h3)
theorem wpAny_first {rn:Option Nat} {fuel:Nat} {listed:Array Bool} {a:Act} {w:World} (hs:listed.size=ops.size) (hl:(aY ops listed).length=fuel+1) (hlt:∀j oj,ops[j]?=some oj→∀e∈oj.after,Region.binds .any e=true→e.on<j)
  (h:∀j oj,ops[j]?=some oj→listed.getD j true=false→(∀e∈oj.after,Region.binds .any e=true→listed.getD e.on false=true)→wpOpIn (FW rn) 0 P ops Q j (fun a w=>wpAnyIn (FW rn) 0 P .any ops Q fuel (listed.setIfInBounds j true) a w) a w):
  wpAnyIn (FW rn) 0 P .any ops Q (fuel+1) listed a w:=by
 refine⟨fun h0=>?_,fun j hj=>?_⟩
 ·exfalso
  cases hU:aY ops listed with
  |nil=>rw[hU] at hl;simp at hl
  |cons m rest=>
    have hm:m∈aY ops listed:=by rw[hU];exact List.mem_cons_self
    have hmin:∀i,i<m→listed.getD i false=true:=by
     intro i hi
     obtain⟨hm1,hm2⟩:=List.mem_filter.1 hm
     have hmlt:=List.mem_range.1 hm1
     cases hli:listed.getD i true with
     |true=>
       have:i<listed.size:=by omega
       simp[this] at hli ⊢;exact hli
     |false=>
       have hi2:i∈aY ops listed:=List.mem_filter.2 ⟨List.mem_range.2 (by omega),by simp[hli]⟩
       rw[hU] at hi2
       have hsorted:(aY ops listed).Pairwise (·<·):=List.Pairwise.filter _ List.pairwise_lt_range
       rw[hU,List.pairwise_cons] at hsorted
       rcases List.mem_cons.1 hi2 with e|e
       ·omega
       ·have:=hsorted.1 i e;omega
    obtain⟨hm1,hm2⟩:=List.mem_filter.1 hm
    have hmlt:=List.mem_range.1 hm1
    have ho:ops[m]?=some ops[m]:=Array.getElem?_eq_getElem hmlt
    have:m∈Region.ready .any ops listed:=mem_ready.2 ⟨by simpa using hm2,_,ho,fun e he hb=>hmin _ (hlt m _ ho e he hb)⟩
    rw[h0] at this
    cases this
 ·obtain⟨hu,oj,hoj,hall⟩:=mem_ready.1 hj
  exact h j oj hoj hu hall
def jb (listed:Array Bool) (l:List Nat):List Nat:=l.filter fun i=>!listed.getD i true
theorem my {listed:Array Bool} {j:Nat} {l:List Nat} (hb:∀i∈l,i<listed.size):jb (listed.setIfInBounds j true) l=(l.filter fun i=>!listed.getD i true&&decide (i≠j)):=by
 unfold jb
 refine List.filter_congr fun i hi=>?_
 have hi':=hb i hi
 by_cases hij:i=j
 ·subst hij;simp[hi']
 ·rw[getD_set_ne true (Ne.symm hij)];simp[hij]
def ir (n f:Nat):List Nat:=(List.range n).filter fun i=>!Nat.beq i f
def fQ (P:Program) (L:List Nat) (ops:Array Oper) (f c i:Nat):Bool:=Nat.ble c i||(Nat.blt f i&&E3 ops i fun o=>!(fR P L o))
def ia (P:Program) (M:Option (Heap→Prop)) (L:List Nat) (ops:Array Oper) (f c:Nat) (K:Act→World→Prop):List Nat→Act→World→Prop
 |[]=>dO P M ops.size L ops K [f]
 |i::l=>bif Nat.ble c i then dO P M ops.size L ops K (f::i::l) else
   bif fQ P L ops f c i then fun a w=>dO P M ops.size L ops K (f::i::l) a w∧bT P M ops.size L ops i (ia P M L ops f c K l) a w
   else bT P M ops.size L ops i (ia P M L ops f c K l)
theorem uk {i k:Nat}:Nat.ble i k=true↔i≤k:=⟨Nat.le_of_ble_eq_true,Nat.ble_eq_true_of_le⟩
theorem xA {f c:Nat} {K:Act→World→Prop} {l:List Nat} (h:∀i∈l,c≤i):ia P M L ops f c K l=dO P M ops.size L ops K (f::l):=by
 cases l with
 |nil=>rfl
 |cons i l=>
   show (bif Nat.ble c i then _ else _)=_
   rw[uk.2 (h i List.mem_cons_self)];rfl
theorem xg {i:Nat} {oi:Oper} {K:Act→World→Prop} {a:Act} {w:World} (hi:ops[i]?=some oi) (hok:im M w.heap) (h:bT P M ops.size L ops i K a w):bT P M ops.size L ops i (fun a w=>im M w.heap∧K a w) a w:=by
 have mi:mu M ops.size i=M:=by unfold mu;rw[eT.2 (Array.getElem?_eq_some_iff.1 hi).1];rfl
 unfold bT at h ⊢
 rw[hi] at h ⊢
 exact mN hok (.inr (.inr mi)) h
theorem vZ {i j:Nat} {oi oj:Oper} (hM:M.isSome=true) (hi:ops[i]?=some oi) (hj:ops[j]?=some oj) (hcm:cU P L true ops oi oj=true) {K:Act→World→Prop} {a:Act} {w:World}
  (h:bT P M ops.size L ops i (bT P M ops.size L ops j K) a w):bT P M ops.size L ops j (bT P M ops.size L ops i K) a w:=by
 have mi:mu M ops.size i=M:=by unfold mu;rw[eT.2 (Array.getElem?_eq_some_iff.1 hi).1];rfl
 have mj:mu M ops.size j=M:=by unfold mu;rw[eT.2 (Array.getElem?_eq_some_iff.1 hj).1];rfl
 have e:∀K',bT P M ops.size L ops i K'=ej P M L ops oi K':=fun K'=>by funext a w;simp only[bT,hi,mi]
 have e':∀K',bT P M ops.size L ops j K'=ej P M L ops oj K':=fun K'=>by funext a w;simp only[bT,hj,mj]
 rw[e,e'] at h
 rw[e',e]
 exact mY hcm (fun _=>⟨rfl,hM⟩) h
theorem Ai {j:Nat} {oj:Oper} (hj:ops[j]?=some oj) (hc:fR P L oj=true) {A B:Act→World→Prop} {a:Act} {w:World} (hok:im M w.heap) (h1:bT P M ops.size L ops j A a w) (h2:bT P M ops.size L ops j B a w):
  bT P M ops.size L ops j (fun a w=>A a w∧B a w) a w:=by
 have mj:mu M ops.size j=M:=by unfold mu;rw[eT.2 (Array.getElem?_eq_some_iff.1 hj).1];rfl
 unfold bT at*
 rw[hj] at*
 simp only[mj] at*
 unfold ej at*
 split
 ·rename_i hw
  rw[if_pos hw] at h1 h2
  unfold fR at hc
  simp only[Bool.or_eq_true,beq_iff_eq] at hc
  rcases hc with q|q
  ·rw[q] at h1 h2 ⊢
   obtain⟨v1,r1,k1⟩:=h1
   obtain⟨v2,r2,k2⟩:=h2
   have:=(r1 w).symm.trans (r2 w)
   cases this
   exact⟨v1,r1,k1,k2⟩
  ·rw[q] at h1 h2 ⊢
   obtain⟨v1,r1,k1⟩:=h1
   obtain⟨v2,r2,k2⟩:=h2
   have:=(r1 w (o0 hok)).symm.trans (r2 w (o0 hok))
   cases this
   exact⟨v1,r1,k1,k2⟩
 ·rename_i hw
  rw[if_neg hw] at h1 h2
  exact⟨h1,h2⟩
theorem pL {f c i:Nat} {oi:Oper} (hi:ops[i]?=some oi):fQ P L ops f c i=true↔c≤i∨(f<i∧fR P L oi=false):=by
 unfold fQ E3
 rw[hi]
 simp only[Bool.or_eq_true,Bool.and_eq_true,Bool.not_eq_true']
 rw[uk,eT]
theorem tO {f c:Nat} {K:Act→World→Prop}:∀(l:List Nat) (a:Act) (w:World),ia P M L ops f c K l a w→dO P M ops.size L ops K ((l.takeWhile fun i=>!fQ P L ops f c i)++f::l.dropWhile fun i=>!fQ P L ops f c i) a w
 |[],a,w,h=>h
 |i::l,a,w,h=>by
   unfold ia at h
   cases hb:Nat.ble c i with
   |true=>
     rw[hb] at h
     have hs:fQ P L ops f c i=true:=by unfold fQ;rw[hb];rfl
     simp only[List.takeWhile_cons,List.dropWhile_cons,hs]
     exact h
   |false=>
     rw[hb] at h
     cases hs:fQ P L ops f c i with
     |true=>
       rw[hs] at h
       simp only[List.takeWhile_cons,List.dropWhile_cons,hs]
       exact h.1
     |false=>
       rw[hs] at h
       simp only[List.takeWhile_cons,List.dropWhile_cons,hs]
       exact eY (tO l) h
theorem pJ {f c j:Nat} {of oj:Oper} {K:Act→World→Prop} (hM:M.isSome=true) (hf:ops[f]?=some of) (hj:ops[j]?=some oj) (hfj:(f<j→j<c→fR P L oj=true)→cU P L true ops of oj=true∨j<f) (hhi:c≤j→cU P L true ops of oj=true):
  ∀(l1 l2:List Nat),(∀i∈l1,i<j∧∃oi,ops[i]?=some oi∧cU P L true ops oi oj=true∧(fR P L oj=true∨fR P L oi=true))→(∀i∈l2,j<i)→(c≤j→True)→
  ∀a w,im M w.heap→ia P M L ops f c K (l1++j::l2) a w→bT P M ops.size L ops j (ia P M L ops f c K (l1++l2)) a w
 |[],l2,_,h2,_,a,w,hok,h=>by
   simp only[List.nil_append] at h ⊢
   unfold ia at h
   cases hb:Nat.ble c j with
   |true=>
     rw[hb] at h
     have hcj:=uk.1 hb
     rw[xA fun i hi=>Nat.le_trans hcj (Nat.le_of_lt (h2 i hi))]
     exact fH hM [f] l2 (fun i hi=>by rw[List.mem_singleton] at hi;subst hi;exact⟨of,oj,hf,hj,hhi hcj⟩) a w h
   |false=>
     rw[hb] at h
     cases hs:fQ P L ops f c j with
     |true=>rw[hs] at h;exact h.2
     |false=>rw[hs] at h;exact h
 |i::l1,l2,h1,h2,h3,a,w,hok,h=>by
   obtain⟨hij,oi,hi,hcm,hca⟩:=h1 i List.mem_cons_self
   have h1':=fun k hk=>h1 k (List.mem_cons_of_mem _ hk)
   simp only[List.cons_append] at h ⊢
   unfold ia at h
   rw[show ia P M L ops f c K (i::(l1++l2))=(bif Nat.ble c i then dO P M ops.size L ops K (f::i::(l1++l2)) else
    bif fQ P L ops f c i then fun a w=>dO P M ops.size L ops K (f::i::(l1++l2)) a w∧bT P M ops.size L ops i (ia P M L ops f c K (l1++l2)) a w
    else bT P M ops.size L ops i (ia P M L ops f c K (l1++l2))) from rfl]
   have inner:bT P M ops.size L ops i (ia P M L ops f c K (l1++j::l2)) a w→bT P M ops.size L ops j (bT P M ops.size L ops i (ia P M L ops f c K (l1++l2))) a w:=fun hx=>
    vZ hM hi hj hcm (eY (fun a' w' hk=>pJ hM hf hj hfj hhi l1 l2 h1' h2 h3 a' w' hk.1 hk.2) (xg hi hok hx))
   have front:cU P L true ops of oj=true→dO P M ops.size L ops K (f::i::(l1++j::l2)) a w→bT P M ops.size L ops j (dO P M ops.size L ops K (f::i::(l1++l2))) a w:=fun hc hx=>
    fH hM (f::i::l1) l2 (fun k hk=>by
     rcases List.mem_cons.1 hk with q|q
     ·subst q;exact⟨of,oj,hf,hj,hc⟩
     ·obtain⟨_,ok,hk1,hk2,_⟩:=h1 k q
      exact⟨ok,oj,hk1,hj,hk2⟩) a w hx
   cases hb:Nat.ble c i with
   |true=>
     rw[hb] at h
     exact front (hhi (by have:=uk.1 hb;omega)) h
   |false=>
     rw[hb] at h
     cases hs:fQ P L ops f c i with
     |false=>
       rw[hs] at h
       exact inner h
     |true=>
       rw[hs] at h
       have hci:¬c≤i:=fun q=>by rw[uk.2 q] at hb;cases hb
       rcases (pL hi).1 hs with q|⟨q1,q2⟩
       ·exact absurd q hci
       ·have hcj:fR P L oj=true:=by
         rcases hca with r|r
         ·exact r
         ·rw[q2] at r;cases r
        have hcf:cU P L true ops of oj=true:=by
         rcases hfj (fun _ _=>hcj) with r|r
         ·exact r
         ·omega
        exact Ai hj hcj hok (front hcf h.1) (inner h.2)
theorem y6 {rn:Option Nat} {f c:Nat} (hM:M.isSome=true) (hB:y9 P L ops f c):∀(fuel:Nat) (listed:Array Bool) (a:Act) (w:World),im M w.heap→listed.size=ops.size→so ops listed→(aY ops listed).length=fuel→
  (listed.getD f true=true→dO P M ops.size L ops (fun a w=>Q .normal a w) (aY ops listed) a w)→
  (listed.getD f true=false→ia P M L ops f c (fun a w=>Q .normal a w) (jb listed (ir ops.size f)) a w)→
  wpAnyIn (FW rn) 0 P .any ops Q fuel listed a w:=by
 intro fuel
 induction fuel with
 |zero=>
   intro listed a w hG hs hc hl h _
   have h0:aY ops listed=[]:=List.length_eq_zero_iff.1 hl
   have hf:listed.getD f true=true:=by
    cases q:listed.getD f true with
    |true=>rfl
    |false=>
      have:f∈aY ops listed:=List.mem_filter.2 ⟨List.mem_range.2 (Nat.lt_trans hB.fc hB.cn),by simp[q]⟩
      rw[h0] at this;cases this
   refine⟨?_,by have:=h hf;rw[h0] at this;exact this⟩
   rw[List.eq_nil_iff_forall_not_mem]
   intro j hj
   obtain⟨hu,o,ho,_⟩:=mem_ready.1 hj
   have hlt:j<ops.size:=(Array.getElem?_eq_some_iff.1 ho).1
   have:j∈aY ops listed:=List.mem_filter.2 ⟨List.mem_range.2 hlt,by simp[hu]⟩
   rw[h0] at this
   cases this
 |succ fuel ih=>
   intro listed a w hG hs hc hl h hn
   refine wpAny_first hs hl hB.lt fun j oj hoj hu hall=>?_
   have hlt:j<ops.size:=(Array.getElem?_eq_some_iff.1 hoj).1
   have hfn:f<ops.size:=Nat.lt_trans hB.fc hB.cn
   have hof:ops[f]?=some ops[f]:=Array.getElem?_eq_getElem hfn
   have hwait:∀i,listed.getD i true=false→i<ops.size→waits (eZ ops.toList []) j i=false:=by
    intro i hiu hil
    cases h3:waits (eZ ops.toList []) j i with
    |false=>rfl
    |true=>
      have h4:=lV hc hB.lt j i oj hoj hall h3
      have:i<listed.size:=by omega
      simp[this] at hiu h4
      rw[hiu] at h4;cases h4
   have hclosed:so ops (listed.setIfInBounds j true):=by
    intro q ok hq hql e he hb
    by_cases hqj:j=q
    ·subst hqj
     have:ok=oj:=Option.some.inj (hq.symm.trans hoj)
     subst this
     exact getD_set_true (hall e he hb)
    ·rw[getD_set_ne false hqj] at hql
     exact getD_set_true (hc q ok hq hql e he hb)
   obtain⟨l1,l2,e1,e2,e3⟩:=fV (fun i=>!listed.getD i true) j (by simp[hu]) ops.size hlt
   have e1':aY ops listed=l1++j::l2:=e1
   have e4:aY ops (listed.setIfInBounds j true)=l1++l2:=by
    rw[←e3]
    exact my fun i hi=>by rw[hs];exact List.mem_range.1 hi
   have hlen:(aY ops (listed.setIfInBounds j true)).length=fuel:=by
    rw[e4]
    rw[e1'] at hl
    simp only[List.length_append,List.length_cons] at hl ⊢
    omega
   have setj:(listed.setIfInBounds j true).getD j true=true:=by
    have:j<listed.size:=by omega
    simp[this]
   have cm:∀i,i<j→listed.getD i true=false→i≠f→j≠f→∃oi,ops[i]?=some oi∧cU P L true ops oi oj=true:=by
    intro i hij hiu hif hjf
    have hil:i<ops.size:=by omega
    have hoi:ops[i]?=some ops[i]:=Array.getElem?_eq_getElem hil
    refine⟨ops[i],hoi,?_⟩
    rcases hB.pair i j _ _ hoi hoj hij hif hjf with h3|h3
    ·exact h3
    ·rw[hwait i hiu hil] at h3;cases h3
   cases hfl:listed.getD f true with
   |true=>
     have hjf:j≠f:=by rintro rfl;rw[hu] at hfl;cases hfl
     have hx:=h hfl
     rw[e1'] at hx
     have h2:=fH hM l1 l2 (fun i hi=>by
      obtain⟨hij,hiu⟩:=e2 i hi
      have hiu':listed.getD i true=false:=by simpa using hiu
      obtain⟨oi,q1,q2⟩:=cm i hij hiu' (by rintro rfl;rw[hfl] at hiu';cases hiu') hjf
      exact⟨oi,oj,q1,hoj,q2⟩) a w hx
     refine rA hoj hG h2 fun a' w' hok hk=>ih _ a' w' hok (by simp[hs]) hclosed hlen (fun _=>by rw[e4];exact hk) (fun hq=>?_)
     rw[getD_set_ne true hjf] at hq
     rw[hfl] at hq;cases hq
   |false=>
     have hx:=hn hfl
     by_cases hjf:j=f
     ·subst hjf
      have h1:=tO _ a w hx
      have hsub:∀i∈(jb listed (ir ops.size j)).takeWhile (fun i=>!fQ P L ops j c i),i<ops.size∧i≠j∧listed.getD i true=false∧fQ P L ops j c i=false:=by
       intro i hi
       have q1:=List.all_eq_true.1 (List.all_takeWhile (p:=fun i=>!fQ P L ops j c i) (l:=jb listed (ir ops.size j))) i hi
       have q2:=(List.takeWhile_sublist _).mem hi
       obtain⟨q3,q4⟩:=List.mem_filter.1 q2
       obtain⟨q5,q6⟩:=List.mem_filter.1 q3
       refine⟨List.mem_range.1 q5,?_,by simpa using q4,by simpa using q1⟩
       rintro rfl
       simp at q6
      have h2:=fH hM _ _ (fun i hi=>by
       obtain⟨hil,hij,hiu,hst⟩:=hsub i hi
       have hoi:ops[i]?=some ops[i]:=Array.getElem?_eq_getElem hil
       have hns:¬(c≤i∨(j<i∧fR P L ops[i]=false)):=fun q=>by
        rw[(pL hoi).2 q] at hst;cases hst
       refine⟨ops[i],oj,hoi,hoj,?_⟩
       rcases Nat.lt_or_ge i j with q|q
       ·rcases hB.below i _ _ hoi hoj q with h3|h3
        ·exact h3
        ·rw[hwait i hiu hil] at h3;cases h3
       ·have hji:j<i:=by omega
        refine((hB.mid i _ _ hoi hoj hji (by omega)).2 ?_).2
        cases hcm:fR P L ops[i] with
        |true=>rfl
        |false=>exact absurd (.inr ⟨hji,hcm⟩) hns) a w h1
      rw[List.takeWhile_append_dropWhile] at h2
      refine rA hoj hG h2 fun a' w' hok hk=>ih _ a' w' hok (by simp[hs]) hclosed hlen (fun _=>?_) (fun hq=>?_)
      ·have e5:aY ops (listed.setIfInBounds j true)=(List.range ops.size).filter fun i=>!listed.getD i true&&decide (i≠j):=my fun i hi=>by rw[hs];exact List.mem_range.1 hi
       have e6:jb listed (ir ops.size j)=(List.range ops.size).filter fun i=>!listed.getD i true&&decide (i≠j):=by
        unfold jb ir
        rw[List.filter_filter]
        refine List.filter_congr fun i _=>?_
        by_cases e:i=j
        ·subst e;simp
        ·have:Nat.beq i j=false:=by
          cases q:Nat.beq i j with
          |false=>rfl
          |true=>exact absurd (Nat.eq_of_beq_eq_true q) e
         simp[e,this]
       rw[e5,←e6];exact hk
      ·rw[setj] at hq;cases hq
     ·have hfset:(listed.setIfInBounds j true).getD f true=false:=by rw[getD_set_ne true (Ne.symm (Ne.symm hjf))];exact hfl
      have hjb:Nat.beq j f=false:=by
       cases q:Nat.beq j f with
       |false=>rfl
       |true=>exact absurd (Nat.eq_of_beq_eq_true q) hjf
      obtain⟨m1,m2,f1,f2,f3⟩:=fV (fun i=>!listed.getD i true&&!Nat.beq i f) j (by simp only[hu,hjb];rfl) ops.size hlt
      have g1:jb listed (ir ops.size f)=m1++j::m2:=by
       rw[←f1];unfold jb ir;rw[List.filter_filter]
      have g2:jb (listed.setIfInBounds j true) (ir ops.size f)=m1++m2:=by
       rw[my fun i hi=>by rw[hs];exact List.mem_range.1 (List.mem_filter.1 hi).1,←f3]
       unfold ir
       rw[List.filter_filter]
       refine List.filter_congr fun i _=>?_
       cases listed.getD i true<;>cases Nat.beq i f<;>simp
      rw[g1] at hx
      have hsort:(m1++j::m2).Pairwise (·<·):=by rw[←f1];exact List.Pairwise.filter _ List.pairwise_lt_range
      have hwf:c≤j→cU P L true ops ops[f] oj=true:=fun q=>by
       rcases hB.above j _ _ hoj hof q with s|s
       ·rw[hwait f hfl hfn] at s;cases s
       ·exact s
      have hfj:(f<j→j<c→fR P L oj=true)→cU P L true ops ops[f] oj=true∨j<f:=fun q=>by
       rcases Nat.lt_trichotomy j f with r|r|r
       ·exact .inr r
       ·exact absurd r hjf
       ·rcases Nat.lt_or_ge j c with s|s
        ·exact .inl ((hB.mid j _ _ hoj hof r s).2 (q r s)).1
        ·exact .inl (hwf s)
      have h2:=pJ (c:=c) hM hof hoj hfj hwf m1 m2 (fun i hi=>by
       obtain⟨hij,hiu⟩:=f2 i hi
       simp only[Bool.and_eq_true,Bool.not_eq_true'] at hiu
       obtain⟨oi,q1,q2⟩:=cm i hij hiu.1 (by rintro rfl;simp at hiu) hjf
       exact⟨hij,oi,q1,q2,(vj q2).symm⟩) (fun i hi=>by
        rw[List.pairwise_append] at hsort
        exact(List.pairwise_cons.1 hsort.2.1).1 i hi) (fun _=>trivial) a w hG hx
      exact rA hoj hG h2 fun a' w' hok hk=>ih _ a' w' hok (by simp[hs]) hclosed hlen (fun hq=>by rw[hfset] at hq;cases hq) (fun _=>by rw[g2];exact hk)
theorem nQ {rn:Option Nat} {id:Nat} {a:Act} {w:World} {f c:Nat} (hm:P.follows .mixedOrders=true) (hM:M.isSome=true) (hB:pv P L ops f c (eZ ops.toList [])=true) (hG:im M w.heap)
  (h:ia P M L ops f c (fun a w=>Q .normal a w) (ir ops.size f) a {w with drawn:=w.drawn+1}):(Code.region id ops true).wpIn (FW rn) 0 P Q a w:=by
 have hfalse:∀(d:Bool) j,j<ops.size→(Array.replicate ops.size false).getD j d=false:=fun d j hj=>by simp[hj]
 have hF:=nJ hB
 have hfn:f<ops.size:=Nat.lt_trans hF.fc hF.cn
 have hu:aY ops (Array.replicate ops.size false)=List.range ops.size:=by
  unfold aY
  rw[List.filter_eq_self]
  intro i hi
  have:=List.mem_range.1 hi
  simp[this]
 refine wpIn_region_any hm (y6 hM hF ops.size _ a _ hG (by simp) ?_ (by rw[hu];simp) ?_ ?_)
 ·intro j oj _ hl
  have:∀j,(Array.replicate ops.size false).getD j false=false:=fun j=>by
   rcases Nat.lt_or_ge j ops.size with h|h
   ·simp[h]
   ·simp[h]
  rw[this] at hl
  cases hl
 ·intro hq;rw[hfalse true f hfn] at hq;cases hq
 ·intro _
  have:jb (Array.replicate ops.size false) (ir ops.size f)=ir ops.size f:=by
   unfold jb
   rw[List.filter_eq_self]
   intro i hi
   rw[hfalse true i (List.mem_range.1 (List.mem_filter.1 hi).1)];rfl
  rw[this];exact h
end
end Go.Proofs.YtdpdmbceakdlmaaGreatDoor
