/-
 Ground, fifteenth text: a region whose operations only reckon or lay new blocks may lay them in any order: the walk that puts the heap off to its end.
-/
import Derived.Test.YtdpdmbceakdlmaaGreatDoorFxa
open Array renaming getElem?_eq_some_iff->KO,getElem?_eq_getElem->K2,replicate->Lz,getElem?_push->MA
open Bool renaming and_eq_true->KR
open Go.Next.value renaming injEq->O6
open Go.Oper renaming apart->QJ
open Go.Region renaming wanted->Ls,binds->LY
open Go.Result.ok renaming injEq->Pe
open List renaming mem_range->KS,mem_cons_self->KV,mem_filter->K3,mem_cons_of_mem->K7,mem_cons->K8,range->Lg,length_cons->Ln,all_eq_true->Lv
open List.Pairwise renaming filter->NW
open Nat renaming le_refl->KN,ne_of_lt->Sq
open Option.some renaming inj->K1
namespace Go.Proofs.YtdpdmbceakdlmaaGreatDoor
abbrev Laid:=List (Nat×Obj)
def iG (H0:Heap)(T:Laid)(b:Nat):Prop:=H0.size<=b/\∀q∈T,q.1≠b
structure Lays (H0:Heap)(T:Laid)(H:Heap):Prop where
 size:H.size=H0.size+T.length
 old:∀q,q<H0.size->H[q]?=H0[q]?
 new:∀q∈T,H[q.1]?=some q.2
theorem Lays.nil (H:Heap):Lays H [] H:=⟨rfl,λ_ _=>rfl,by simp⟩
theorem Lays.push {H0 H:Heap}{T:Laid}(h:Lays H0 T H)(o:Obj):iG H0 T H.size/\Lays H0 ((H.size,o)::T) (H.push o):=by
 refine⟨⟨by rw[h.size];omega,λq hq e=>?_⟩,⟨by simp[h.size];omega,λq hq=>?_,?_⟩⟩
 ·have:=h.new q hq
  rw[e] at this;simp at this
 ·have:q<H.size:=by rw[h.size];omega
  rw[<-h.old q hq]
  simp[MA,Sq this]
 ·intro q hq
  rcases K8.1 hq with rfl|hq
  ·simp
  ·have h1:=h.new q hq
   have:q.1<H.size:=(KO.1 h1).1
   rw[MA,if_neg (Sq this)];exact h1
theorem Lays.perm {H0 H:Heap}{T T':Laid}(p:T.Perm T')(h:Lays H0 T H):Lays H0 T' H:=
 ⟨by rw[h.size,p.length_eq],h.old,λq hq=>h.new q (p.mem_iff.2 hq)⟩
theorem iG.perm {H0:Heap}{T T':Laid}{b:Nat}(p:T.Perm T')(h:iG H0 T b):iG H0 T' b:=⟨h.1,λq hq=>h.2 q (p.mem_iff.2 hq)⟩
theorem jL (H0:Heap):∀T:Laid,∃m,∀b,m<=b->iG H0 T b
 |[]=>⟨H0.size,λb hb=>⟨hb,by simp⟩⟩
 |q::T=>by
   obtain⟨m,h⟩:=jL H0 T
   refine⟨max m (q.1+1),λb hb=>⟨(h b (by omega)).1,λx hx=>?_⟩⟩
   rcases K8.1 hx with rfl|hx
   ·omega
   ·exact(h b (by omega)).2 x hx
abbrev KF:=Act->Laid->Prop
def gn (K:KF):Prop:=∀a (T T':Laid),T.Perm T'->K a T->K a T'
def tZ (P:Program)(r:World->Result Next)(ob:Obj)(val:Nat->Value):Prop:=∀w',r w'=.ok (.value (val w'.heap.size)) {w' with heap:=w'.heap.push ob}
def gF (P:Program)(H0:Heap)(ops:Array Oper)(o:Oper)(K:KF)(a:Act)(T:Laid):Prop:=
 if Ls o (yielded ops a.tmps)=true then
  match ft P o.op with
  |0=>∃v,(∀w',(execOp a.eval o).run P w'=.ok (.value v) w')/\K (a.put o.dst v) T
  |_=>∃ob val,tZ P (λw'=>(execOp a.eval o).run P w') ob val/\∀b,iG H0 T b->K (a.put o.dst (val b)) ((b,ob)::T)
 else K (a.put o.dst undef) T
def gM (P:Program)(H0:Heap)(ops:Array Oper)(i:Nat)(K:KF)(a:Act)(T:Laid):Prop:=
 match ops[i]? with
 |none=>K a T
 |some o=>gF P H0 ops o K a T
def nU (P:Program)(H0:Heap)(ops:Array Oper)(K:KF):List Nat->KF
 |[]=>K
 |i::l=>gM P H0 ops i (nU P H0 ops K l)
section
variable {P:Program}{H0:Heap}{ops:Array Oper}{Q:Exit->Act->World->Prop}
theorem FC (w:World)(n:Nat):∃w':World,w'.heap.size=n:=⟨{w with heap:=Lz n (.cells #[] 0 (0,0))},by simp⟩
theorem rQ {r:World->Result Next}{ob ob':Obj}{val val':Nat->Value}(w:World)(h:tZ P r ob val)(h':tZ P r ob' val'):ob=ob'/\val=val':=by
 have e:∀w':World,val w'.heap.size=val' w'.heap.size/\w'.heap.push ob=w'.heap.push ob':=λw'=>by
  have:=(h w').symm.trans (h' w')
  simp only[Pe,O6] at this
  exact⟨this.1,congrArg World.heap this.2⟩
 refine⟨?_,funext λn=>?_⟩
 ·have:=(e w).2
  have h2:(w.heap.push ob)[w.heap.size]?=(w.heap.push ob')[w.heap.size]?:=by rw[this]
  simpa using h2
 ·obtain⟨w',hw⟩:=FC w n
  rw[<-hw];exact(e w').1
theorem ye {o:Oper}{K K':KF}{a:Act}{T:Laid}(h:∀a T,K a T->K' a T)(hh:gF P H0 ops o K a T):gF P H0 ops o K' a T:=by
 unfold gF at*
 split
 ·rename_i hw
  rw[if_pos hw] at hh
  split
  ·rename_i hc;rw[hc] at hh
   obtain⟨v,h1,h2⟩:=hh
   exact⟨v,h1,h _ _ h2⟩
  ·rename_i hc
   split at hh
   ·rename_i h0;exact absurd h0 hc
   ·obtain⟨ob,val,h1,h2⟩:=hh
    exact⟨ob,val,h1,λb hb=>h _ _ (h2 b hb)⟩
 ·rename_i hw
  rw[if_neg hw] at hh
  exact h _ _ hh
theorem ym {o:Oper}{K:KF}(hK:gn K):gn (gF P H0 ops o K):=by
 intro a T T' p hh
 unfold gF at*
 split
 ·rename_i hw
  rw[if_pos hw] at hh
  split
  ·rename_i hc;rw[hc] at hh
   obtain⟨v,h1,h2⟩:=hh
   exact⟨v,h1,hK _ _ _ p h2⟩
  ·rename_i hc
   split at hh
   ·rename_i h0;exact absurd h0 hc
   ·obtain⟨ob,val,h1,h2⟩:=hh
    exact⟨ob,val,h1,λb hb=>hK _ _ _ (p.cons _) (h2 b (hb.perm p.symm))⟩
 ·rename_i hw
  rw[if_neg hw] at hh
  exact hK _ _ _ p hh
theorem xy {i:Nat}{K:KF}(hK:gn K):gn (gM P H0 ops i K):=by
 intro a T T' p hh
 unfold gM at*
 split
 ·rename_i ho;rw[ho] at hh;exact hK _ _ _ p hh
 ·rename_i o ho;rw[ho] at hh;exact ym hK _ _ _ p hh
theorem qV {K:KF}(hK:gn K):∀l,gn (nU P H0 ops K l)
 |[]=>hK
 |_::l=>xy (qV hK l)
def sG (ops:Array Oper)(x y:Oper):Bool:=
 QJ ops x y&&(match x.op with|.select ..=>false|_=>true)&&(match y.op with|.select ..=>false|_=>true)
theorem xF {x y:Oper}(h:sG ops x y=true):QJ ops x y=true/\(∀cs b,x.op≠.select cs b)/\(∀cs b,y.op≠.select cs b):=by
 unfold sG at h
 simp only[KR] at h
 obtain⟨⟨h1,h3⟩,h4⟩:=h
 refine⟨h1,?_,?_⟩
 ·intro cs b e;rw[e] at h3;cases h3
 ·intro cs b e;rw[e] at h4;cases h4
theorem yv (w:World){x y:Oper}(hc:sG ops x y=true){K:KF}(hK:gn K){a:Act}{T:Laid}
  (h:gF P H0 ops x (gF P H0 ops y K) a T):gF P H0 ops y (gF P H0 ops x K) a T:=by
 obtain⟨hap,hsx,hsy⟩:=xF hc
 obtain⟨a1,a2,a3⟩:=Oper.apart_spec hap
 have wy:∀v,Ls y (yielded ops (a.put x.dst v).tmps)=Ls y (yielded ops a.tmps):=λv=>wanted_put y a x.dst v a1
 have wx:∀v,Ls x (yielded ops (a.put y.dst v).tmps)=Ls x (yielded ops a.tmps):=λv=>wanted_put x a y.dst v a3
 have ey:∀v,execOp (a.put x.dst v).eval y=execOp a.eval y:=λv=>execOp_put (ops:=ops) y hsy a x.dst v a1
 have ex:∀v,execOp (a.put y.dst v).eval x=execOp a.eval x:=λv=>execOp_put (ops:=ops) x hsx a y.dst v a3
 have pc:∀v u,(a.put x.dst v).put y.dst u=(a.put y.dst u).put x.dst v:=λv u=>Act.put_comm a v u a2
 unfold gF at h ⊢
 simp only[wy,wx,ey,ex,pc] at h ⊢
 by_cases hx:Ls x (yielded ops a.tmps)=true
 ·by_cases hy:Ls y (yielded ops a.tmps)=true
  ·simp only[if_pos hx,if_pos hy] at h ⊢
   cases hcx:ft P x.op with
   |zero=>
     cases hcy:ft P y.op with
     |zero=>
       simp only[hcx,hcy] at h ⊢
       obtain⟨v,h1,u,h2,h3⟩:=h
       exact⟨u,h2,v,h1,h3⟩
     |succ n=>
       simp only[hcx,hcy] at h ⊢
       obtain⟨v,h1,ob,val,h2,h3⟩:=h
       exact⟨ob,val,h2,λb hb=>⟨v,h1,h3 b hb⟩⟩
   |succ m=>
     cases hcy:ft P y.op with
     |zero=>
       simp only[hcx,hcy] at h ⊢
       obtain⟨ob,val,h1,h2⟩:=h
       obtain⟨m0,hm0⟩:=jL H0 T
       obtain⟨u,h3,_⟩:=h2 m0 (hm0 m0 (KN _))
       refine⟨u,h3,ob,val,h1,λb hb=>?_⟩
       obtain⟨u',h4,h5⟩:=h2 b hb
       have e:=(h3 w).symm.trans (h4 w)
       simp only[Pe,O6,and_true] at e
       rw[e];exact h5
     |succ n=>
       simp only[hcx,hcy] at h ⊢
       obtain⟨ob,val,h1,h2⟩:=h
       obtain⟨m0,hm0⟩:=jL H0 T
       obtain⟨ob2,val2,h3,_⟩:=h2 m0 (hm0 m0 (KN _))
       refine⟨ob2,val2,h3,λb' hb'=>⟨ob,val,h1,λb hb=>?_⟩⟩
       have hbT:iG H0 T b:=⟨hb.1,λq hq=>hb.2 q (K7 _ hq)⟩
       have hne:b'≠b:=hb.2 (b',ob2) KV
       obtain⟨ob3,val3,h4,h5⟩:=h2 b hbT
       obtain⟨e1,e2⟩:=rQ w h3 h4
       subst e1;subst e2
       have h6:=h5 b' ⟨hb'.1,λq hq=>by
        rcases K8.1 hq with rfl|hq
        ·exact λe=>hne e.symm
        ·exact hb'.2 q hq⟩
       exact hK _ _ _ (List.Perm.swap _ _ _) h6
  ·simp only[if_pos hx,if_neg hy] at h ⊢
   exact h
 ·by_cases hy:Ls y (yielded ops a.tmps)=true
  ·simp only[if_neg hx,if_pos hy] at h ⊢
   exact h
  ·simp only[if_neg hx,if_neg hy] at h ⊢
   exact h
def mH (ops:Array Oper)(B:List Nat):Bool:=
 (Lg ops.size).all λj=>match ops[j]? with
  |some oj=>(oj.after.all λe=>!LY .any e||decide (e.on<j))&&
    (Lg j).all λi=>match ops[i]? with
     |some oi=>sG ops oi oj||waits B j i
     |none=>false
  |none=>false
def eY (ops:Array Oper):Bool:=mH ops (cE ops.toList [])
theorem nT (h:eY ops=true){j:Nat}{oj:Oper}(hj:ops[j]?=some oj){e:Edge}(he:e∈oj.after)(hb:LY .any e=true):e.on<j:=by
 unfold eY mH at h
 have hlt:j<ops.size:=(KO.1 hj).1
 have:=Lv.1 h j (KS.2 hlt)
 rw[hj] at this
 simp only[KR] at this
 have h2:=Array.all_eq_true_iff_forall_mem.1 this.1 e he
 simpa[hb] using h2
theorem qp (h:eY ops=true){i j:Nat}{oi oj:Oper}(hi:ops[i]?=some oi)(hj:ops[j]?=some oj)(hij:i<j):sG ops oi oj=true\/waits (cE ops.toList []) j i=true:=by
 unfold eY mH at h
 have hlt:j<ops.size:=(KO.1 hj).1
 have:=Lv.1 h j (KS.2 hlt)
 rw[hj] at this
 simp only[KR] at this
 have h2:=Lv.1 this.2 i (KS.2 hij)
 rw[hi] at h2
 simpa[Bool.or_eq_true] using h2
theorem yj {i:Nat}{a:Act}{T:Laid}{K K':KF}(h:∀a T,K a T->K' a T)(hh:gM P H0 ops i K a T):gM P H0 ops i K' a T:=by
 unfold gM at*
 split
 ·rename_i ho;rw[ho] at hh;exact h _ _ hh
 ·rename_i o ho;rw[ho] at hh;exact ye h hh
theorem ph (w:World){K:KF}(hK:gn K){j:Nat}:∀(l1 l2:List Nat),(∀i∈l1,i<j/\∃oi oj,ops[i]?=some oi/\ops[j]?=some oj/\sG ops oi oj=true)->
  ∀a T,nU P H0 ops K (l1++j::l2) a T->gM P H0 ops j (nU P H0 ops K (l1++l2)) a T
 |[],l2,_,a,T,h=>h
 |i::l1,l2,hc,a,T,h=>by
   have h1:gM P H0 ops i (gM P H0 ops j (nU P H0 ops K (l1++l2))) a T:=yj (ph w hK l1 l2 (λk hk=>hc k (K7 _ hk))) h
   obtain⟨hij,oi,oj,hi,hj,hcm⟩:=hc i KV
   have e:∀K',gM P H0 ops i K'=gF P H0 ops oi K':=λK'=>by funext a T;simp only[gM,hi]
   have e':∀K',gM P H0 ops j K'=gF P H0 ops oj K':=λK'=>by funext a T;simp only[gM,hj]
   rw[e,e'] at h1
   have h2:=yv w hcm (qV hK _) h1
   simp only[List.cons_append,nU]
   rw[e,e']
   exact h2
theorem rP {rn:Option Nat}{i:Nat}{a:Act}{w:World}{T:Laid}{K:KF}{K':Act->World->Prop}(hT:Lays H0 T w.heap)(hs:∀a' w' T',Lays H0 T' w'.heap->Alike w w'->K a' T'->K' a' w')
  (hh:gM P H0 ops i K a T):wpOpIn (FW rn) 0 P ops Q i K' a w:=by
 unfold gM at hh
 unfold wpOpIn
 split
 ·rename_i ho;rw[ho] at hh;exact hs _ _ _ hT (.refl _) hh
 ·rename_i o ho
  rw[ho] at hh
  simp only at hh
  unfold gF at hh
  split
  ·rename_i hw
   rw[if_pos hw] at hh
   split at hh
   ·obtain⟨v,h1,h2⟩:=hh
    refine je ?_
    rw[h1 w]
    exact hs _ _ _ hT (.refl _) h2
   ·obtain⟨ob,val,h1,h2⟩:=hh
    refine je ?_
    have:=h1 w
    dsimp only at this
    rw[this]
    obtain⟨f1,f2⟩:=hT.push ob
    exact hs _ {w with heap:=w.heap.push ob} _ f2 (.of_le rfl (KN _)) (h2 _ f1)
  ·rename_i hw
   rw[if_neg hw] at hh
   exact⟨λ_ _=>trivial,hs _ _ _ hT (.refl _) hh⟩
theorem Bk {rn:Option Nat}{K:KF}(hK:gn K)(hB:eY ops=true){w0:World}(hQ:∀a T w,Lays H0 T w.heap->Alike w0 w->K a T->Q .normal a w):∀(fuel:Nat) (listed:Array Bool) (a:Act) (T:Laid) (w:World),Lays H0 T w.heap->Alike w0 w->listed.size=ops.size->
  jx ops listed->(ax ops listed).length=fuel->nU P H0 ops K (ax ops listed) a T->wpAnyIn (FW rn) 0 P .any ops Q fuel listed a w:=by
 intro fuel
 induction fuel with
 |zero=>
   intro listed a T w hT hA hs hc hl h
   have h0:ax ops listed=[]:=List.length_eq_zero_iff.1 hl
   refine⟨?_,by rw[h0] at h;exact hQ _ _ _ hT hA h⟩
   rw[List.eq_nil_iff_forall_not_mem]
   intro j hj
   obtain⟨hu,o,ho,_⟩:=mem_ready.1 hj
   have hlt:j<ops.size:=(KO.1 ho).1
   have:j∈ax ops listed:=K3.2 ⟨KS.2 hlt,by simp[hu]⟩
   rw[h0] at this
   cases this
 |succ fuel ih=>
   intro listed a T w hT hA hs hc hl h
   refine⟨λh0=>?_,λj hj=>?_⟩
   ·exfalso
    cases hU:ax ops listed with
    |nil=>rw[hU] at hl;simp at hl
    |cons m rest=>
      have hm:m∈ax ops listed:=by rw[hU];exact KV
      have hmin:∀i,i<m->listed.getD i false=true:=by
       intro i hi
       obtain⟨hm1,hm2⟩:=K3.1 hm
       have hmlt:=KS.1 hm1
       cases hli:listed.getD i true with
       |true=>
         have:i<listed.size:=by omega
         simp[this] at hli ⊢;exact hli
       |false=>
         have hi2:i∈ax ops listed:=K3.2 ⟨KS.2 (by omega),by simp[hli]⟩
         rw[hU] at hi2
         have hsorted:(ax ops listed).Pairwise (·<·):=NW _ List.pairwise_lt_range
         rw[hU,List.pairwise_cons] at hsorted
         rcases K8.1 hi2 with e|e
         ·omega
         ·have:=hsorted.1 i e;omega
      obtain⟨hm1,hm2⟩:=K3.1 hm
      have hmlt:=KS.1 hm1
      have ho:ops[m]?=some ops[m]:=K2 hmlt
      have:m∈Region.ready .any ops listed:=mem_ready.2 ⟨by simpa using hm2,_,ho,λe he hb=>hmin _ (nT hB ho he hb)⟩
      rw[h0] at this
      cases this
   ·obtain⟨hu,oj,hoj,hall⟩:=mem_ready.1 hj
    have hlt:j<ops.size:=(KO.1 hoj).1
    obtain⟨l1,l2,e1,e2,e3⟩:=cZ (λi=>!listed.getD i true) j (by simp[hu]) ops.size hlt
    have e1':ax ops listed=l1++j::l2:=e1
    have e4:ax ops (listed.setIfInBounds j true)=l1++l2:=by
     rw[<-e3]
     unfold ax
     refine List.filter_congr λi hi=>?_
     have hi':i<listed.size:=by rw[hs];exact KS.1 hi
     by_cases hij:i=j
     ·subst hij;simp[hi']
     ·rw[getD_set_ne true (Ne.symm hij)];simp[hij]
    have hwait:∀i,listed.getD i true=false->i<ops.size->waits (cE ops.toList []) j i=false:=by
     intro i hiu hil
     cases h3:waits (cE ops.toList []) j i with
     |false=>rfl
     |true=>
       have h4:=fD hc (λj oj hj e he hb=>nT hB hj he hb) j i oj hoj hall h3
       have:i<listed.size:=by omega
       simp[this] at hiu h4
       rw[hiu] at h4;cases h4
    rw[e1'] at h
    have h2:=ph w hK l1 l2 (λi hi=>by
     obtain⟨hij,hiu⟩:=e2 i hi
     have hil:i<ops.size:=by omega
     have hoi:ops[i]?=some ops[i]:=K2 hil
     refine⟨hij,ops[i],oj,hoi,hoj,?_⟩
     rcases qp hB hoi hoj hij with h3|h3
     ·exact h3
     ·rw[hwait i (by simpa using hiu) hil] at h3;cases h3) a T h
    refine rP hT (λa' w' T' hT' hA' hk=>?_) h2
    refine ih (listed.setIfInBounds j true) a' T' w' hT' (hA.trans hA') (by simp[hs]) ?_ ?_ (by rw[e4];exact hk)
    ·intro q ok hq hql e he hb
     by_cases hqj:j=q
     ·subst hqj
      have:ok=oj:=K1 (hq.symm.trans hoj)
      subst this
      exact getD_set_true (hall e he hb)
     ·rw[getD_set_ne false hqj] at hql
      exact getD_set_true (hc q ok hq hql e he hb)
    ·rw[e4]
     rw[e1'] at hl
     simp only[List.length_append,Ln] at hl ⊢
     omega
def nR (P:Program)(H0:Heap)(ops:Array Oper)(K:KF):List Oper->KF
 |[]=>K
 |o::l=>gF P H0 ops o (nR P H0 ops K l)
theorem nr {K:KF}:∀(l:List Oper) (s:Nat),(∀j,j<l.length->l[j]?=ops[s+j]?)->nU P H0 ops K (List.range' s l.length)=nR P H0 ops K l
 |[],s,_=>rfl
 |o::l,s,hl=>by
   have h0:ops[s]?=some o:=by simpa using (hl 0 (by simp)).symm
   have ih:=nr (K:=K) l (s+1) (λj hj=>by have:=hl (j+1) (by simp;omega);simpa[Nat.add_assoc,Nat.add_comm 1 j] using this)
   funext a T
   simp only[Ln,List.range'_succ,nU,nR,gM,h0,ih]
theorem pH {rn:Option Nat}{id:Nat}{a:Act}{w:World}{K:KF}(hm:P.follows .mixedOrders=true)(hK:gn K)(hB:eY ops=true)
  (hQ:∀a T w',Lays w.heap T w'.heap->Alike w w'->K a T->Q .normal a w') (h:nR P w.heap ops K ops.toList a []):(Code.region id ops true).wpIn (FW rn) 0 P Q a w:=by
 have hu:ax ops (Lz ops.size false)=Lg ops.size:=by
  unfold ax
  rw[List.filter_eq_self]
  intro i hi
  have:=KS.1 hi
  simp[this]
 have hd:Alike w {w with drawn:=w.drawn+1}:=(.of_le rfl (Nat.le_succ _))
 refine wpIn_region_any hm (Bk (H0:=w.heap) (K:=K) (w0:={w with drawn:=w.drawn+1}) hK hB (λa T w' h1 h2 h3=>hQ a T w' h1 (hd.trans h2) h3) ops.size _ a [] _ (Lays.nil _) (.refl _) (by simp) ?_ (by rw[hu];simp) ?_)
 ·intro j oj _ hl
  have:∀j,(Lz ops.size false).getD j false=false:=λj=>by
   rcases Nat.lt_or_ge j ops.size with h|h
   ·simp[h]
   ·simp[h]
  rw[this] at hl
  cases hl
 ·rw[hu,List.range_eq_range']
  have t:=nr (P:=P) (H0:=w.heap) (ops:=ops) (K:=K) ops.toList 0 (λj hj=>by rw[Nat.zero_add,Array.getElem?_toList])
  have e:ops.toList.length=ops.size:=by simp
  rw[e] at t
  rw[t];exact h
end
end Go.Proofs.YtdpdmbceakdlmaaGreatDoor
