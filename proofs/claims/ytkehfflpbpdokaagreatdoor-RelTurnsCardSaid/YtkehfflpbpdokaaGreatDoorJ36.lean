/-
 Trees: an element is put into a node's rows, and into its children; what fits in a page.
-/
import Derived.Test.YtkehfflpbpdokaaGreatDoorVc
import Derived.Test.YtkehfflpbpdokaaGreatDoorFxk
import Derived.Test.YtkehfflpbpdokaaGreatDoorJ25
import Derived.Test.YtkehfflpbpdokaaGreatDoorFxo
import Derived.Test.YtkehfflpbpdokaaGreatDoorJ29
import Derived.Test.YtkehfflpbpdokaaGreatDoorJ32
import Derived.Test.YtkehfflpbpdokaaGreatDoorJ35
open And renaming intro->P8
open Array renaming toList_append->No,toList_inj->O8
open Bool renaming and_eq_true->KD,or_eq_true->Lo,eq_iff_iff->N4,false_or->RK
open ByteArray renaming mk->LA,ext->O5,data_append->Pj,size_append->Pk
open Go.Addr renaming add->K0
open Go.Builtin renaming append_->Ks
open Go.ByteArray renaming toList_eq->Nr
open Go.Extern.SlicesOverlaps renaming overlaps->NJ
open Go.IntKind renaming i64->Ke,u64->K7,wrap_u64->OE
open Go.Proofs.Tryz renaming prog->Kf,func185->TV,func187->TW
open Go.Value renaming int->Km
open Iff renaming rfl->Pe
open Int renaming toNat_natCast->KI,ofNat->MO
open List renaming getElem?_eq_getElem->Kg,mem_of_getElem?->Ki,getElem?_eq_some_iff->Kj,mem_append->Kk,mem_iff_getElem?->Ko,getElem_mem->Kt,mem_cons->Ku,length_append->Kv,mem_cons_self->Kw,mem_map->Kz,take_succ_eq_append_getElem->KB,getElem?_map->KC,length_take->KF,length_map->KM,mem_cons_of_mem->KO,mem_filter->KP,getD->KQ,length_drop->KS,getElem?_append_left->KT,take_of_length_le->KV,map_append->KX,length_cons->K1,nodup_append->La,getElem?_append_right->Lf,getElem?_take->Lh,mem_map_of_mem->Lp,getElem?_drop->Lv,nodup_cons->Lw,map_congr_left->Lx,map_map->Ly,mem_of_mem_take->LF,mem_of_mem_drop->LG,getElem?_inj->LH,getElem?_cons_succ->LL,pairwise_cons->LR,take_append_drop->LW,mem_iff_getElem->L8,filter_eq_self->Mr,take_add_one->Mv,any_eq_true->MA,length_nil->MI,filter_cons->MN,take_length->MP,filter_congr->MT,length->NH,any_eq_false->Oe,getElem_drop->Og,flatten_append->OF,sum_append->OI,getElem_take->OZ,set_eq_take_append_cons_drop->O2,append_cancel_left->QQ,getElem?_set_self->Rf,getElem?_set_ne->RH,take_sublist->R7,drop_sublist->R9
open List.Pairwise renaming imp->OY
open Nat renaming le_refl->Kl,zero_le->KU,mul_le_mul_right->K2,le_trans->K4,lt_or_ge->K8,mul_one->Ld,le_succ->Lj,zero_add->LB,eq_zero_or_pos->L9,min_eq_left->Mx,reduceAdd->MD,add_sub_cancel->Nv,le_mul_of_pos_right->NW,succ_pos->Om,lt_succ_self->Oy,lt_irrefl->RL,lt_two_pow_self->RO
open Ne renaming symm->M7
open Option renaming getD_some->Mn
open Option.some renaming inj->Kq
open UInt8 renaming ofNat->Ky
namespace Go.Proofs.YtkehfflpbpdokaaGreatDoor
open Go.MapKept
theorem vN:Kf.underlying dA=some (.int .i64):=by kernel_rfl
theorem Cz (args:Array Value)(w:World):(callFunc 185 args).run Kf w=((NJ #[dG,dG] #[4] args).run Kf w).andThen λv w'=>.ok (.value v) w':=
 run_callFunc_extern TV (by kernel_rfl) (by kernel_rfl) (by kernel_rfl) (by kernel_rfl) args w
theorem CO (args:Array Value)(w:World):(callFunc 187 args).run Kf w=((NJ #[gy,gy] #[4] args).run Kf w).andThen λv w'=>.ok (.value v) w':=
 run_callFunc_extern TW (by kernel_rfl) (by kernel_rfl) (by kernel_rfl) (by kernel_rfl) args w
theorem xN {H:aa}{s:Sl}{i:Nat}{l:Sl}{p:Addr}{xs:List Value}{K:Sl->aa->Prop}(h:az H 0 dn 1 s xs)(h1:∀u∈xs,u.oneCell'=true)(hp:dd H p dn l.v)(hpo:¬ai s p.block)(hi:i<=xs.length)(hn:xs.length<=1000000)
  (hK:∀(s':Sl) (H':aa),s'.n=xs.length+1->az H' 0 dn 1 s' (aY i l.v xs)->Mod (ai s) H H'->(∀b,ai s' b->ai s b\/H.size<=b)->K s' H'):
  Di.sp s (i:Int) ⟨some p,1,1⟩ H K:=by
 refine Di.of ?_
 exact BL (ovl:=185) (rot:=λa b c d=>Jn.sp a b c d) oS (by decide) vN Cz h h1 rfl hp hpo hi hn (KU _) hK
theorem xQ {H:aa}{s:Sl}{i:Nat}{x:Int}{p:Addr}{xs:List Value}{K:Sl->aa->Prop}(h:az H 0 dA 1 s xs)(h1:∀u∈xs,u.oneCell'=true)(hp:dd H p dA (.int .i64 x))(hpo:¬ai s p.block)(hi:i<=xs.length)(hn:xs.length<=1000000)
  (hK:∀(s':Sl) (H':aa),s'.n=xs.length+1->az H' 0 dA 1 s' (aY i (.int .i64 x) xs)->Mod (ai s) H H'->(∀b,ai s' b->ai s b\/H.size<=b)->K s' H'):
  Gr.sp s (i:Int) ⟨some p,1,1⟩ H K:=by
 refine Gr.of ?_
 exact BL (ovl:=187) (rot:=λa b c d=>Jm.sp a b c d) CA (by decide) vN CO h h1 rfl hp hpo hi hn (KU _) hK
section
variable {α:Type}
theorem aS (i:Nat)(a:α)(l:List α):(aY i a l).length=l.length+1:=by
 unfold aY
 rw[Kv,K1,KF,KS];omega
theorem si {i:Nat}{a:α}{l:List α}(hi:i<=l.length)(j:Nat):(aY i a l)[j]?=if j<i then l[j]? else if j=i then some a else l[j - 1]?:=by
 unfold aY
 have hl:(l.take i).length=i:=by simp;omega
 by_cases h1:j<i
 ·rw[if_pos h1,KT (by omega),Lh,if_pos h1]
 ·rw[if_neg h1,Lf (by omega),hl]
  by_cases h2:j=i
  ·subst h2;simp
  ·rw[if_neg h2]
   obtain⟨d,hd⟩:∃d,j - i=d+1:=⟨j - i - 1,by omega⟩
   rw[hd,LL,Lv]
   congr 1;omega
theorem mV {β:Type}(f:α->β)(i:Nat)(a:α)(l:List α):aY i (f a) (l.map f)=(aY i a l).map f:=by
 unfold aY
 simp
theorem dF {i:Nat}{a b:α}{l:List α}:b∈aY i a l↔b∈l\/b=a:=by
 unfold aY
 rw[Kk,Ku]
 constructor
 ·rintro(h|h|h)
  ·exact .inl (LF h)
  ·exact .inr h
  ·exact .inl (LG h)
 ·rintro(h|h)
  ·rw[<-LW i l,Kk] at h
   exact h.imp id .inr
  ·exact .inr (.inl h)
end
structure rO (F:Nat->Prop)(H:aa)(s:Sl)(rs:List Sl)(ls:List (List Int)):Prop where
 out:az H 0 dn 1 s (rs.map Sl.v)
 outF:∀b,ai s b->¬F b
 len:rs.length=ls.length
 row:∀(i:Nat) (r:Sl) (l:List Int),rs[i]?=some r->ls[i]?=some l->dH (λb=>F b\/ai s b) H r l
theorem rO.Jy {F:Nat->Prop}{H:aa}{s:Sl}{rs:List Sl}{ls:List (List Int)}(h:rO F H s rs ls):cJ F H s ls:=by
 have hn:=h.out.1
 have hl:=h.len
 simp only[KM,Ld] at hn
 refine⟨by omega,λad ha=>⟨(h.out.block _ ⟨ad,ha,rfl⟩).2,h.outF _ ⟨ad,ha,rfl⟩⟩,λi hi=>?_⟩
 have hir:i<rs.length:=by omega
 obtain⟨ad,ha,hc⟩:=h.out.reads.at (i:=i) (by simpa using hir)
 have hr:=h.row i _ _ (Kg hir) (Kg hi)
 exact⟨ad,rs[i],ha,by simpa using hc,hr.off.mono λ_ _ u=>.inl u,hr.ints⟩
theorem fl.q {F X:Nat->Prop}{H:aa}{base nb:Nat}{ab:Int}{sk sr:Sl}{rs:List Sl}{n:Nd}(h:fl F H base nb ab sk sr rs n)(hX:∀b,X b->b<base\/b=nb):rO (λb=>F b\/X b) H sr rs n.rows:=by
 refine⟨h.rows.out,λb hb u=>?_,h.rows.len,λi r l h1 h2=>⟨λad ha=>⟨?_,λu=>?_⟩,(h.rows.row i r l h1 h2).ints⟩⟩
 ·have:=h.sr b hb
  rcases u with u|u
  ·exact this.2 u
  ·rcases hX b u with v|v
   ·omega
   ·subst v;exact h.IY hb
 ·exact(h.rows.block.2 r (Ki h1) _ ⟨ad,ha,rfl⟩).2
 ·have hr:=Ki h1
  have:=h.rs r hr _ ⟨ad,ha,rfl⟩
  rcases u with (u|u)|u
  ·exact this.2 u
  ·rcases hX _ u with v|v
   ·omega
   ·exact h.Jf r hr ⟨ad,ha,v⟩
  ·exact(h.rows.row i r l h1 h2).apart h.rows.out (by decide) _ ⟨ad,ha,rfl⟩ u
theorem rO.ins {F:Nat->Prop}{H:aa}{s:Sl}{rs:List Sl}{ls:List (List Int)}{i:Nat}{l:Sl}{ll:List Int}{K:Sl->aa->Prop}(h:rO F H s rs ls)(hl:dH (λb=>F b\/ai s b) H l ll)(hF:∀b,F b->b<H.size)(hi:i<=ls.length)(hn:ls.length<=1000000)
  (hK:∀s' H',rO F H' s' (aY i l rs) (aY i ll ls)->Mod (ai s) H H'->(∀b,ai s' b->ai s b\/H.size<=b)->K s' H'):
  aM H #[l.v] dn λp H1=>Di.sp s (i:Int) ⟨some p,1,1⟩ H1 K:=by
 refine dm λp H1 hp z1 v1 e1=>?_
 have hlen:=h.len
 refine xN (h.out.ext e1) (by
  intro u hu
  obtain⟨r,_,rfl⟩:=Kz.1 hu
  rfl) v1 (λu=>by have:=(h.out.block _ u).2;omega) (by simp;omega) (by simp;omega) λs' H' n1 o1 m1 b1=>?_
 rw[mV] at o1
 have hown:∀b,ai s' b->ai s b\/H.size<=b:=λb hb=>(b1 b hb).imp id λu=>by omega
 have mAll:Mod (ai s) H H':=(Ext.mod e1).trans m1
 refine hK s' H' ⟨o1,λb hb u=>?_,by rw[aS,aS,hlen],λj r lj h1 h2=>?_⟩ mAll hown
 ·rcases hown b hb with v|v
  ·exact h.outF b v u
  ·have:=hF b u;omega
 ·have key:dH (λb=>F b\/ai s b) H r lj:=by
   rw[si (by omega)] at h1 h2
   split at h1
   ·rename_i hj
    rw[if_pos hj] at h2
    exact h.row j r lj h1 h2
   ·rename_i hj
    rw[if_neg hj] at h2
    split at h1
    ·rename_i hj2
     rw[if_pos hj2] at h2
     cases h1;cases h2
     exact hl
    ·rename_i hj2
     rw[if_neg hj2] at h2
     exact h.row (j - 1) r lj h1 h2
  exact key.step ⟨mAll.mono λ_ _ u=>.inr u,λb hb=>by
   rcases hb with u|u
   ·exact .inl (.inl u)
   ·exact(hown b u).imp .inr id⟩
theorem sZ {W:Nat}{n:Nd}(hW:W<=16)(hc:∀l∈n.rows,l.length=W)(h1:1<=n.rows.length)
  (h:(n.kids=[]/\(n.rows.length - 1)*(aF (W:Int)).toNat<=504)\/(n.kids.length=n.rows.length+1/\2+4*(n.kids.length - 1)+(n.rows.length - 1)*(aF (W:Int)).toNat<=504)):
  (∀above,(0<above->n.kids≠[])->(above=0->n.kids=[])->n.full W above=false->n.bytes.length<=504)/\(∀above,n.full W above=true->2<=n.rows.length->n.left.bytes.length<=504/\n.right.bytes.length<=504):=by
 obtain⟨f1,f2,f3,f4⟩:=jV hW
 obtain⟨s1,s2⟩:=nE hW
 have hs:=bL (W:Int)
 have hsz:1<=(aF (W:Int)).toNat:=by omega
 generalize hz:(aF (W:Int)).toNat=z at*
 refine⟨λabove ha ha0 hf=>?_,λabove hf h2=>?_⟩
 ·rw[Nd.cd hW hc,hz]
  unfold Nd.full at hf
  simp only[Bool.or_eq_false_iff,Bool.and_eq_false_iff,decide_eq_false_iff_not] at hf
  obtain⟨g1,g2⟩:=hf
  by_cases hk:n.kids=[]
  ·rw[if_pos hk]
   have hab:above=0:=by
    rcases L9 above with u|u
    ·exact u
    ·exact absurd hk (ha u)
   have:=(f2 n.rows.length).1 (g1.resolve_left (by omega))
   omega
  ·rw[if_neg hk]
   have hr:=(h.resolve_left λu=>hk u.1).1
   rcases (f1 n.kids.length).1 g2 with u|u
   ·have e:n.kids.length - 1=n.rows.length:=by omega
    rw[e] at u;omega
   ·omega
 ·have hl:∀l∈n.left.rows,l.length=W:=λl hm=>hc l (LF hm)
  have hr:∀l∈n.right.rows,l.length=W:=λl hm=>hc l (by
   unfold Nd.right at hm
   split at hm<;>exact LG hm)
  rw[Nd.cd hW hl,Nd.cd hW hr,hz]
  have half1:1<=n.rows.length/2:=by omega
  have half2:n.rows.length/2<=n.rows.length - 1:=by omega
  have hmul:n.rows.length/2*z<=(n.rows.length - 1)*z:=K2 _ half2
  by_cases hk:n.kids=[]
  ·have e1:n.left=⟨[],n.rows.take (n.rows.length/2)⟩:=by unfold Nd.left;rw[hk];rfl
   have e2:n.right=⟨[],n.rows.drop (n.rows.length/2)⟩:=by unfold Nd.right;rw[if_pos hk]
   have hm2:(n.rows.length - n.rows.length/2)*z<=(n.rows.length - 1)*z:=K2 _ (by omega)
   have h0:(n.rows.length - 1)*z<=504:=by
    rcases h with u|u
    ·exact u.2
    ·rw[hk] at u;simp at u
   rw[e1,e2]
   simp only[if_pos,KF,KS,Nat.mul_zero,LB]
   rw[Mx (by omega)]
   omega
  ·obtain⟨u1,u2⟩:=h.resolve_left λu=>hk u.1
   have e2:n.right=⟨n.kids.drop (n.rows.length/2+1),n.rows.drop (n.rows.length/2+1)⟩:=by unfold Nd.right;rw[if_neg hk]
   have hm2:(n.rows.length - (n.rows.length/2+1))*z<=(n.rows.length - 1)*z:=K2 _ (by omega)
   rw[e2]
   unfold Nd.left
   simp only[KF,KS]
   rw[Mx (by omega),Mx (by omega)]
   constructor<;>split<;>omega
end Go.Proofs.YtkehfflpbpdokaaGreatDoor
namespace Go.Proofs.YtkehfflpbpdokaaGreatDoor
section
variable {x x':St}{W depth:Nat}
theorem Tn.lt:∀{a ab:Nat} {s:Span} {L:List (List Int)} {P:List Nat},Tn x W depth a ab s L P->∀p∈P,p<x.N
 |0,ab,s,L,P,h=>by
   have h':=h.ab
   obtain⟨n,h1,h2,h3,h4⟩:=h
   rw[h4]
   intro p hp
   rw[List.mem_singleton] at hp
   rw[hp];exact h'.2
 |a+1,ab,s,L,P,h=>by
   have h':=h.ab
   obtain⟨n,Ls,Ps,h1,h2,⟨k1,k2,k3,k4⟩,h4,h5⟩:=h
   rw[h5]
   intro p hp
   rcases Ku.1 hp with q|q
   ·rw[q];exact h'.2
   ·obtain⟨i,hi,hm⟩:=kH q
    exact Tn.lt (k4 i (by omega)) p hm
theorem sO {x:St}{a ab d d':Nat}{s:Span}{w:Int}{n:Nd}(h:x.node w d a ab s=some n)(hr:n.rows≠[]):x.node w d' a ab s=some n:=by
 unfold St.node at h ⊢
 split at h
 ·rename_i hp
  rw[if_pos hp]
  unfold fJ at h ⊢
  have key:∀(kids:List Nat) (b:List UInt8),cU w d s kids b=some n->cU w d' s kids b=some n:=by
   intro kids b hb
   have e2:=(jl hb).2.1
   unfold cU at hb ⊢
   split at hb
   ·cases hb
   ·rename_i h1
    rw[if_neg h1]
    split at hb
    ·cases hb
    ·rename_i h2
     rw[if_neg]
     ·exact hb
     ·rintro(q|⟨q,_⟩)
      ·exact h2 (.inl q)
      ·exact hr (e2.trans q)
  split at h
  ·rename_i hc;rw[if_pos hc];exact key _ _ h
  ·rename_i hc
   rw[if_neg hc]
   split at h
   ·rename_i hc2
    rw[if_pos hc2]
    split at h
    ·cases h
    ·rename_i hc3;rw[if_neg hc3];exact key _ _ h
   ·cases h
 ·cases h
theorem Nd.my.deep {n:Nd}{W d d' a:Nat}{s:Span}(h:n.my W d a s)(hr:n.rows≠[]):n.my W d' a s:=⟨h.leaf,h.inner,h.holds,λ_=>hr,h.cols,h.kids,h.fit⟩
theorem Tn.deep {d d':Nat}:∀{a ab:Nat} {s:Span} {L:List (List Int)} {P:List Nat},Tn x W d a ab s L P->(1<d\/(a=0/\L≠[]))->Tn x W d' a ab s L P
 |0,ab,s,L,P,⟨n,h1,h2,h3,h4⟩,hd=>by
   have hr:n.rows≠[]:=by
    rcases hd with q|⟨_,q⟩
    ·exact h2.some_ q
    ·rw[<-h3];exact q
   exact⟨n,sO h1 hr,h2.deep hr,h3,h4⟩
 |a+1,ab,s,L,P,⟨n,Ls,Ps,h1,h2,⟨k1,k2,k3,k4⟩,h4,h5⟩,hd=>by
   have hd1:1<d:=by rcases hd with q|⟨q,_⟩<;>omega
   have hr:n.rows≠[]:=h2.some_ hd1
   exact⟨n,Ls,Ps,sO h1 hr,h2.deep hr,⟨k1,k2,k3,λi hi=>(k4 i hi).deep (.inl hd1)⟩,h4,h5⟩
end
theorem qO {α:Type}{k:Nat}{v d:α}{l:List α}(h:k<=l.length)(i:Nat):(aY k v l).getD i d=if i<k then l.getD i d else if i=k then v else l.getD (i - 1) d:=by
 simp only[KQ]
 rw[si h]
 split
 ·rfl
 ·split<;>rfl
theorem su {k:Nat}{v:List Int}{l:List (List Int)}(h:gS l)(hk:k<=l.length)(h1:∀i,i<k->je (l.getD i []) v)(h2:∀i,k<=i->i<l.length->je v (l.getD i [])):gS (aY k v l):=by
 unfold aY gS
 rw[List.pairwise_append]
 refine⟨h.sublist (R7 _ _),LR.2 ⟨λb hb=>?_,h.sublist (R9 _ _)⟩,λa ha b hb=>?_⟩
 ·obtain⟨i,hi,rfl⟩:=L8.1 hb
  rw[KS] at hi
  have:=h2 (k+i) (by omega) (by omega)
  rw[bU (by omega)] at this
  rw[Og];exact this
 ·obtain⟨i,hi,rfl⟩:=L8.1 ha
  rw[KF] at hi
  have g1:=h1 i (by omega)
  rw[bU (by omega)] at g1
  rw[OZ]
  rcases Ku.1 hb with q|q
  ·rw[q];exact g1
  ·obtain⟨j,hj,rfl⟩:=L8.1 q
   rw[KS] at hj
   have g2:=h2 (k+j) (by omega) (by omega)
   rw[bU (by omega)] at g2
   rw[Og]
   exact bJ g1 g2
theorem getD_take {α:Type}{l:List α}{n i:Nat}{d:α}(h:i<n):(l.take n).getD i d=l.getD i d:=by
 simp only[KQ]
 rw[Lh,if_pos h]
theorem iT {α:Type}{l:List α}{n i:Nat}{d:α}:(l.drop n).getD i d=l.getD (n+i) d:=by
 simp only[KQ]
 rw[Lv]
def kM (l:List Int)(L L':List (List Int)):Prop:=∀y,y∈L'↔y=l\/y∈L
theorem kM.frame {l:List Int}{L L' A B:List (List Int)}(h:kM l L L'):kM l (A++(L++B)) (A++(L'++B)):=by
 intro y
 have:=h y
 simp only[Kk]
 grind
structure jK (x x':St)(P P':List Nat):Prop where
 le:x.N<=x'.N
 aA:∀p,p<x.N->p∉P->x'.T p=x.T p
 nodup:P'.Nodup
 mem:∀p∈P',p∈P\/(x.N<=p/\p<x'.N)
 len:P'.length+x.N=P.length+x'.N
theorem jK.trans {x x' x'':St}{P P' P'':List Nat}(h:jK x x' P P')(k:jK x' x'' P' P''):jK x x'' P P'' where
 le:=K4 h.le k.le
 aA p hp hn:=(k.aA p (Nat.lt_of_lt_of_le hp h.le) λq=>by
  rcases h.mem p q with u|u
  ·exact hn u
  ·omega).trans (h.aA p hp hn)
 nodup:=k.nodup
 mem p hp:=by
  have h1:=h.le
  have h2:=k.le
  rcases k.mem p hp with u|u
  ·rcases h.mem p u with v|v
   ·exact .inl v
   ·exact .inr (by omega)
  ·exact .inr (by omega)
 len:=by have:=h.len;have:=k.len;omega
theorem jK.frame {x x':St}{P P' X Y:List Nat}(h:jK x x' P P')(hn:(X++(P++Y)).Nodup)(hl:∀p∈X++(P++Y),p<x.N):jK x x' (X++(P++Y)) (X++(P'++Y)) where
 le:=h.le
 aA p hp hq:=h.aA p hp λu=>hq (by simp[u])
 nodup:=by
  have key:∀p∈P',p∉P->x.N<=p:=λp hp hq=>by
   rcases h.mem p hp with u|u
   ·exact absurd u hq
   ·exact u.1
  rw[La] at hn ⊢
  obtain⟨n1,n2,n3⟩:=hn
  rw[La] at n2
  obtain⟨n4,n5,n6⟩:=n2
  refine⟨n1,La.2 ⟨h.nodup,n5,λa ha b hb=>?_⟩,λa ha b hb=>?_⟩
  ·intro e
   subst e
   by_cases q:a∈P
   ·exact n6 a q a hb rfl
   ·have:=key a ha q
    have:=hl a (by simp[hb])
    omega
  ·intro e
   subst e
   rcases Kk.1 hb with u|u
   ·by_cases q:a∈P
    ·exact n3 a ha a (by simp[q]) rfl
    ·have:=key a u q
     have:=hl a (by simp[ha])
     omega
   ·exact n3 a ha a (by simp[u]) rfl
 mem p hp:=by
  have:=h.mem p
  simp only[Kk] at hp ⊢
  grind
 len:=by
  have:=h.len
  simp only[Kv]
  omega
theorem jK.cons {x x':St}{P P':List Nat}{p:Nat}(h:jK x x' P P')(hn:(p::P).Nodup)(hl:∀y∈p::P,y<x.N):jK x x' (p::P) (p::P'):=by
 have:=jK.frame (X:=[p]) (Y:=[]) h (by simpa using hn) (by simpa using hl)
 simpa using this
structure Nd.rv (n:Nd)(W above:Nat)(s:Span):Prop where
 leaf:above=0->n.kids=[]
 inner:0<above->n.kids.length=n.rows.length+1
 one:1<=n.rows.length
 holds:s.holds n.rows=true
 cols:∀l∈n.rows,l.length=W/\bQ l
 kids:∀k∈n.kids,k<4294967296
 near:(n.kids=[]/\(n.rows.length - 1)*(aF (W:Int)).toNat<=504)\/(n.kids.length=n.rows.length+1/\2+4*(n.kids.length - 1)+(n.rows.length - 1)*(aF (W:Int)).toNat<=504)
theorem Tn.mk {x:St}{W depth a ab:Nat}{s:Span}{n:Nd}{L:List (List Int)}{Q:List Nat}(hW:W<=16)(hp:ab<x.N)(hT:x.T ab=n.ab)(hf:n.my W depth a s)(hb:Body x W depth a s n L Q):Tn x W depth a ab s L (ab::Q):=by
 refine BM.2 ⟨n,Q,?_,hf,hb,rfl⟩
 unfold St.node
 rw[if_pos hp,hT]
 exact hf.read hW
theorem Body.congr {x x':St}{W depth a:Nat}{s:Span}{n:Nd}{L:List (List Int)}{Q:List Nat}(h:Body x W depth a s n L Q)(hN:x.N<=x'.N)(hT:∀p∈Q,x'.T p=x.T p):Body x' W depth a s n L Q:=by
 cases a with
 |zero=>exact h
 |succ a=>
   obtain⟨Ls,Ps,⟨k1,k2,k3,k4⟩,h2,h3⟩:=h
   exact⟨Ls,Ps,⟨k1,k2,k3,λi hi=>(k4 i hi).congr hN λp hp=>hT p (by rw[h3];exact mz hp)⟩,h2,h3⟩
theorem Eb {s:Span}{n:Nd}{i:Nat}(hi:i<=n.rows.length/2)(h2:1<=n.rows.length):Span.of ⟨s.low,some n.up⟩ n.left i=s.of n i:=by
 have e0:n.left.rows=n.rows.take (n.rows.length/2):=rfl
 have e1:n.left.rows.length=n.rows.length/2:=by rw[e0,KF];omega
 unfold Span.of
 rw[e1]
 congr 1
 ·split
  ·rw[e0,getD_take (by omega)]
  ·rfl
 ·rw[if_pos (show i<n.rows.length by omega)]
  split
  ·rw[e0,getD_take (by omega)]
  ·rw[show i=n.rows.length/2 by omega];rfl
theorem B9 {s:Span}{n:Nd}{i:Nat}(hk:n.kids≠[])(h2:1<=n.rows.length):Span.of ⟨some n.up,s.high⟩ n.right i=s.of n (n.rows.length/2+1+i):=by
 have e0:n.right.rows=n.rows.drop (n.rows.length/2+1):=by unfold Nd.right;rw[if_neg hk]
 have e1:n.right.rows.length=n.rows.length - (n.rows.length/2+1):=by rw[e0,KS]
 unfold Span.of
 rw[e1]
 congr 1
 ·rw[if_pos (show 0<n.rows.length/2+1+i by omega)]
  split
  ·rw[e0,iT,show n.rows.length/2+1+(i - 1)=n.rows.length/2+1+i - 1 by omega]
  ·rw[show i=0 by omega];rfl
 ·by_cases q:i<n.rows.length - (n.rows.length/2+1)
  ·rw[if_pos q,if_pos (by omega),e0,iT]
  ·rw[if_neg q,if_neg (by omega)]
theorem Body.cut {x:St}{W depth a:Nat}{s:Span}{n:Nd}{L:List (List Int)}{Q:List Nat}(h:Body x W depth a s n L Q)(hn:n.rv W a s)(h2:2<=n.rows.length):
  ∃L1 L2 Q1 Q2,Body x W depth a ⟨s.low,some n.up⟩ n.left L1 Q1/\Body x W depth a ⟨some n.up,s.high⟩ n.right L2 Q2/\L=L1++L2/\Q=Q1++Q2/\(a=0->L1≠[]/\L2≠[]):=by
 cases a with
 |zero=>
   obtain⟨h1,h3,h4⟩:=h
   have er:n.right=⟨[],n.rows.drop (n.rows.length/2)⟩:=by unfold Nd.right;rw[if_pos h1]
   refine⟨n.rows.take (n.rows.length/2),n.rows.drop (n.rows.length/2),[],[],⟨by unfold Nd.left;rw[h1];simp,rfl,rfl⟩,?_,by rw[h3,LW],h4,λ_=>⟨?_,?_⟩⟩
   ·rw[er];exact⟨rfl,rfl,rfl⟩
   ·intro q
    have:=congrArg NH q
    rw[KF,MI] at this
    omega
   ·intro q
    have:=congrArg NH q
    rw[KS,MI] at this
    omega
 |succ a=>
   obtain⟨Ls,Ps,⟨k1,k2,k3,k4⟩,h3,h4⟩:=h
   have hk:n.kids≠[]:=by intro q;rw[q] at k1;simp at k1
   have er:n.right=⟨n.kids.drop (n.rows.length/2+1),n.rows.drop (n.rows.length/2+1)⟩:=by unfold Nd.right;rw[if_neg hk]
   have el:n.left=⟨n.kids.take (n.rows.length/2+1),n.rows.take (n.rows.length/2)⟩:=rfl
   refine⟨(Ls.take (n.rows.length/2+1)).flatten,(Ls.drop (n.rows.length/2+1)).flatten,(Ps.take (n.rows.length/2+1)).flatten,(Ps.drop (n.rows.length/2+1)).flatten,⟨_,_,⟨?_,?_,?_,λi hi=>?_⟩,rfl,rfl⟩,⟨_,_,⟨?_,?_,?_,λi hi=>?_⟩,rfl,rfl⟩,?_,?_,λq=>by omega⟩
   ·rw[el];simp only[KF];omega
   ·rw[el];simp only[KF];omega
   ·rw[el];simp only[KF];omega
   ·have hi':i<n.rows.length/2+1:=by
     rw[el] at hi
     simp only[KF] at hi
     omega
    rw[Eb (by omega) (by omega),getD_take hi',getD_take hi']
    have:=k4 i (by omega)
    rw[el]
    rwa [getD_take hi']
   ·rw[er];simp only[KS];omega
   ·rw[er];simp only[KS];omega
   ·rw[er];simp only[KS];omega
   ·have hi':n.rows.length/2+1+i<n.kids.length:=by
     rw[er] at hi
     simp only[KS] at hi
     omega
    rw[B9 hk (by omega),iT,iT]
    have:=k4 _ hi'
    rw[er]
    rwa [iT]
   ·rw[h3,<-OF,LW]
   ·rw[h4,<-OF,LW]
theorem uS {x:St}{p:Nat}{Q1 Q2:List Nat}(hn:(p::(Q1++Q2)).Nodup)(hl:∀y∈p::(Q1++Q2),y<x.N):((p::Q1)++(x.N::Q2)).Nodup:=by
 have e:((p::Q1)++(x.N::Q2)).Perm (x.N::(p::(Q1++Q2))):=List.perm_middle
 refine e.nodup_iff.2 (Lw.2 ⟨λq=>?_,hn⟩)
 have:=hl _ q
 omega
theorem Gz {n:Nd}{W a:Nat}{s:Span}(hn:n.rv W a s)(h2:2<=n.rows.length):s.Has n.up/\(∀b,s.low=some b->je b n.up)/\n.up.length=W/\bQ n.up:=by
 obtain⟨q1,q2⟩:=cD.1 hn.holds
 have hk:n.rows.length/2<n.rows.length:=by omega
 have e:n.up=n.rows[n.rows.length/2]:=bU hk
 have hm:n.up∈n.rows:=by rw[e];exact Kt _
 refine⟨q2 _ hm,λb hb=>?_,hn.cols _ hm⟩
 have h0:=(q2 _ (Kt (show 0<n.rows.length by omega))).1 b hb
 have h1:=cM (bx hn.holds) (i:=0) (j:=n.rows.length/2) (by omega) hk
 rw[bU (by omega)] at h1
 exact HZ h0 h1
inductive vT (x:St)(W depth a ab:Nat)(s:Span)(l:List Int)(L:List (List Int))(P:List Nat)(N1:Nat):Hf->Prop
 |put {x':St} {L':List (List Int)} {P':List Nat}:Tn x' W depth a ab s L' P'->kM l L L'->jK x x' P P'->x'.N<=N1->vT x W depth a ab s l L P N1 (.ok true none x')
 |cut {x':St} {g:Nat} {up:List Int} {L1 L2:List (List Int)} {P1 P2:List Nat}:Tn x' W depth a ab ⟨s.low,some up⟩ L1 P1->Tn x' W depth a g ⟨some up,s.high⟩ L2 P2->kM l L (L1++L2)->jK x x' P (P1++P2)->s.Has up->(∀b,s.low=some b->je b up)->up.length=W->bQ up->(a=0->L1≠[]/\L2≠[])->x'.N<=N1+1->vT x W depth a ab s l L P N1 (.ok true (some (g,up)) x')
theorem Nd.rv.G4 {n:Nd}{W depth a:Nat}{s:Span}(h:n.rv W a s)(hf:n.bytes.length<=504):n.my W depth a s:=
 ⟨h.leaf,λq=>⟨h.inner q,h.one⟩,h.holds,λ_ q=>by have:=h.one;rw[q] at this;simp at this,h.cols,h.kids,hf⟩
theorem BP {l:List (List Int)}(h:gS l)(k:Nat):gS (l.take k):=h.sublist (R7 _ _)
theorem Be {l:List (List Int)}(h:gS l)(k:Nat):gS (l.drop k):=h.sublist (R9 _ _)
theorem zq {n:Nd}{W depth a:Nat}{s:Span}(h:n.rv W a s)(h2:2<=n.rows.length)(hf:n.left.bytes.length<=504):n.left.my W depth a ⟨s.low,some n.up⟩:=by
 have e0:n.left.rows=n.rows.take (n.rows.length/2):=rfl
 have e1:n.left.rows.length=n.rows.length/2:=by rw[e0,KF];omega
 have ek:n.left.kids=n.kids.take (n.rows.length/2+1):=rfl
 obtain⟨q1,q2⟩:=cD.1 h.holds
 refine⟨λq=>by rw[ek,h.leaf q];rfl,λq=>⟨by rw[ek,e1,KF,h.inner q];omega,by rw[e1];omega⟩,cD.2 ⟨BP q1 _,λl hl=>⟨(q2 l (LF hl)).1,λb hb=>?_⟩⟩,λ_ q=>by rw[q] at e1;simp at e1;omega,λl hl=>h.cols l (LF hl),λk hk=>h.kids k (LF hk),hf⟩
 have hb:n.up=b:=Kq hb
 rw[<-hb]
 obtain⟨i,hi,rfl⟩:=L8.1 hl
 rw[e1] at hi
 have:=cM (bx h.holds) (i:=i) (j:=n.rows.length/2) hi (by omega)
 rw[bU (by omega)] at this
 simp only[e0,OZ]
 exact this
theorem xK {n:Nd}{W depth a:Nat}{s:Span}(h:n.rv W a s)(h2:2<=n.rows.length)(h3:0<a->3<=n.rows.length)(hf:n.right.bytes.length<=504):n.right.my W depth a ⟨some n.up,s.high⟩:=by
 obtain⟨q1,q2⟩:=cD.1 h.holds
 have above:∀i,n.rows.length/2<=i->i<n.rows.length->¬je (n.rows.getD i []) n.up:=λi hi hl q=>by
  rcases K8 (n.rows.length/2) i with u|u
  ·exact bM _ (bJ q (cM (bx h.holds) u hl))
  ·rw[show i=n.rows.length/2 by omega] at q
   exact bM _ q
 have sub:∀k,n.rows.length/2<=k->∀l∈n.rows.drop k,l∈n.rows/\¬je l n.up:=λk hk l hl=>by
  refine⟨LG hl,?_⟩
  obtain⟨i,hi,rfl⟩:=L8.1 hl
  rw[KS] at hi
  have:=above (k+i) (by omega) (by omega)
  rw[bU (by omega)] at this
  rw[Og];exact this
 have mk:∀k,n.rows.length/2<=k->Span.holds ⟨some n.up,s.high⟩ (n.rows.drop k)=true:=λk hk=>cD.2 ⟨Be q1 _,λl hl=>⟨λb hb=>by
  have hb:n.up=b:=Kq hb
  rw[<-hb];exact(sub k hk l hl).2,(q2 l (sub k hk l hl).1).2⟩⟩
 by_cases hk:n.kids=[]
 ·have ha:a=0:=by
   rcases L9 a with u|u
   ·exact u
   ·have:=h.inner u;rw[hk] at this;simp at this
  have er:n.right=⟨[],n.rows.drop (n.rows.length/2)⟩:=by unfold Nd.right;rw[if_pos hk]
  rw[er] at hf ⊢
  refine⟨λ_=>rfl,λq=>by omega,mk _ (Kl _),λ_ q=>?_,λl hl=>h.cols l (LG hl),λk hk=>(by cases hk),hf⟩
  have:=congrArg NH q
  simp only[KS,MI] at this
  omega
 ·have ha:0<a:=by
   rcases L9 a with u|u
   ·exact absurd (h.leaf u) hk
   ·exact u
  have hin:=h.inner ha
  have h3:=h3 ha
  have er:n.right=⟨n.kids.drop (n.rows.length/2+1),n.rows.drop (n.rows.length/2+1)⟩:=by unfold Nd.right;rw[if_neg hk]
  rw[er] at hf ⊢
  refine⟨λq=>by omega,λq=>⟨by simp only[KS];omega,by simp only[KS];omega⟩,mk _ (by omega),λ_ q=>?_,λl hl=>h.cols l (LG hl),λk hk=>h.kids k (LG hk),hf⟩
  have:=congrArg NH q
  simp only[KS,MI] at this
  omega
theorem y6 {n:Nd}{W a:Nat}{s:Span}(hW:W<=16)(h:n.rv W a s)(hf:n.full W a=true):4<=n.rows.length:=by
 obtain⟨_,_,f3,f4⟩:=jV hW
 unfold Nd.full at hf
 simp only[Lo,KD,decide_eq_true_eq] at hf
 rcases hf with ⟨_,q⟩|q
 ·omega
 ·rcases L9 a with u|u
  ·rw[h.leaf u] at q;simp at q;omega
  ·have:=h.inner u;omega
theorem CH {x:St}{W q depth a ab:Nat}{s:Span}{n:Nd}{l:List Int}{L0 L:List (List Int)}{Q:List Nat}(hW:W<=16)(hn:n.rv W a s)(hb:Body x W depth a s n L Q)(hnd:(ab::Q).Nodup)(hlt:∀p∈ab::Q,p<x.N)(hq:x.N<q)(hp:kM l L0 L):
  vT x W depth a ab s l L0 (ab::Q) x.N (x.fin W q a ab n):=by
 have hpage:ab<x.N:=hlt _ Kw
 have hpQ:ab∉Q:=(Lw.1 hnd).1
 obtain⟨b1,b2⟩:=sZ hW (λl hl=>(hn.cols l hl).1) hn.one hn.near
 unfold St.fin
 cases hf:n.full W a with
 |false=>
   rw[if_neg (by simp)]
   have fit:=b1 a (λu v=>by have:=hn.inner u;rw[v] at this;simp at this) hn.leaf hf
   refine .put (L':=L) (P':=ab::Q) (Tn.mk hW hpage (by unfold St.put;exact cW _ _ _) (hn.G4 fit) (hb.congr (Kl _) λp hp=>?_)) hp ⟨Kl _,λp _ hp=>?_,hnd,λp hp=>.inl hp,rfl⟩ (Kl _)
   ·unfold St.put;exact bH λe=>hpQ (e▸hp)
   ·unfold St.put;exact bH λe=>hp (e▸Kw)
 |true=>
   rw[if_pos rfl,if_pos hq]
   have h4:=y6 hW hn hf
   obtain⟨c1,c2⟩:=b2 a hf (by omega)
   obtain⟨L1,L2,Q1,Q2,g1,g2,rfl,rfl,g5⟩:=hb.cut hn (by omega)
   obtain⟨u1,u2,u3,u4⟩:=Gz hn (by omega)
   have hT:∀p,p≠ab->p≠x.N->((x.more n.right).put ab n.left).T p=x.T p:=λp h1 h2=>by
    unfold St.put St.more
    exact(bH h1).trans (bH h2)
   have hN1:∀p∈Q1++Q2,p≠ab/\p≠x.N:=λp hp=>⟨λe=>hpQ (e▸hp),λe=>by have:=hlt p (KO _ hp);omega⟩
   refine .cut (L1:=L1) (L2:=L2) (P1:=ab::Q1) (P2:=x.N::Q2) (Tn.mk hW (by show ab<x.N+1;omega) (by unfold St.put;exact cW _ _ _) (zq hn (by omega) c1) (g1.congr (Lj _) λp hp=>?_)) (Tn.mk hW (Oy _) ?_ (xK hn (by omega) (λ_=>by omega) c2) (g2.congr (Lj _) λp hp=>?_)) hp ⟨Lj _,λp h1 h2=>?_,uS hnd hlt,λp hp=>?_,?_⟩ u1 u2 u3 u4 g5 (Kl _)
   ·obtain⟨e1,e2⟩:=hN1 p (Kk.2 (.inl hp));exact hT p e1 e2
   ·unfold St.put St.more
    exact(bH (by omega)).trans (cW _ _ _)
   ·obtain⟨e1,e2⟩:=hN1 p (Kk.2 (.inr hp));exact hT p e1 e2
   ·exact hT p (λe=>h2 (e▸Kw)) (by omega)
   ·rcases Kk.1 hp with u|u
    ·refine .inl ?_
     rcases Ku.1 u with v|v
     ·rw[v];exact Kw
     ·exact KO _ (Kk.2 (.inl v))
    ·rcases Ku.1 u with v|v
     ·exact .inr ⟨by omega,by show p<x.N+1;omega⟩
     ·exact .inl (KO _ (Kk.2 (.inr v)))
   ·show (ab::Q1++x.N::Q2).length+x.N=(ab::(Q1++Q2)).length+(x.N+1)
    simp only[Kv,K1];omega
theorem zO {n:Nd}{W depth:Nat}{s:Span}{l:List Int}(hW:W<=16)(h:n.my W depth 0 s)(hl:l.length=W/\bQ l)(hs:s.Has l)(hn:sameAt n.rows l=false):l∉n.rows/\(Nd.mk n.kids (aY (below l n.rows) l n.rows)).rv W 0 s:=by
 have hk:=h.leaf rfl
 obtain⟨q1,q2⟩:=cD.1 h.holds
 have hb:=gF l n.rows
 have hr:=bx h.holds
 have lo:∀i,i<below l n.rows->je (n.rows.getD i []) l:=λi hi=>j3 hi
 have hi:∀i,below l n.rows<=i->i<n.rows.length->je l (n.rows.getD i []):=by
  intro i h1 h2
  have e:n.child l=below l n.rows:=by unfold Nd.child;rw[hn];rfl
  exact qH hr (by omega) h2
 have hnot:l∉n.rows:=by
  intro hm
  obtain⟨i,h1,e⟩:=L8.1 hm
  have e:n.rows.getD i []=l:=(bU h1).trans e
  rcases K8 i (below l n.rows) with u|u
  ·have:=lo i u;rw[e] at this;exact bM _ this
  ·have:=hi i u h1;rw[e] at this;exact bM _ this
 refine⟨hnot,λ_=>hk,λq=>by omega,by rw[aS];omega,cD.2 ⟨su q1 hb lo hi,λy hy=>?_⟩,λy hy=>?_,λk hk'=>h.kids k hk',.inl ⟨hk,?_⟩⟩
 ·rcases dF.1 hy with u|u
  ·exact q2 y u
  ·rw[u];exact hs
 ·rcases dF.1 hy with u|u
  ·exact h.cols y u
  ·rw[u];exact hl
 ·rw[aS]
  have:=h.fit
  rw[Nd.cd hW λl hl=>(h.cols l hl).1,if_pos hk] at this
  simp only[Nv]
  omega
theorem Ah {n:Nd}{s:Span}{l:List Int}(hr:gR n.rows=true)(hs:s.Has l):(s.of n (n.child l)).Has l:=by
 have hc:=iO (n:=n) (l:=l)
 constructor
 ·intro a ha
  unfold Span.of at ha
  simp only at ha
  split at ha
  ·rename_i h0
   have ha:n.rows.getD (n.child l - 1) []=a:=Kq ha
   rw[<-ha]
   intro q
   unfold Nd.child at q h0
   split at q
   ·rename_i hsm
    rw[Nv,(bV.1 hsm).2] at q
    exact bM _ q
   ·rename_i hsm
    rw[if_neg hsm] at h0
    exact bM _ (bJ q (j3 (by omega)))
  ·exact hs.1 a ha
 ·intro a ha
  unfold Span.of at ha
  simp only at ha
  split at ha
  ·rename_i h0
   have ha:n.rows.getD (n.child l) []=a:=Kq ha
   rw[<-ha]
   exact qH hr (Kl _) h0
  ·exact hs.2 a ha
theorem oZ {α:Type}{Ls:List (List α)}{c:Nat}(h:c<Ls.length):Ls.flatten=(Ls.take c).flatten++(Ls.getD c []++(Ls.drop (c+1)).flatten):=by
 conv=>lhs;rw[<-LW c Ls]
 rw[OF,List.drop_eq_getElem_cons h,List.flatten_cons,KQ,Kg h];rfl
theorem sN {α:Type}{Ps:List (List α)}(hn:Ps.flatten.Nodup){i j:Nat}(hi:i<Ps.length)(hj:j<Ps.length)(hij:i≠j){p:α}(h1:p∈Ps.getD i [])(h2:p∈Ps.getD j []):False:=by
 unfold List.Nodup at hn
 rw[List.pairwise_flatten] at hn
 have h3:=List.pairwise_iff_getElem.1 hn.2
 rw[KQ,Kg hi] at h1
 rw[KQ,Kg hj] at h2
 rcases K8 i j with u|u
 ·exact h3 i j hi hj u p h1 p h2 rfl
 ·exact h3 j i hj hi (by omega) p h2 p h1 rfl
section
variable {x:St}{W depth:Nat}
theorem Df.one {x x':St}{a c:Nat}{s:Span}{n:Nd}{Ls:List (List (List Int))}{Ps:List (List Nat)}{L':List (List Int)}{P':List Nat}(h:Df (Tn x W depth a) s n Ls Ps)(hc:c<n.kids.length)(hnd:Ps.flatten.Nodup)(g:jK x x' (Ps.getD c []) P')(hT:Tn x' W depth a (n.kids.getD c 0) (s.of n c) L' P'):
  Df (Tn x' W depth a) s n (Ls.take c++L'::Ls.drop (c+1)) (Ps.take c++P'::Ps.drop (c+1)):=by
 obtain⟨k1,k2,k3,k4⟩:=h
 refine⟨k1,by simp only[Kv,KF,K1,KS];omega,by simp only[Kv,KF,K1,KS];omega,λi hi=>?_⟩
 have eL:Ls.take c++L'::Ls.drop (c+1)=Ls.set c L':=(O2 ..).trans (if_pos (by omega)) |>.symm
 have eP:Ps.take c++P'::Ps.drop (c+1)=Ps.set c P':=(O2 ..).trans (if_pos (by omega)) |>.symm
 rw[eL,eP]
 by_cases e:i=c
 ·subst e
  simp only[KQ,Rf (show i<Ls.length by omega),Rf (show i<Ps.length by omega),Mn]
  exact hT
 ·have e1:(Ls.set c L').getD i []=Ls.getD i []:=by simp only[KQ,RH (M7 e)]
  have e2:(Ps.set c P').getD i []=Ps.getD i []:=by simp only[KQ,RH (M7 e)]
  rw[e1,e2]
  refine(k4 i hi).congr g.le λp hp=>g.aA p ((k4 i hi).lt p hp) λu=>?_
  exact sN hnd (show i<Ps.length by omega) (show c<Ps.length by omega) e hp u
theorem wA {α:Type}{l:List α}{c:Nat}{u v d:α}(hc:c<l.length)(i:Nat):(l.take c++u::v::l.drop (c+1)).getD i d=if i<c then l.getD i d else if i=c then u else if i=c+1 then v else l.getD (i - 1) d:=by
 simp only[KQ]
 split
 ·rename_i hi
  rw[KT (by rw[KF];omega),Lh,if_pos hi]
 ·rename_i hi
  rw[Lf (by rw[KF];omega),KF,Mx (by omega)]
  split
  ·rename_i e;subst e;rw[Nat.sub_self];rfl
  ·rename_i e
   split
   ·rename_i e2;subst e2;rw[show c+1 - c=1 by omega];rfl
   ·obtain⟨j,hj⟩:∃j,i - c=j+1+1:=⟨i - c - 2,by omega⟩
    rw[hj,LL,LL,Lv,show c+1+j=i - 1 by omega]
theorem Hj {s:Span}{n:Nd}{c g:Nat}{up:List Int}(hc:c<=n.rows.length)(i:Nat)(hi:i<=n.rows.length+1):
  s.of ⟨aY (c+1) g n.kids,aY c up n.rows⟩ i=if i<c then s.of n i else if i=c then ⟨(s.of n c).low,some up⟩ else if i=c+1 then ⟨some up,(s.of n c).high⟩ else s.of n (i - 1):=by
 unfold Span.of
 simp only[aS,qO hc]
 by_cases h1:i<c
 ·have e1:i - 1<c:=by omega
  have e2:i<n.rows.length+1:=by omega
  have e3:i<n.rows.length:=by omega
  simp only[h1,e1,e2,e3,if_true]
 ·by_cases h2:i=c
  ·subst h2
   have e2:i<n.rows.length+1:=by omega
   simp only[h1,e2,if_true,if_false,Span.mk.injEq,and_true]
   split
   ·rw[if_pos (by omega)]
   ·rfl
  ·by_cases h3:i=c+1
   ·subst h3
    have e1:0<c+1:=by omega
    have e2:¬c+1 - 1<c:=by omega
    have e3:c+1 - 1=c:=by omega
    by_cases h4:c<n.rows.length
    ·have e4:c+1<n.rows.length+1:=by omega
     simp only[h1,h2,e1,e3,h4,e4,RL,if_true,if_false]
    ·have e4:¬c+1<n.rows.length+1:=by omega
     simp only[h1,h2,e1,e3,h4,e4,RL,if_true,if_false]
   ·have e1:0<i:=by omega
    have e2:0<i - 1:=by omega
    have e3:¬i - 1<c:=by omega
    have e4:¬i - 1=c:=by omega
    by_cases h4:i - 1<n.rows.length
    ·have e5:i<n.rows.length+1:=by omega
     simp only[h1,h2,h3,e1,e2,e3,e4,e5,h4,if_true,if_false]
    ·have e5:¬i<n.rows.length+1:=by omega
     simp only[h1,h2,h3,e1,e2,e3,e4,e5,h4,if_true,if_false]
theorem Df.two {x x':St}{a c g:Nat}{s:Span}{n:Nd}{Ls:List (List (List Int))}{Ps:List (List Nat)}{L1 L2:List (List Int)}{P1 P2:List Nat}{up:List Int}(h:Df (Tn x W depth a) s n Ls Ps)(hc:c<n.kids.length)(hnd:Ps.flatten.Nodup)(gr:jK x x' (Ps.getD c []) (P1++P2))
  (h1:Tn x' W depth a (n.kids.getD c 0) ⟨(s.of n c).low,some up⟩ L1 P1) (h2:Tn x' W depth a g ⟨some up,(s.of n c).high⟩ L2 P2):
  Df (Tn x' W depth a) s ⟨aY (c+1) g n.kids,aY c up n.rows⟩ (Ls.take c++L1::L2::Ls.drop (c+1)) (Ps.take c++P1::P2::Ps.drop (c+1)):=by
 obtain⟨k1,k2,k3,k4⟩:=h
 refine⟨by simp only[aS];omega,by simp only[Kv,KF,K1,KS,aS];omega,by simp only[Kv,KF,K1,KS,aS];omega,λi hi=>?_⟩
 simp only[aS] at hi
 rw[Hj (by omega) i (by omega),wA (by omega),wA (by omega)]
 simp only[qO (show c+1<=n.kids.length by omega)]
 have old:∀j,j<n.kids.length->j≠c->Tn x' W depth a (n.kids.getD j 0) (s.of n j) (Ls.getD j []) (Ps.getD j []):=λj hj e=>by
  refine(k4 j hj).congr gr.le λp hp=>gr.aA p ((k4 j hj).lt p hp) λu=>?_
  exact sN hnd (show j<Ps.length by omega) (show c<Ps.length by omega) e hp u
 by_cases q1:i<c
 ·rw[if_pos q1,if_pos q1,if_pos q1,if_pos (show i<c+1 by omega)]
  exact old i (by omega) (by omega)
 ·rw[if_neg q1,if_neg q1,if_neg q1]
  by_cases q2:i=c
  ·subst q2
   rw[if_pos rfl,if_pos rfl,if_pos rfl,if_pos (show i<i+1 by omega)]
   exact h1
  ·rw[if_neg q2,if_neg q2,if_neg q2,if_neg (show ¬i<c+1 by omega)]
   by_cases q3:i=c+1
   ·rw[if_pos q3,if_pos q3,if_pos q3,if_pos q3]
    exact h2
   ·rw[if_neg q3,if_neg q3,if_neg q3,if_neg q3]
    exact old (i - 1) (by omega) (by omega)
theorem Bn {q:Nat}{l:List Int}(hW:W<=16)(hl:l.length=W/\bQ l):∀{a:Nat} {x:St} {ab:Nat} {s:Span} {L:List (List Int)} {P:List Nat},Tn x W depth a ab s L P->P.Nodup->s.Has l->x.N+a<q->x.N+a<4294967296->
  (l∈L/\x.add W q depth l a ab s=.ok false none x)\/(l∉L/\vT x W depth a ab s l L P (x.N+a) (x.add W q depth l a ab s))
 |0,x,ab,s,L,P,hT,hnd,hs,hq,hN=>by
   have hlt:=hT.lt
   have hpg:=hT.ab
   obtain⟨n,h1,h2,h3,h4⟩:=hT
   subst h3;subst h4
   unfold St.add
   rw[h1]
   cases hsm:sameAt n.rows l with
   |true=>
     refine .inl ⟨?_,if_pos hsm⟩
     obtain⟨u1,u2⟩:=bV.1 hsm
     rw[bU u1] at u2
     exact u2▸Kt _
   |false=>
     obtain⟨hnot,near⟩:=zO hW h2 hl hs hsm
     refine .inr ⟨hnot,?_⟩
     simp only[hsm,Bool.false_eq_true,if_false]
     refine CH (q:=q) (L0:=n.rows) (L:=aY (below l n.rows) l n.rows) (Q:=[]) hW near ⟨h2.leaf rfl,rfl,rfl⟩ hnd hlt (by omega) λy=>?_
     rw[dF];exact Or.comm
 |a+1,x,ab,s,L,P,hT,hnd,hs,hq,hN=>by
   have hlt:=hT.lt
   have hpg:=hT.ab
   obtain⟨n,Ls,Ps,h1,h2,hk,h4,h5⟩:=hT
   obtain⟨k1,k2,k3,k4⟩:=hk
   subst h4;subst h5
   have hnd':=Lw.1 hnd
   have hr:=bx h2.holds
   have hcl:=iO (n:=n) (l:=l)
   generalize hc:n.child l=c at hcl
   have hck:c<n.kids.length:=by omega
   have hcT:=k4 c hck
   have hsc:(s.of n c).Has l:=hc▸Ah hr hs
   have eP:=oZ (Ls:=Ps) (c:=c) (by omega)
   have eL:=oZ (Ls:=Ls) (c:=c) (by omega)
   have hPc:(Ps.getD c []).Nodup:=by
    have:=hnd'.2
    rw[eP] at this
    exact(La.1 (La.1 this).2.1).1
   have ih:=Bn (q:=q) hW hl hcT hPc hsc (by omega) (by omega)
   have hnot:l∉Ls.getD c []->l∉Ls.flatten:=by
    intro hno hm
    obtain⟨i,hi,hmi⟩:=kH hm
    have hsi:=((k4 i (by omega)).rows.2 l hmi).1
    rcases K8 i c with u|u
    ·exact bM _ (oR h2.holds u hcl hsi hsc)
    ·rcases K8 c i with v|v
     ·exact bM _ (oR h2.holds v (by omega) hsc hsi)
     ·exact hno (by rw[show c=i by omega];exact hmi)
   have hadd:x.add W q depth l (a+1) ab s=match x.add W q depth l a (n.kids.getD c 0) (s.of n c) with
    |.ok _ (some m) x'=>x'.fin W q (a+1) ab ⟨aY (c+1) m.1 n.kids,aY c m.2 n.rows⟩
    |r=>r:=by
    conv=>lhs;unfold St.add
    rw[h1]
    simp only[hc]
    generalize x.add W q depth l a (n.kids.getD c 0) (s.of n c)=r
    rcases r with _|_|⟨_,_|_,_⟩<;>rfl
   rw[hadd]
   have hframe:∀{x' P'},jK x x' (Ps.getD c []) P'->jK x x' Ps.flatten ((Ps.take c).flatten++(P'++(Ps.drop (c+1)).flatten)):=λ{x' P'} g=>by
    have:=jK.frame (X:=(Ps.take c).flatten) (Y:=(Ps.drop (c+1)).flatten) g (by rw[<-eP];exact hnd'.2) (by rw[<-eP];exact λp hp=>hlt p (KO _ hp))
    rwa [<-eP] at this
   have hplus:∀{L'},kM l (Ls.getD c []) L'->kM l Ls.flatten ((Ls.take c).flatten++(L'++(Ls.drop (c+1)).flatten)):=λ{L'} g=>by
    have:=kM.frame (A:=(Ls.take c).flatten) (B:=(Ls.drop (c+1)).flatten) g
    rwa [<-eL] at this
   have hpc:ab∉Ps.getD c []:=λu=>hnd'.1 (mz u)
   rcases ih with ⟨i1,i2⟩|⟨i1,i2⟩
   ·rw[i2]
    exact .inl ⟨mz i1,rfl⟩
   ·refine .inr ⟨hnot i1,?_⟩
    generalize hr':x.add W q depth l a (n.kids.getD c 0) (s.of n c)=r at i2
    cases i2 with
    |put t1 p1 g1 n1=>
      rename_i x' L' P'
      have gf:=(hframe g1).cons hnd hlt
      have hk':=Df.one ⟨k1,k2,k3,k4⟩ hck hnd'.2 g1 t1
      refine .put (L':=(Ls.take c).flatten++(L'++(Ls.drop (c+1)).flatten)) (P':=ab::((Ps.take c).flatten++(P'++(Ps.drop (c+1)).flatten))) ?_ (hplus p1) gf (by omega)
      exact⟨n,_,_,k0 g1.le (g1.aA ab hpg.2 hpc) h1,h2,hk',by simp,by simp⟩
    |cut t1 t2 p1 g1 u1 u2 u3 u4 u5 n1=>
      rename_i x' g up L1 L2 P1 P2
      have gf:=(hframe g1).cons hnd hlt
      have hk':=Df.two ⟨k1,k2,k3,k4⟩ hck hnd'.2 g1 t1 t2
      have hi2:=h2.inner (Om _)
      obtain⟨q1,q2⟩:=cD.1 h2.holds
      have hup:s.Has up:=Cr h2.holds hcl u1
      have near:(Nd.mk (aY (c+1) g n.kids) (aY c up n.rows)).rv W (a+1) s:=by
       refine⟨λu=>by omega,λ_=>by simp only[aS];omega,by simp only[aS];omega,cD.2 ⟨su q1 hcl (λi hi=>?_) (λi h6 h7=>?_),λy hy=>?_⟩,λy hy=>?_,λk hk=>?_,.inr ⟨by simp only[aS];omega,?_⟩⟩
       ·have e:(s.of n c).low=some (n.rows.getD (c - 1) []):=if_pos (by omega)
        have h8:=u2 _ e
        rcases K8 i (c - 1) with v|v
        ·exact bJ (cM hr v (by omega)) h8
        ·rwa [show i=c - 1 by omega]
       ·have e:(s.of n c).high=some (n.rows.getD c []):=if_pos (by omega)
        have h8:=u1.2 _ e
        rcases K8 c i with v|v
        ·exact bJ h8 (cM hr v h7)
        ·rwa [show i=c by omega]
       ·rcases dF.1 hy with v|v
        ·exact q2 y v
        ·rw[v];exact hup
       ·rcases dF.1 hy with v|v
        ·exact h2.cols y v
        ·rw[v];exact⟨u3,u4⟩
       ·rcases dF.1 hk with v|v
        ·exact h2.kids k v
        ·rw[v];have:=t2.ab.2;omega
       ·have hf:=h2.fit
        have hke:n.kids≠[]:=by intro v;rw[v] at k1;simp at k1
        rw[Nd.cd hW λl hl=>(h2.cols l hl).1,if_neg hke] at hf
        simp only[aS,Nv]
        omega
      have hpn:=gf.nodup
      have hlt':∀p∈ab::((Ps.take c).flatten++((P1++P2)++(Ps.drop (c+1)).flatten)),p<x'.N:=λp hp=>by
       rcases gf.mem p hp with v|v
       ·have:=hlt p v;have:=g1.le;omega
       ·exact v.2
      have hb:Body x' W depth (a+1) s ⟨aY (c+1) g n.kids,aY c up n.rows⟩ ((Ls.take c).flatten++((L1++L2)++(Ls.drop (c+1)).flatten)) ((Ps.take c).flatten++((P1++P2)++(Ps.drop (c+1)).flatten)):=⟨_,_,hk',by simp,by simp⟩
      have hfin:=CH (q:=q) (l:=l) (L0:=Ls.flatten) hW near hb hpn hlt' (by omega) (hplus p1)
      show vT x W depth (a+1) ab s l Ls.flatten (ab::Ps.flatten) (x.N+(a+1)) (x'.fin W q (a+1) ab ⟨aY (c+1) g n.kids,aY c up n.rows⟩)
      generalize x'.fin W q (a+1) ab ⟨aY (c+1) g n.kids,aY c up n.rows⟩=r2 at hfin
      cases hfin with
      |put f1 f2 f3 f4=>exact .put f1 f2 (gf.trans f3) (by omega)
      |cut f1 f2 f3 f4 f5 f6 f7 f8 f9 f10=>exact .cut f1 f2 f3 (gf.trans f4) f5 f6 f7 f8 f9 (by omega)
end
open Go.MapKept
theorem St.Fc {x:St}{w:Int}{q above ab:Nat}{n:Nd}{f:Bool}{o:Option (Nat×List Int)}{x':St}(h:x.fin w q above ab n=.ok f o x'):x.N<=x'.N:=by
 unfold St.fin at h
 split at h
 ·split at h
  ·cases h;exact Lj _
  ·cases h
 ·cases h;exact Kl _
theorem St.CI {x:St}{w:Int}{q depth:Nat}{l:List Int}:∀{above ab:Nat} {s:Span} {f:Bool} {o:Option (Nat×List Int)} {x':St},x.add w q depth l above ab s=.ok f o x'->x.N<=x'.N
 |0,ab,s,f,o,x',h=>by
   unfold St.add at h
   split at h
   ·cases h
   ·split at h
    ·cases h;exact Kl _
    ·exact St.Fc h
 |above+1,ab,s,f,o,x',h=>by
   unfold St.add at h
   split at h
   ·cases h
   ·split at h
    ·rename_i hr
     exact K4 (St.CI hr) (St.Fc h)
    ·exact St.CI h
theorem Step.drop {F F1 F2:Nat->Prop}{H A B:aa}{nb:Nat}(S:Step F F1 H A)(hn:H.size<=nb)(T:Step (λb=>F1 b\/b=nb) (λb=>F2 b\/b=nb) A B):Step F F2 H B:=by
 have hz:=S.mod.size
 refine⟨⟨by have:=T.mod.size;omega,λb hb hF=>?_⟩,λb hb=>?_⟩
 ·rw[T.mod.same b (by omega) λu=>by
   rcases u with u|u
   ·rcases S.own b u with v|v
    ·exact hF v
    ·omega
   ·omega]
  exact S.mod.same b hb hF
 ·rcases T.own b (.inl hb) with u|u
  ·rcases u with u|u
   ·exact S.own b u
   ·exact .inr (by omega)
  ·exact .inr (by omega)
def qi (l:Sl)(b:Nat):Prop:=∃ad,l.a=some ad/\ad.block=b
section
variable {k p dp:Nat}{t:Tr}{q:Nat}{I:Pl->St->Nat->Prop}{B C:Pl->Int->Prop}{ll:List Int}{l:Sl}
def zZ (K:(Bool×Option Addr×Sl×Int)->aa->Prop)(W base:Nat)(l:Sl)(F:Nat->Prop)(H:aa)(fresh:Bool):Option (Nat×List Int)->Prop
 |none=>K (fresh,none,jJ,0) H
 |some (pg,ul)=>ul.length=W->∀mb v1 v2 up,ag H mb nU #[.int .i64 (pg:Int),v1,v2]->¬F mb->base<=mb->dH (λb=>F b\/(b<base/\¬qi l b)) H up ul->K (fresh,some ⟨mb,0,none⟩,up,0) H
set_option maxHeartbeats 4000000 in
theorem yq {W above ab base:Nat}{F:Nat->Prop}{H:aa}{s:Pl}{x:St}{m nb:Nat}{sk sr:Sl}{n:Nd}{K:(Bool×Option Addr×Sl×Int)->aa->Prop}(S:ib t.name q I B C)(hw:t.width=(W:Int))(hW:W<=16)
  (hI:I s x m) (hm:m+2<=30000000000) (hg:Gl H) (ht:aR H k p t) (hp:an F H p dp s) (hk:¬F k) (hkb:k<base) (hnb:base<=nb) (hbH:base<=H.size)
  (hn:cz (λb=>F b\/(b<base/\¬qi l b)) H nb (ab:Int) sk sr n) (hck:sk.n<=sk.c) (hcr:sr.n<=sr.c) (hpx:ab<x.N) (hcols:∀r∈n.rows,r.length=W) (h1:1<=n.rows.length)
  (hshape:(above=0/\n.kids=[]/\(n.rows.length - 1)*(aF (W:Int)).toNat<=504)\/(0<above/\n.kids.length=n.rows.length+1/\2+4*(n.kids.length - 1)+(n.rows.length - 1)*(aF (W:Int)).toNat<=504))
  (hK1:∀fresh o x',x.fin t.width q above ab n=.ok fresh o x'->∀F' H' s',an F' H' p dp s'->Step (λb=>F b\/b=nb) (λb=>F' b\/b=nb) H H'->I s' x' (m+2)->zZ K W base l F' H' fresh o)
  (hKB:x.fin t.width q above ab n=.quota->∀F' H' s' e f o up,an F' H' p dp s'->Step (λb=>F b\/b=nb) (λb=>F' b\/b=nb) H H'->B s' e->K (f,o,up,e) H')
  (hKC:∀F' H' s' e f o up,an F' H' p dp s'->Step (λb=>F b\/b=nb) (λb=>F' b\/b=nb) H H'->C s' e->K (f,o,up,e) H'):
  cut (Option Addr×Sl) (λJ_1=>∃G_2:aa->Prop,G_2 H/\br ((above:Int)==(0:Int)) (ae (aD nb) λa_10=>cP ao G_2 (a_10.add 2) λ(x_9:Sl)=>ae (aD k) λa_11=>ld (af .i64) H (a_11.add 2) λ(x_10:Int)=>Bt.sp x_10 H λ(r_7:Int) H18=>G_2 H18/\br (decide ((x_9.n:Int)>r_7)) (wU.sp (aD k) (aD nb) H18 λ(r_8:(Option Addr×Sl×Int)) H19=>br (r_8.2.2!=(0:Int)) (K (false,none,(Sl.mk none 0 0),r_8.2.2) H19) (J_1 (r_8.1,r_8.2.1) H19)) (ae (aD nb) λa_12=>cP ao G_2 (a_12.add 1) λ(x_11:Sl)=>AN.sp (aD k) H18 λ(r_9:Int) H20=>G_2 H20/\br (decide ((x_11.n:Int)>r_9)) (wU.sp (aD k) (aD nb) H20 λ(r_10:(Option Addr×Sl×Int)) H21=>br (r_10.2.2!=(0:Int)) (K (false,none,(Sl.mk none 0 0),r_10.2.2) H21) (J_1 (r_10.1,r_10.2.1) H21)) (J_1 (none,(Sl.mk none 0 0)) H20))) (ae (aD nb) λa_13=>cP ao G_2 (a_13.add 1) λ(x_12:Sl)=>AN.sp (aD k) H λ(r_11:Int) H22=>G_2 H22/\br (decide ((x_12.n:Int)>r_11)) (wU.sp (aD k) (aD nb) H22 λ(r_12:(Option Addr×Sl×Int)) H23=>br (r_12.2.2!=(0:Int)) (K (false,none,(Sl.mk none 0 0),r_12.2.2) H23) (J_1 (r_12.1,r_12.2.1) H23)) (J_1 (none,(Sl.mk none 0 0)) H22))) λ(z_1:(Option Addr×Sl)) H17=>uE.sp (aD k) (aD nb) H17 λ(r_13:Int) H24=>K (true,z_1.1,z_1.2,r_13) H24:=by
 have hrln:=hn.rows.len
 have hkln:sk.n=n.kids.length:=by have:=hn.kids.len;simpa using this
 have hkn:k≠nb:=by omega
 have hsz:=bL (W:Int)
 obtain⟨f1,f2,f3,f4⟩:=jV hW
 obtain⟨s1,s2⟩:=nE hW
 have hmul:n.rows.length - 1<=(n.rows.length - 1)*(aF (W:Int)).toNat:=NW _ (by omega)
 have hrows:n.rows.length<=505:=by rcases hshape with ⟨_,_,u⟩|⟨_,_,u⟩<;>omega
 have hkids:n.kids.length<=504:=by
  rcases hshape with ⟨_,u,_⟩|⟨_,_,u⟩
  ·rw[u];simp
  ·omega
 have hin:n.kids=[]\/n.kids.length=n.rows.length+1:=by rcases hshape with ⟨_,u,_⟩|⟨_,u,_⟩;exact .inl u;exact .inr u
 have hab:(0<above->n.kids≠[])/\(above=0->n.kids=[]):=by
  rcases hshape with ⟨u,v,_⟩|⟨u,v,_⟩
  ·exact⟨λw=>by omega,λ_=>v⟩
  ·exact⟨λ_ w=>by rw[w] at v;simp at v,λw=>by omega⟩
 obtain⟨hf1,hf2⟩:=sZ hW hcols h1 (by rcases hshape with ⟨_,u⟩|⟨_,u⟩;exact .inl u;exact .inr u)
 have hcol16:∀r∈n.rows,r.length<=16:=λr hr=>by rw[hcols r hr];exact hW
 unfold St.fin at hK1 hKB
 rw[hw] at hK1 hKB
 -- the new node, cut off
 have hsplit:∀(J:Option Addr×Sl->aa->Prop) (A:aa),Ext H A->n.full W above=true->
   (x.N<q->∀F' H' s' mb v1 v2 up skl srl,an F' H' p dp s'->Step (λb=>F b\/b=nb) (λb=>F' b\/b=nb) H H'->I s' (x.more n.right) (m+1)->cz (λb=>F' b\/(b<base/\¬qi l b)) H' nb (ab:Int) skl srl n.left->
    ag H' mb nU #[.int .i64 (x.N:Int),v1,v2]->¬F' mb->mb≠nb->base<=mb->dH (λb=>(F' b\/(b<base/\¬qi l b))\/b=nb) H' up n.up->J (some ⟨mb,0,none⟩,up) H')->
   wU.sp (aD k) (aD nb) A λ(r_8:(Option Addr×Sl×Int)) H19=>br (r_8.2.2!=(0:Int)) (K (false,none,(Sl.mk none 0 0),r_8.2.2) H19) (J (r_8.1,r_8.2.1) H19):=by
  intro J A eA hf hJ
  have h2:2<=n.rows.length:=by
   unfold Nd.full at hf
   simp only[Lo,KD,decide_eq_true_eq] at hf
   rcases hf with ⟨_,u⟩|u
   ·omega
   ·rcases hin with v|v
    ·rw[v] at u;simp at u;omega
    ·omega
  have hq:=hf2 above hf h2
  have hrr:n.right.rows.length<=504:=by
   unfold Nd.right
   split
   ·show (n.rows.drop _).length<=_;rw[KS];omega
   ·show (n.rows.drop _).length<=_;rw[KS];omega
  have hzA:=eA.size
  have SA:Step (λb=>F b\/b=nb) (λb=>F b\/b=nb) H A:=.bp eA
  refine zd (X:=λb=>b<base/\¬qi l b) S hI (by omega) (hg.mod eA id) (ht.ext eA) (hp.ext eA) hk hkn (hn.step (.bp eA)) hck hcr h1 hin hq.2 hkids (by omega) hrr hcol16 (λhN F' H' s' mb v1 v2 up skl srl p1 S1 I1 n1 r1 c1 c2 c3 u1=>?_) (λhN F' H' s' e o up p1 S1 hB=>?_) (λF' H' s' e o up p1 S1 hC=>?_)
  ·refine ax rfl ?_
   exact hJ hN F' H' s' mb v1 v2 up skl srl p1 (SA.trans S1) I1 n1 r1 c1 c2 (by omega) u1
  ·refine aT (by have:=(S.errB hB).1;simpa using this) ?_
   refine hKB ?_ F' H' s' e _ _ _ p1 (SA.trans S1) hB
   rw[if_pos hf,if_neg hN]
  ·refine aT (by have:=(S.errC hC).1;simpa using this) ?_
   exact hKC F' H' s' e _ _ _ p1 (SA.trans S1) hC
 obtain⟨JJ,hJJ⟩:∃JJ:Option Addr×Sl->aa->Prop,∀z A,JJ z A↔((n.full W above=true/\x.N<q/\∃F' s' mb v1 v2 up skl srl,z=(some (⟨mb,0,none⟩:Addr),up)/\an F' A p dp s'/\Step (λb=>F b\/b=nb) (λb=>F' b\/b=nb) H A/\I s' (x.more n.right) (m+1)/\cz (λb=>F' b\/(b<base/\¬qi l b)) A nb (ab:Int) skl srl n.left/\
    ag A mb nU #[.int .i64 (x.N:Int),v1,v2]/\¬F' mb/\mb≠nb/\base<=mb/\dH (λb=>(F' b\/(b<base/\¬qi l b))\/b=nb) A up n.up)\/(n.full W above=false/\z=(none,jJ)/\Ext H A)):=⟨_,λ_ _=>Pe⟩
 refine⟨JJ,?_,?_⟩
 ·refine⟨λD=>Ext H D,.refl _ _,?_⟩
  have hfanT:∀(A:aa),Ext H A->(decide (above=0)&&decide ((n.rows.length:Int)>lV W))=false->
    ae (aD nb) λa_12=>cP ao (λD=>Ext H D) (a_12.add 1) λ(x_11:Sl)=>AN.sp (aD k) A λ(r_9:Int) H20=>Ext H H20/\br (decide ((x_11.n:Int)>r_9)) (wU.sp (aD k) (aD nb) H20 λ(r_10:(Option Addr×Sl×Int)) H21=>br (r_10.2.2!=(0:Int)) (K (false,none,(Sl.mk none 0 0),r_10.2.2) H21) (JJ (r_10.1,r_10.2.1) H21)) (JJ (none,(Sl.mk none 0 0)) H20):=by
   intro A eA hr
   unfold aD
   simp only[aq]
   refine ag.cP (c:=ao) (i:=1) (x:=sk) (cs:=λ_=>#[.int .i64 (ab:Int),sk.v,sr.v]) (λD hD=>hn.row.ext hD) (λ_ _=>rfl) ?_
   refine Et (ht.ext eA) hw hW λA2 e2=>?_
   have eA2:=eA.trans e2
   refine⟨eA2,?_⟩
   refine ak (λhc=>?_) (λhc=>?_)
   ·have hf:n.full W above=true:=by
     unfold Nd.full
     rw[hr,RK,<-hkln];exact hc
    exact hsplit JJ A2 eA2 hf λhN F' H' s' mb v1 v2 up skl srl p1 S1 I1 n1 r1 c1 c2 c3 u1=>(hJJ _ _).2 (.inl ⟨hf,hN,F',s',mb,v1,v2,up,skl,srl,rfl,p1,S1,I1,n1,r1,c1,c2,c3,u1⟩)
   ·have hf:n.full W above=false:=by
     unfold Nd.full
     rw[hr,RK,<-hkln];exact hc
    exact(hJJ _ _).2 (.inr ⟨hf,rfl,eA2⟩)
  refine ak (λhc=>?_) (λhc=>?_)
  ·have ha0:above=0:=by
    have:(above:Int)=0:=by simpa using hc
    omega
   unfold aD
   simp only[aq]
   refine ag.cP (c:=ao) (i:=2) (x:=sr) (cs:=λ_=>#[.int .i64 (ab:Int),sk.v,sr.v]) (λD hD=>hn.row.ext hD) (λ_ _=>rfl) ?_
   refine ag.ld (c:=af .i64) (i:=2) (x:=t.width) ht rfl ?_
   rw[hw]
   refine kZ ?_
   refine⟨.refl _ _,?_⟩
   refine ak (λhc2=>?_) (λhc2=>?_)
   ·have hf:n.full W above=true:=by
     unfold Nd.full
     rw[ha0,<-hrln,hc2];rfl
    exact hsplit JJ H (.refl _ _) hf λhN F' H' s' mb v1 v2 up skl srl p1 S1 I1 n1 r1 c1 c2 c3 u1=>(hJJ _ _).2 (.inl ⟨hf,hN,F',s',mb,v1,v2,up,skl,srl,rfl,p1,S1,I1,n1,r1,c1,c2,c3,u1⟩)
   ·exact hfanT H (.refl _ _) (by rw[<-hrln,hc2];simp)
  ·have ha0:above≠0:=λu=>by subst u;simp at hc
   exact hfanT H (.refl _ _) (by simp[ha0])
 ·intro z A hz
  rcases (hJJ z A).1 hz with (⟨hf,hN,F',s',mb,v1,v2,up,skl,srl,rfl,p1,S1,I1,n1,r1,c1,c2,c3,u1⟩|⟨hf,rfl,eA⟩)
  ·have h2:2<=n.rows.length:=by
    unfold Nd.full at hf
    simp only[Lo,KD,decide_eq_true_eq] at hf
    rcases hf with ⟨_,u⟩|u
    ·omega
    ·rcases hin with v|v
     ·rw[v] at u;simp at u;omega
     ·omega
   have hq:=hf2 above hf h2
   have hkF:¬F' k:=λu=>by
    rcases S1.own k (.inl u) with v|v
    ·rcases v with v|v
     ·exact hk v
     ·exact hkn v
    ·omega
   have htA:aR A k p t:=ht.mod S1.mod λu=>u.elim hk hkn
   have hgA:Gl A:=hg.mod S1.mod λu=>u.elim hp.du λv=>by
    have q2:=hg 0 (by decide)
    rw[v] at q2
    have:=cv (o:=0) hn.row (v:=.int .i64 (ab:Int)) rfl
    rw[this] at q2;cases q2
   have hlk:n.left.kids.length<=504:=by show (n.kids.take _).length<=_;rw[KF];omega
   have hlr:n.left.rows.length<=504:=by show (n.rows.take _).length<=_;rw[KF];omega
   refine oQ S I1 (by omega) hgA htA p1 hkF hkn (n1.mono λb _ u=>.inl u) (by show ab<x.N+1;omega) hq.1 hlk hlr (λr hr=>hcol16 r (LF hr)) (λF3 H3 s3 p3 S3 I3 n3=>?_) (λF3 H3 s3 e p3 S3 c4 hC=>?_)
   ·have:=hK1 true (some (x.N,n.up)) ((x.more n.right).put ab n.left) (by rw[if_pos hf,if_pos hN]) F3 H3 s3 p3 (S1.trans S3) I3
    have hul:n.up.length=W:=by
     unfold Nd.up
     rw[bU (by omega)]
     exact hcols _ (Kt _)
    have r3:ag H3 mb nU #[.int .i64 (x.N:Int),v1,v2]:=r1.mod S3.mod λu=>u.elim c1 c2
    have c5:¬F3 mb:=λu=>by
     rcases S3.own mb (.inl u) with v|v
     ·exact v.elim c1 c2
     ·have:=aG r1;omega
    have S3X:Step (λb=>(F' b\/(b<base/\¬qi l b))\/b=nb) (λb=>(F3 b\/(b<base/\¬qi l b))\/b=nb) A H3:=S3.HN (λb _ u=>u.elim (λv=>.inl (.inl v)) .inr) λb u=>by
     rcases u with (u|u)|u
     ·exact .inl (.inl u)
     ·exact .inr (.inl (.inl (.inr u)))
     ·exact .inl (.inr u)
    exact this hul mb v1 v2 up r3 c5 c3 ((u1.step S3X).mono λb _ u=>.inl u)
   ·exact hKC F3 H3 s3 e _ _ _ p3 (S1.trans S3) hC
  ·have SA:Step (λb=>F b\/b=nb) (λb=>F b\/b=nb) H A:=.bp eA
   have hfit:=hf1 above hab.1 hab.2 hf
   have hr5:n.rows.length<=504:=by
    have hb:=Nd.cd hW hcols
    have hmul2:n.rows.length<=n.rows.length*(aF (W:Int)).toNat:=NW _ (by omega)
    omega
   refine oQ S hI (by omega) (hg.mod eA id) (ht.ext eA) (hp.ext eA) hk hkn ((hn.step (.bp eA)).mono λb _ u=>.inl u) hpx hfit hkids hr5 hcol16 (λF3 H3 s3 p3 S3 I3 n3=>?_) (λF3 H3 s3 e p3 S3 c4 hC=>?_)
   ·exact hK1 true none (x.put ab n) (by rw[if_neg (by rw[hf];simp)]) F3 H3 s3 p3 (SA.trans S3) (S.up I3 (by omega))
   ·exact hKC F3 H3 s3 e _ _ _ p3 (SA.trans S3) hC
end
section
variable {k p dp:Nat}{t:Tr}{q:Nat}{I:Pl->St->Nat->Prop}{B C:Pl->Int->Prop}{x:St}{ll:List Int}{l:Sl}
theorem pS {W depth above:Nat}{w:Int}{n:Nd}{s:Span}(hw:w=(W:Int))(ok:n.Ok w depth above s):n.kids=[]/\above=0/\n.rows.length*(aF (W:Int)).toNat<=504\/0<above/\n.kids.length=n.rows.length+1/\2+4*n.kids.length+n.rows.length*(aF (W:Int)).toNat<=504:=by
 have hf:=ok.fit
 rw[hw] at hf
 rcases L9 above with h|h
 ·have hk:=ok.leaf h
  rw[if_pos hk] at hf
  exact .inl ⟨hk,h,by omega⟩
 ·obtain⟨i1,i2,i3⟩:=ok.inner h
  have hk:n.kids≠[]:=λu=>by rw[u] at i1;simp at i1
  rw[if_neg hk] at hf
  exact .inr ⟨h,i1,by omega⟩
set_option maxHeartbeats 1000000 in
theorem fl.BD {F:Nat->Prop}{H:aa}{base z nb i:Nat}{ab:Int}{sk sr l0 l1:Sl}{l1l:List Int}{rs:List Sl}{n:Nd}{Q:aa->Prop}(o:fl F H base nb ab sk sr rs n)(hz:z<=base)(hF:∀b,F b->b<H.size)(hzH:z<=H.size)
  (lOk:dH (λc=>F c\/(c<z/\¬qi l0 c)) H l1 l1l) (hln:∀ad,l1.a=some ad->¬ai sr ad.block/\ad.block≠nb/\¬ai sk ad.block) (hi:i<=n.rows.length) (hbig:n.rows.length<=1000000)
  (hQ:∀A sr',ag A nb nU #[.int .i64 ab,sk.v,sr'.v]->cJ (λc=>((F c\/(c<z/\¬qi l0 c))\/c=nb)\/ai sk c) A sr' (aY i l1l n.rows)->sr'.n<=sr'.c->az A 0 dA 1 sk ((n.kids.map MO).map (Km .i64))->Mod (λc=>ai sr c\/c=nb) H A->Q A):
  aM H #[l1.v] dn λp_1 H5=>Di.sp sr (i:Int) (Sl.mk (some p_1) 1 1) H5 λ(r_2:Sl) H6=>st H6 (K0 ⟨nb,0,none⟩ 2) r_2.v λH7=>Q H7:=by
 have hnb:=o.nb
 have hX:∀c,(c<z/\¬qi l0 c)->c<base\/c=nb:=λc u=>.inl (by omega)
 have qr:=o.q (X:=λc=>c<z/\¬qi l0 c) hX
 have hlq:dH (λc=>(F c\/(c<z/\¬qi l0 c))\/ai sr c) H l1 l1l:=by
  refine⟨λad ha=>⟨(lOk.off ad ha).1,λu=>?_⟩,lOk.ints⟩
  rcases u with u|u
  ·exact(lOk.off ad ha).2 u
  ·exact(hln ad ha).1 u
 refine qr.ins hlq (λc u=>?_) hi hbig λsr' A qa ma ba=>?_
 ·rcases u with u|u
  ·exact hF c u
  ·omega
 have hnA:¬ai sr nb:=o.IY
 have rA:ag A nb nU #[.int .i64 ab,sk.v,sr.v]:=o.row.mod ma hnA
 refine ag.st rA (i:=2) (by simp) rfl λA2 rA2 mA2 zA2=>?_
 have hzA:=ma.size
 have qn:=qa.Jy
 have hcap:=qa.out.cap
 have hskA:∀c,ai sk c->¬ai sr c:=o.kids.apart o.rows.out (by decide)
 have kidsA2:az A2 0 dA 1 sk ((n.kids.map MO).map (Km .i64)):=(o.kids.mod ma hskA).mod mA2 λc u v=>o.IV (v▸u)
 have hsr'nb:∀c,ai sr' c->c≠nb:=λc u v=>by
  obtain⟨cur,hcu⟩:=qa.out.obj _ u
  rw[v] at hcu
  exact absurd (aW hcu rA) (by decide)
 have hrow:∀j (hj:j<(aY i l1l n.rows).length),∃ad r,sr'.a=some ad/\bI A (ad.add j)=some (Sl.v r)/\fL (λc=>((F c\/(c<z/\¬qi l0 c))\/c=nb)\/ai sk c) A r/\Ints .u64 A r ((aY i l1l n.rows)[j]):=by
  intro j hj
  have hir:j<(aY i l1 rs).length:=by rw[qa.len];exact hj
  obtain⟨ad,ha,hc'⟩:=qa.out.reads.at (i:=j) (by simpa using hir)
  have hr:=qa.row j _ _ (Kg hir) (Kg hj)
  refine⟨ad,_,ha,by simpa using hc',λad' ha'=>⟨(hr.off ad' ha').1,λu=>?_⟩,hr.ints⟩
  have hm:(aY i l1 rs)[j]∈rs\/(aY i l1 rs)[j]=l1:=dF.1 (Kt hir)
  rcases u with (u|u)|u
  ·exact(hr.off ad' ha').2 (.inl u)
  ·rcases hm with v|v
   ·exact o.Jf _ v ⟨ad',ha',u⟩
   ·rw[v] at ha'
    exact(hln ad' ha').2.1 u
  ·rcases hm with v|v
   ·obtain⟨lv,hlv⟩:=o.rows.rowAt v
    exact hlv.apart o.kids (by decide) _ ⟨ad',ha',rfl⟩ u
   ·rw[v] at ha'
    exact(hln ad' ha').2.2 u
 have qn2:cJ (λc=>((F c\/(c<z/\¬qi l0 c))\/c=nb)\/ai sk c) A2 sr' (aY i l1l n.rows):=by
  refine⟨qn.len,λad ha=>⟨by have:=(qn.off ad ha).1;omega,λu=>?_⟩,λj hj=>?_⟩
  ·rcases u with (u|u)|u
   ·exact(qn.off ad ha).2 u
   ·exact hsr'nb _ ⟨ad,ha,rfl⟩ u
   ·exact qa.out.apart (o.kids.mod ma hskA) (by decide) _ ⟨ad,ha,rfl⟩ u
  ·obtain⟨ad,r,w1,w2,w3,w4⟩:=hrow j hj
   refine⟨ad,r,w1,mA2.cell w2 (by rw[bO];exact hsr'nb _ ⟨ad,w1,rfl⟩),λad' ha'=>⟨by have:=(w3 ad' ha').1;omega,(w3 ad' ha').2⟩,w4.mod mA2 λad' ha' u=>(w3 ad' ha').2 (.inl (.inr u))⟩
 exact hQ A2 sr' rA2 qn2 hcap kidsA2 ((ma.mono λ_ _ u=>.inl u).trans (mA2.mono λ_ _ u=>.inr u))
set_option maxHeartbeats 4000000 in
theorem Dz {W depth:Nat}(S:ib t.name q I B C)(hw:t.width=(W:Int))(hW:W<=16)(hd:t.depth=(depth:Int))(hlw:ll.length=W):∀(above ab:Nat) (sp:Span) (a b:Sl) (F:Nat->Prop) (H:aa) (s:Pl) (m:Nat) (K:(Bool×Option Addr×Sl×Int)->aa->Prop),
  I s x m->m+3*(above+1)<=30000000000->above<=1000000->Gl H->aR H k p t->an F H p dp s->¬F k->ab<=1000000000000->dQ F H a b sp->dH F H l ll->
  (∀fresh o x',x.add t.width q depth ll above ab sp=.ok fresh o x'->∀F' H' s',an F' H' p dp s'->Step F F' H H'->I s' x' (m+3*(above+1))->zZ K W H.size l F' H' fresh o)->
  (x.add t.width q depth ll above ab sp=.store->∀F' H' s',an F' H' p dp s'->Step F F' H H'->I s' x (m+3*(above+1))->K (false,none,jJ,280) H')->
  (x.add t.width q depth ll above ab sp=.quota->∀F' H' s' e f o up,an F' H' p dp s'->Step F F' H H'->B s' e->K (f,o,up,e) H')->
  (∀F' H' s' e f o up,an F' H' p dp s'->Step F F' H H'->C s' e->K (f,o,up,e) H')->A8.sp (aD k) (ab:Int) (above:Int) a b l H K:=by
 intro above
 induction above with
 |zero=>
   intro ab sp a b F H s m K hI hm _ hg ht hp hk hpg hs hl hK1 hK2 hKB hKC
   refine A8.of ?_
   unfold A8.vc
   have hT:=(S.pre hI).2.2.2.2.2
   refine ar λH1 z1 r1 e1=>?_
   have hkl:=aG ht
   have T1:Step F F H H1:=.bp e1
   refine ag.jq (c:=fQ [ao,ao]) (x:=(a,b)) r1 rfl rfl ?_
   unfold St.add at hK1 hK2 hKB
   refine lY (above:=0) S hI (by omega) (hg.mod e1 id) (ht.ext e1) (hp.ext e1) hk hpg (hs.step T1) hd (λn hn F2 H2 s2 nb sk sr rs p2 S2 I2 o2=>?_) (λhn F2 H2 s2 p2 S2 I2=>?_) (λF2 H2 s2 e p2 S2 hC=>?_)
   rotate_left
   ·refine aT rfl ?_
    rw[hn] at hK2
    exact hK2 rfl F2 H2 s2 p2 (T1.trans S2) (S.up I2 (by omega))
   ·refine aT (by have:=(S.errC hC).1;simpa using this) ?_
    exact hKC F2 H2 s2 e _ _ _ p2 (T1.trans S2) hC
   refine ax rfl ?_
   rw[hn] at hK1 hKB
   simp only at hK1 hKB
   have T2:=T1.trans S2
   have hx:ab<x.N:=by
    unfold St.node at hn
    split at hn
    ·assumption
    ·cases hn
   have ok:=ij hT hn
   have hsize:=ok.size
   have hk0:=ok.leaf rfl
   have hcols:∀r∈n.rows,r.length<=16:=λr hr=>by rw[ok.cols r hr,hw];simpa using hW
   have t2:aR H2 k p t:=(ht.ext e1).mod S2.mod hk
   have hg2:Gl H2:=hg.mod T2.mod hp.du
   have hkF:¬F2 k:=λu=>(T2.own _ u).elim hk λv=>by omega
   have hz2:=T2.mod.size
   have hnb:=o2.nb
   have l2:dH F2 H2 l ll:=hl.step T2
   have nr:=o2.read
   refine⟨λ_ A=>sameAt n.rows ll=false/\∃sk' sr',cz (λb=>F2 b\/(b<H.size/\¬qi l b)) A nb (ab:Int) sk' sr' ⟨n.kids,aY (below ll n.rows) ll n.rows⟩/\sk'.n<=sk'.c/\sr'.n<=sr'.c/\Step F F2 H A/\an F2 A p dp s2,?_,?_⟩
   ·refine aT rfl ?_
    unfold aD
    simp only[aq]
    refine ag.ld (c:=ao) (i:=2) (x:=sr) nr.row rfl ?_
    refine ua nr.rows l2.ints (bx ok.holds) hcols (by omega) ?_
    refine ak (λhc=>?_) (λhc=>?_)
    ·have hc:sameAt n.rows ll=true:=hc
     have:=hK1 false none x (by rw[if_pos hc]) F2 H2 s2 p2 T2 (S.up I2 (by omega))
     exact this
    ·have hc:sameAt n.rows ll=false:=hc
     refine ag.ld (c:=ao) (i:=2) (x:=sr) nr.row rfl ?_
     have hlX:dH (λc=>F2 c\/(c<H.size/\¬qi l c)) H2 l ll:=⟨λad ha=>⟨(l2.off ad ha).1,λu=>u.elim (l2.off ad ha).2 λv=>v.2 ⟨ad,ha,rfl⟩⟩,l2.ints⟩
     refine o2.BD (z:=H.size) (l0:=l) (by omega) (λc u=>p2.lt c u) (by omega) hlX (λad ha=>?_) (gF _ _) (by omega) λA sr' rA qA hcap kA mA=>?_
     ·have:=(hl.off ad ha).1
      exact⟨λu=>by have:=(o2.sr _ u).1;omega,by omega,λu=>by have:=(o2.sk _ u).1;omega⟩
     have mAF:∀c,ai sr c\/c=nb->H.size<=c/\¬F2 c:=λc u=>by
      rcases u with u|u
      ·have:=o2.sr c u;exact⟨by omega,this.2⟩
      ·subst u;exact⟨by omega,hnb.2⟩
     have hzA:=mA.size
     have pA:an F2 A p dp s2:=p2.aA λc hc2 hl2=>mA.same c hl2 λu=>(mAF c u).2 hc2
     have SA:Step F F2 H A:=⟨⟨by omega,λc hc2 hn2=>(mA.same c (by omega) λu=>by have:=(mAF c u).1;omega).trans (T2.mod.same c hc2 hn2)⟩,T2.own⟩
     refine⟨hc,sk,sr',⟨rA,λu=>?_,kA.ints,λad ha=>⟨(kA.block _ ⟨ad,ha,rfl⟩).2,λu=>?_⟩,qA.mono λ_ _ u=>.inl u⟩,kA.cap,hcap,SA,pA⟩
     ·rcases u with u|u
      ·exact hnb.2 u
      ·have:=u.1;omega
     ·rcases u with (u|u)|u
      ·exact(o2.sk _ ⟨ad,ha,rfl⟩).2 u
      ·have:=(o2.sk _ ⟨ad,ha,rfl⟩).1;have:=u.1;omega
      ·exact o2.IV ⟨ad,ha,u⟩
   ·rintro _ A ⟨hsm,sk',sr',nA,hck,hcr,SA,pA⟩
    rw[if_neg (by rw[hsm];simp)] at hK1 hKB
    have hkA:¬F2 k:=hkF
    have hsh:=pS hw ok
    refine yq (above:=0) (base:=H.size) (l:=l) S hw hW I2 (by omega) (hg.mod SA.mod hp.du) (ht.mod SA.mod hk) pA hkA hkl (by omega) SA.mod.size nA hck hcr hx (λr hr=>?_) ?_ ?_ (λfresh o x' hf F3 H3 s3 p3 S3 I3=>?_) (λhf F3 H3 s3 e f o up p3 S3 hB=>?_) (λF3 H3 s3 e f o up p3 S3 hC=>?_)
    ·rcases dF.1 hr with u|u
     ·rw[ok.cols r u,hw];simp
     ·rw[u];exact hlw
    ·show 1<=(aY _ _ _).length;rw[aS];omega
    ·refine .inl ⟨rfl,hk0,?_⟩
     show ((aY _ _ _).length - 1)*_<=_
     rw[aS,Nv]
     rcases hsh with ⟨_,_,u⟩|⟨u,_⟩
     ·exact u
     ·omega
    ·exact hK1 fresh o x' hf F3 H3 s3 p3 (SA.drop (by omega) S3) (S.up I3 (by omega))
    ·exact hKB hf F3 H3 s3 e f o up p3 (SA.drop (by omega) S3) hB
    ·exact hKC F3 H3 s3 e f o up p3 (SA.drop (by omega) S3) hC
 |succ above ih=>
   intro ab sp a b F H s m K hI hm hab hg ht hp hk hpg hs hl hK1 hK2 hKB hKC
   refine A8.of ?_
   unfold A8.vc
   have hT:=(S.pre hI).2.2.2.2.2
   refine ar λH1 z1 r1 e1=>?_
   have hkl:=aG ht
   have T1:Step F F H H1:=.bp e1
   refine ag.jq (c:=fQ [ao,ao]) (x:=(a,b)) r1 rfl rfl ?_
   unfold St.add at hK1 hK2 hKB
   refine lY (above:=above+1) S hI (by omega) (hg.mod e1 id) (ht.ext e1) (hp.ext e1) hk hpg (hs.step T1) hd (λn hn F2 H2 s2 nb sk sr rs p2 S2 I2 o2=>?_) (λhn F2 H2 s2 p2 S2 I2=>?_) (λF2 H2 s2 e p2 S2 hC=>?_)
   rotate_left
   ·refine aT rfl ?_
    rw[hn] at hK2
    exact hK2 rfl F2 H2 s2 p2 (T1.trans S2) (S.up I2 (by omega))
   ·refine aT (by have:=(S.errC hC).1;simpa using this) ?_
    exact hKC F2 H2 s2 e _ _ _ p2 (T1.trans S2) hC
   refine ax rfl ?_
   rw[hn] at hK1 hK2 hKB
   simp only at hK1 hK2 hKB
   have T2:=T1.trans S2
   have hx:ab<x.N:=by
    unfold St.node at hn
    split at hn
    ·assumption
    ·cases hn
   have ok:=ij hT hn
   have hsize:=ok.size
   obtain⟨i1,i2,i3⟩:=ok.inner (Om _)
   have hcols:∀r∈n.rows,r.length<=16:=λr hr=>by rw[ok.cols r hr,hw];simpa using hW
   have t2:aR H2 k p t:=(ht.ext e1).mod S2.mod hk
   have hg2:Gl H2:=hg.mod T2.mod hp.du
   have hkF:¬F2 k:=λu=>(T2.own _ u).elim hk λv=>by omega
   have hz2:=T2.mod.size
   have hnb:=o2.nb
   have l2:dH F2 H2 l ll:=hl.step T2
   have nr:=o2.read
   have hcl:=iO (n:=n) (l:=ll)
   have hs2:dQ F2 H2 a b sp:=hs.step T2
   have rp2:ag H2 H.size wG #[a.v,b.v]:=r1.mod S2.mod λu=>by have:=hp.lt _ u;omega
   generalize hc0:n.child ll=c0 at*
   generalize hsub:x.add t.width q depth ll above (n.kids.getD c0 0) (sp.of n c0)=r at*
   refine⟨λ_ A=>∃f pg ul x',r=.ok f (some (pg,ul)) x'/\ul.length=W/\∃F3 s3 sk' sr',cz (λb=>F3 b\/(b<H.size/\¬qi l b)) A nb (ab:Int) sk' sr' ⟨aY (c0+1) pg n.kids,aY c0 ul n.rows⟩/\sk'.n<=sk'.c/\sr'.n<=sr'.c/\Step F F3 H A/\an F3 A p dp s3/\I s3 x' (m+1+3*(above+1)),?_,?_⟩
   ·refine ax (by simp only[beq_eq_false_iff_ne,ne_eq];omega) ?_
    refine sV nr l2.ints (bx ok.holds) hcols (by omega) ?_
    rw[hc0]
    unfold aD
    simp only[aq]
    refine⟨λD=>Ext H2 D,.refl _ _,?_⟩
    refine ag.cP (c:=ao) (i:=1) (x:=sk) (cs:=λ_=>#[.int .i64 (ab:Int),sk.v,sr.v]) (λD hD=>nr.row.ext hD) (λ_ _=>rfl) ?_
    have hkn:sk.n=n.kids.length:=by have:=nr.kids.len;simpa using this
    obtain⟨ad,q1,q2⟩:=nr.kids.at (i:=c0) (by simp;omega)
    have hkid:(List.map MO n.kids)[c0]'(by simp;omega)=((n.kids.getD c0 0:Nat):Int):=by
     simp[KQ,Kg (show c0<n.kids.length by omega)]
    rw[hkid] at q2
    refine cg ad q1 ⟨⟨by omega,by omega⟩,((n.kids.getD c0 0:Nat):Int),λD hD=>?_,?_⟩
    ·simp only[KI,Ld]
     exact hD.cell q2 id
    refine ag.jq (c:=fQ [ao,ao]) (x:=(a,b)) rp2 rfl rfl ?_
    refine BF hs2 nr o2.HQ (by omega) (by omega) λu v A2 e2 s2'=>?_
    refine⟨e2,?_⟩
    have eab:Ke.wrap (((above+1:Nat):Int) - 1)=(above:Int):=by rw[wrap64 (by omega) (by omega)];omega
    rw[eab]
    have hzA:=e2.size
    have TA2:Step F F2 H A2:=T2.trans (.bp e2)
    have hkidlt:n.kids.getD c0 0<=1000000000000:=by
     have:n.kids.getD c0 0<4294967296:=by
      have hlt2:c0<n.kids.length:=by omega
      simp only[KQ,Kg hlt2,Mn]
      exact ok.kids _ (Kt hlt2)
     omega
    refine ih (n.kids.getD c0 0) (sp.of n c0) u v F2 A2 s2 (m+1) _ I2 (by omega) (by omega) (hg2.mod e2 id) (t2.ext e2) (p2.ext e2) hkF hkidlt s2' (l2.step (.bp e2)) (λf o x' hr F3 A3 s3 p3 S3 I3=>?_) (λhr F3 A3 s3 p3 S3 I3=>?_) (λhr F3 A3 s3 e f o up p3 S3 hB=>?_) (λF3 A3 s3 e f o up p3 S3 hC=>?_)
    rotate_left
    ·refine aT rfl ?_
     rw[hsub] at hr
     rw[hr] at hK2
     exact hK2 rfl F3 A3 s3 p3 (TA2.trans S3) (S.up I3 (by omega))
    ·refine aT (by have:=(S.errB hB).1;simpa using this) ?_
     rw[hsub] at hr
     rw[hr] at hKB
     exact hKB rfl F3 A3 s3 e _ _ _ p3 (TA2.trans S3) hB
    ·refine aT (by have:=(S.errC hC).1;simpa using this) ?_
     exact hKC F3 A3 s3 e _ _ _ p3 (TA2.trans S3) hC
    rw[hsub] at hr
    have T3:=TA2.trans S3
    cases o with
    |none=>
      unfold zZ
      dsimp only
      refine ax rfl ?_
      refine aT rfl ?_
      rw[hr] at hK1
      exact hK1 f none x' rfl F3 A3 s3 p3 T3 (S.up I3 (by omega))
    |some pu=>
      obtain⟨pg,ul⟩:=pu
      unfold zZ
      intro hul mb v1 v2 up rmb hmbF hmbz upOk
      dsimp only
      refine ax rfl ?_
      refine ax rfl ?_
      have S23:Step F2 F3 H2 A3:=(Step.bp e2).trans S3
      have o3:=o2.step S23
      have hz3:=S23.mod.size
      refine ag.ld (c:=ao) (i:=2) (x:=sr) o3.row rfl ?_
      have hupX:dH (λc=>F3 c\/(c<H.size/\¬qi l c)) A3 up ul:=upOk.mono λc _ u=>u.imp id λv=>⟨by omega,v.2⟩
      have hlb:∀c,qi l c->c<H.size:=λc ⟨ad,ha,hb⟩=>by have:=(hl.off ad ha).1;omega
      refine o3.BD (z:=H.size) (l0:=l) (by omega) (λc u=>p3.lt c u) (by omega) hupX (λad ha=>?_) hcl (by omega) λA sr' rA qA hcap kA mA=>?_
      ·have hof:=(upOk.off ad ha).2
       refine⟨λu=>?_,λu=>?_,λu=>?_⟩
       ·have h1:=(o2.sr _ u).1
        have h2:=(o2.rows.out.block _ u).2
        exact hof (.inr ⟨by omega,λw=>by have:=hlb _ w;omega⟩)
       ·have h2:=aG o2.row
        exact hof (.inr ⟨by omega,λw=>by have:=hlb _ w;omega⟩)
       ·have h1:=(o2.sk _ u).1
        have h2:=(o2.kids.block _ u).2
        exact hof (.inr ⟨by omega,λw=>by have:=hlb _ w;omega⟩)
      have hmbn:mb≠nb:=λu=>by have:=aG o2.row;omega
      have hmbsr:¬ai sr mb:=λu=>by have:=(o2.rows.out.block _ u).2;omega
      have rmbA:=rmb.mod mA λu=>u.elim hmbsr hmbn
      refine⟨λD=>Ext A D,.refl _ _,?_⟩
      refine ag.cP (c:=ao) (i:=1) (x:=sk) (cs:=λ_=>#[.int .i64 (ab:Int),sk.v,sr'.v]) (λD hD=>rA.ext hD) (λ_ _=>rfl) ?_
      refine ag.ld (c:=af .i64) (i:=0) (x:=(pg:Int)) rmbA rfl ?_
      rw[aK _ (by omega)]
      refine dm λpp A4 hpp z4 v4 e4=>?_
      refine⟨e4,?_⟩
      have hskA:=(kA.block)
      refine xQ (kA.ext e4) (ic _ _) v4 (λu=>by have:=(kA.block _ u).2;omega) (by simp;omega) (by simp;omega) λsk' A5 n5 o5 m5 b5=>?_
      have hsknb:¬ai sk nb:=λu=>by
       obtain⟨cur,hc⟩:=kA.obj _ u
       exact absurd (aW hc rA) (by decide)
      have rA5:ag A5 nb nU #[.int .i64 (ab:Int),sk.v,sr'.v]:=(rA.ext e4).mod m5 hsknb
      refine ag.st rA5 (i:=1) (by simp) rfl λA6 r6 m6 z6=>?_
      have hmA:=mA.size
      have hm4:=e4.size
      have hm5:=m5.size
      -- what lies where
      have mAF:∀c,ai sr c\/c=nb->H.size<=c/\¬F3 c:=λc u=>by
       rcases u with u|u
       ·have:=o3.sr c u;exact⟨by omega,this.2⟩
       ·subst u;exact⟨by omega,o3.nb.2⟩
      have mSK:∀c,ai sk c->H.size<=c/\¬F3 c:=λc u=>by
       have:=o3.sk c u;exact⟨by omega,this.2⟩
      have pA:an F3 A p dp s3:=p3.aA λc hc2 hl2=>mA.same c hl2 λu=>(mAF c u).2 hc2
      have pA5:an F3 A5 p dp s3:=(pA.ext e4).aA λc hc2 hl2=>m5.same c hl2 λu=>(mSK c u).2 hc2
      have pA6:an F3 A6 p dp s3:=pA5.aA λc hc2 hl2=>m6.same c hl2 λu=>o3.nb.2 (u▸hc2)
      have S6:Step F F3 H A6:=⟨⟨by have:=T3.mod.size;omega,λc hc2 hn2=>by
       have hcz:=T3.mod.size
       rw[m6.same c (by omega) (by omega),m5.same c (by omega) (λu=>by have:=(mSK c u).1;omega),e4.same c (by omega) id,mA.same c (by omega) λu=>by have:=(mAF c u).1;omega]
       exact T3.mod.same c hc2 hn2⟩,T3.own⟩
      have hsk'nb:∀c,ai sk' c->c≠nb:=λc u v=>by
       obtain⟨cur,hc⟩:=o5.obj _ u
       rw[v] at hc
       exact absurd (aW hc rA5) (by decide)
      have hsk'F:∀c,ai sk' c->H.size<=c/\¬F3 c:=λc u=>by
       rcases b5 c u with w|w
       ·exact mSK c w
       ·exact⟨by have:=T3.mod.size;omega,λw2=>by have:=pA.lt c w2;omega⟩
      have SA6:Step (λc=>((F3 c\/(c<H.size/\¬qi l c))\/c=nb)\/ai sk c) (λc=>((F3 c\/(c<H.size/\¬qi l c))\/c=nb)\/ai sk c) A A6:=⟨(((Ext.mod e4).trans (m5.mono λ_ _ u=>.inr u)).trans (m6.mono λ_ _ u=>.inl (.inr u))),λc u=>.inl u⟩
      have hkids6:az A6 0 dA 1 sk' (((aY (c0+1) pg n.kids).map MO).map (Km .i64)):=by
       rw[<-mV,<-mV]
       exact o5.mod m6 λc u v=>hsk'nb c u v
      refine⟨f,pg,ul,x',hr,hul,F3,s3,sk',sr',⟨r6,λu=>?_,hkids6.ints,λad ha=>⟨(hkids6.block _ ⟨ad,ha,rfl⟩).2,λu=>?_⟩,(qA.step SA6).mono λ_ _ u=>.inl u⟩,hkids6.cap,hcap,S6,pA6,I3⟩
      ·rcases u with u|u
       ·exact o3.nb.2 u
       ·have:=u.1;omega
      ·rcases u with (u|u)|u
       ·exact(hsk'F _ ⟨ad,ha,rfl⟩).2 u
       ·have:=(hsk'F _ ⟨ad,ha,rfl⟩).1;have:=u.1;omega
       ·exact hsk'nb _ ⟨ad,ha,rfl⟩ u
   ·rintro _ A ⟨f,pg,ul,x',hr,hul,F3,s3,sk',sr',nA,hck,hcr,SA,pA,IA⟩
    rw[hr] at hK1 hKB
    simp only at hK1 hKB
    have hkA:¬F3 k:=λu=>(SA.own _ u).elim hk λv=>by omega
    have hxN:x.N<=x'.N:=by
     rw[hr] at hsub
     exact St.CI hsub
    have hsh:=pS hw ok
    refine yq (above:=above+1) (base:=H.size) (l:=l) S hw hW IA (by omega) (hg.mod SA.mod hp.du) (ht.mod SA.mod hk) pA hkA hkl (by omega) SA.mod.size nA hck hcr (by omega) (λr hr=>?_) ?_ ?_ (λfresh o x2 hf F4 H4 s4 p4 S4 I4=>?_) (λhf F4 H4 s4 e f o up p4 S4 hB=>?_) (λF4 H4 s4 e f o up p4 S4 hC=>?_)
    ·rcases dF.1 hr with u|u
     ·rw[ok.cols r u,hw];simp
     ·rw[u];exact hul
    ·show 1<=(aY _ _ _).length;rw[aS];omega
    ·refine .inr ⟨Om _,?_,?_⟩
     ·show (aY _ _ _).length=(aY _ _ _).length+1
      rw[aS,aS];omega
     ·show 2+4*((aY _ _ _).length - 1)+((aY _ _ _).length - 1)*_<=_
      rw[aS,aS,Nv,Nv]
      rcases hsh with ⟨u,_⟩|⟨_,_,u⟩
      ·rw[u] at i1;simp at i1
      ·exact u
    ·exact hK1 fresh o x2 hf F4 H4 s4 p4 (SA.drop (by omega) S4) (S.up I4 (by omega))
    ·exact hKB hf F4 H4 s4 e f o up p4 (SA.drop (by omega) S4) hB
    ·exact hKC F4 H4 s4 e f o up p4 (SA.drop (by omega) S4) hC
end
end Go.Proofs.YtkehfflpbpdokaaGreatDoor
namespace Go.Proofs.YtkehfflpbpdokaaGreatDoor
open Go.MapKept
def Tr.ready (t:Tr):Int:=if t.wrong≠0 then t.wrong else if t.gone then 2 else 0
def Tr.jY (t:Tr)(e:Int):Tr:={t with wrong:=e}
def Tr.up (t:Tr)(f:Bool):Tr:=if f then {t with count:=t.count+1} else t
inductive AU where
 |store
 |quota
 |ok (fresh:Bool) (t:Tr) (x:St)
def Tr.grown (t:Tr)(root depth:Nat):Tr:={t with root:=(root:Int),depth:=(depth:Int)}
def St.ins (x:St)(q:Nat)(t:Tr)(root depth:Nat)(ll:List Int):AU:=
 match x.add t.width q depth ll (depth - 1) root dK with
 |.store=>.store
 |.quota=>.quota
 |.ok f none x'=>.ok f (t.up f) x'
 |.ok f (some m) x'=>if x'.N<q then .ok f ((t.grown x'.N (depth+1)).up f) (x'.more ⟨[root,m.1],[m.2]⟩) else .quota
section
variable {H:aa}{k p dp:Nat}{t:Tr}{F:Nat->Prop}{s:Pl}{q:Nat}{I:Pl->St->Nat->Prop}{B C:Pl->Int->Prop}{x:St}{m:Nat}{W root depth:Nat}{ll:List Int}{l:Sl}
theorem kD {K:Int->aa->Prop}(h:aR H k p t)(hK:K t.ready H):Bq.sp (aD k) H K:=by
 refine Bq.of ?_
 unfold Bq.vc
 unfold Tr.ready at hK
 refine ax rfl ?_
 simp only[aq,aD]
 refine ag.ld (c:=af .i64) (i:=6) (x:=t.wrong) h rfl ?_
 refine ak (λhc=>?_) (λhc=>?_)
 ·rw[if_pos (by simpa using hc)] at hK
  exact ag.ld (c:=af .i64) (i:=6) (x:=t.wrong) h rfl hK
 ·rw[if_neg (by simpa using hc)] at hK
  refine ag.ld (c:=aw) (i:=7) (x:=t.gone) h rfl ?_
  cases hg:t.gone with
  |true=>rw[hg,if_pos rfl] at hK;exact hK
  |false=>rw[hg,if_neg (by simp)] at hK;exact hK
theorem tH {e:Int}{K:Int->aa->Prop}(h:aR H k p t)(he:e≠0)(hK:∀A,aR A k p (t.jY e)->Mod (λb=>b=k) H A->A.size=H.size->K e A):sQ.sp (aD k) e H K:=by
 refine sQ.of ?_
 unfold sQ.vc
 refine aT (by simpa using he) ?_
 simp only[aq,aD]
 exact ag.st h (i:=6) (by simp[j4]) rfl λA r m z=>hK A r m z
theorem sH {K:Int->aa->Prop}(hK:K 0 H):sQ.sp (aD k) 0 H K:=by
 refine sQ.of ?_
 unfold sQ.vc
 exact ax rfl hK
theorem kJ {H:aa}{s:Sl}{l:List Int}{K:Sl->aa->Prop}(h:Ints .u64 H s l)(hl:l.length<=17592186044416)
  (hK:∀s' H',az H' 0 iB 1 s' (l.map (Km .u64))->Ext H H'->(∀b,ai s' b->H.size<=b)->K s' H'):yk.sp s H K:=by
 refine yk.of ?_
 unfold yk.vc
 have hn:=h.len
 refine ak (λhc=>?_) (λhc=>?_)
 ·have hl0:l=[]:=by
   cases l with
   |nil=>rfl
   |cons x r=>
     obtain⟨ad,e,_⟩:=h.at (i:=0) (by simp)
     rw[e] at hc;simp at hc
  subst hl0
  exact hK jJ H (az.nil _ _ _ _) (.refl _ _) λb u=>absurd u (pZ b)
 ·refine az.Bl λH1 o1 e1=>?_
  refine iY.Ar (base:=0) (s:=⟨some ⟨H.size,0,none⟩,0,0⟩) (x:=s) (ws:=l.map (Km .u64)) o1 (by simp;omega) (h.ext e1).reads (ic _ _) (by simp only;omega) (by simp only;omega) (KU _) ?_
  intro s' H2 n2 o2 m2 b2 _
  have f1:∀b,ai (Sl.mk (some ⟨H.size,0,none⟩) 0 0) b->H.size<=b:=by
   rintro b ⟨ad,ha,rfl⟩
   cases ha;exact Kl _
  refine hK s' H2 (by simpa using o2) (((Ext.mod e1).trans m2).ext f1) λb u=>?_
  rcases b2 b u with v|v
  ·exact f1 b v
  ·have:=e1.size;omega
theorem Step.all {F:Nat->Prop}{A B:aa}{k:Nat}(m:Mod (λb=>b=k) A B):Step (λb=>F b\/b=k) (λb=>F b\/b=k) A B:=⟨m.mono λ_ _ u=>.inr u,λ_ u=>.inl u⟩
theorem an.fV {F:Nat->Prop}{A B:aa}{k p dp:Nat}{s:Pl}(h:an F A p dp s)(m:Mod (λb=>b=k) A B)(hk:¬F k):an F B p dp s:=h.aA λb hb hl=>m.same b hl λu=>hk (u▸hb)
set_option maxHeartbeats 4000000 in
theorem ya {K:(Bool×Int)->aa->Prop}(S:ib t.name q I B C)(hw:t.width=(W:Int))(hW:W<=16)(hr:t.root=(root:Int))(hd:t.depth=(depth:Int))(hd1:1<=depth/\depth<=1000)(hroot:root<=1000000000000)(hcnt:0<=t.count/\t.count<=1000000000000)
  (hI:I s x m) (hm:m+4000<=30000000000) (hg:Gl H) (ht:aR H k p t) (hp:an F H p dp s) (hk:¬F k) (hl:Ints .u64 H l ll)
  (hK0:t.ready≠0->K (false,t.ready) H) (hKw:t.ready=0->ll.length≠W->K (false,60) H)
  (hK1:t.ready=0->ll.length=W->∀f t' x',x.ins q t root depth ll=.ok f t' x'->∀F' A s',an F' A p dp s'->Step (λb=>F b\/b=k) (λb=>F' b\/b=k) H A->¬F' k->aR A k p t'->I s' x' (m+4000)->K (f,0) A)
  (hK2:t.ready=0->ll.length=W->x.ins q t root depth ll=.store->∀F' A s',an F' A p dp s'->Step (λb=>F b\/b=k) (λb=>F' b\/b=k) H A->¬F' k->aR A k p (t.jY 280)->I s' x (m+4000)->K (false,280) A)
  (hKB:t.ready=0->ll.length=W->x.ins q t root depth ll=.quota->∀F' A s' e,an F' A p dp s'->Step (λb=>F b\/b=k) (λb=>F' b\/b=k) H A->¬F' k->aR A k p (t.jY e)->B s' e->K (false,e) A)
  (hKC:∀F' A s' e,an F' A p dp s'->Step (λb=>F b\/b=k) (λb=>F' b\/b=k) H A->¬F' k->aR A k p (t.jY e)->C s' e->K (false,e) A):Db.sp (aD k) l H K:=by
 refine Db.of ?_
 unfold Db.vc
 refine kD ht ?_
 refine ak (λhc=>hK0 (by simpa using hc)) (λhc=>?_)
 have hrd:t.ready=0:=by simpa using hc
 clear hK0
 unfold aD
 simp only[aq]
 refine ag.ld (c:=af .i64) (i:=2) (x:=t.width) ht rfl ?_
 have hln:=hl.len
 rw[hw]
 refine ak (λhc2=>hKw hrd (by
  have:(l.n:Int)≠(W:Int):=by simpa using hc2
  omega)) (λhc2=>?_)
 have hlw:ll.length=W:=by
  have:(l.n:Int)=(W:Int):=by simpa using hc2
  omega
 clear hKw
 have hK1:=hK1 hrd hlw
 have hK2:=hK2 hrd hlw
 have hKB:=hKB hrd hlw
 have hkl:=aG ht
 refine⟨λD=>Ext H D,.refl _ _,?_⟩
 refine ag.cP (c:=af .i64) (i:=3) (x:=t.root) (cs:=λ_=>(j4 p t).toArray) (λD hD=>ht.ext hD) (λ_ _=>rfl) ?_
 refine ag.cP (c:=af .i64) (i:=4) (x:=t.depth) (cs:=λ_=>(j4 p t).toArray) (λD hD=>ht.ext hD) (λ_ _=>rfl) ?_
 refine kJ hl (by omega) λcl H2 o2 e2 f2=>?_
 refine⟨e2,?_⟩
 rw[hr,hd]
 have ed:Ke.wrap ((depth:Int) - 1)=((depth - 1:Nat):Int):=by rw[wrap64 (by omega) (by omega)];omega
 rw[ed]
 have T2:Step F F H H2:=.bp e2
 have p2:=hp.ext e2
 have cOk:dH F H2 cl ll:=⟨λad ha=>⟨(o2.block _ ⟨ad,ha,rfl⟩).2,λu=>by have:=hp.lt _ u;have:=f2 _ ⟨ad,ha,rfl⟩;omega⟩,o2.ints⟩
 -- the ends
 have tail0:∀(f:Bool) (t1:Tr) (A:aa) (K':(Bool×Int)->aa->Prop),aR A k p t1->(0<=t1.count/\t1.count<=1000000000000)->(∀A',aR A' k p (t1.up f)->Mod (λb=>b=k) A A'->K' (f,0) A')->
   br ((0:Int)!=(0:Int)) (sQ.sp (aD k) 0 A λ(r_2:Int) H17=>K' (false,r_2) H17) (br f (ld (af .i64) A (K0 ⟨k,0,none⟩ 5) λ(x_9:Int)=>st A (K0 ⟨k,0,none⟩ 5) (.int .i64 (Ke.wrap (x_9+(1:Int)))) λH18=>K' (f,(0:Int)) H18) (K' (f,(0:Int)) A)):=by
  intro f t1 A K' h1 hc1 hk'
  refine ax rfl ?_
  cases f with
  |true=>
    refine aT rfl ?_
    refine ag.ld (c:=af .i64) (i:=5) (x:=t1.count) h1 rfl ?_
    rw[wrap64 (x:=t1.count+1) (by omega) (by omega)]
    refine ag.st h1 (i:=5) (by simp[j4]) rfl λA' r m' z=>hk' A' r m'
  |false=>exact ax rfl (hk' A h1 (.refl _ _))
 have tailE:∀(f:Bool) (e:Int) (A:aa) (M:Prop),e≠0->aR A k p t->(∀A',aR A' k p (t.jY e)->Mod (λb=>b=k) A A'->K (false,e) A')->
   br (e !=(0:Int)) (sQ.sp (aD k) e A λ(r_2:Int) H17=>K (false,r_2) H17) M:=by
  intro f e A M he h1 hk'
  exact aT (by simpa using he) (tH h1 he λA' r m' _=>hk' A' r m')
 have stepK:∀{F3:Nat->Prop} {H3:aa},Step F F3 H2 H3->Step (λb=>F b\/b=k) (λb=>F3 b\/b=k) H H3:=λS3=>(T2.trans S3).with k
 have fV:∀{F3:Nat->Prop} {H3:aa},Step F F3 H2 H3->¬F3 k:=λS3 u=>(S3.own _ u).elim hk λv=>by have:=e2.size;omega
 have span:dQ F H2 (Sl.mk none 0 0) (Sl.mk none 0 0) dK:=⟨rfl,rfl⟩
 unfold St.ins at hK1 hK2 hKB
 refine Dz (l:=cl) (ll:=ll) S hw hW hd hlw (depth - 1) root dK _ _ F H2 s m _ hI (by omega) (by omega) (hg.mod e2 id) (ht.ext e2) p2 hk hroot span cOk (λf o x' hra F3 H3 s3 p3 S3 I3=>?_) (λhra F3 H3 s3 p3 S3 I3=>?_) (λhra F3 H3 s3 e f o up p3 S3 hB=>?_) (λF3 H3 s3 e f o up p3 S3 hC=>?_)
 rotate_left
 ·have t3:aR H3 k p t:=(ht.ext e2).mod S3.mod hk
  refine⟨λz A=>z=280/\A=H3,ax rfl ⟨rfl,rfl⟩,?_⟩
  rintro _ A ⟨rfl,rfl⟩
  refine tailE false 280 A _ (by decide) t3 λA' tA mA=>?_
  rw[hra] at hK2
  exact hK2 rfl F3 A' s3 (p3.fV mA (fV S3)) ((stepK S3).trans (Step.all (F:=F3) mA)) (fV S3) tA (S.up I3 (by omega))
 ·have t3:aR H3 k p t:=(ht.ext e2).mod S3.mod hk
  have he:=(S.errB hB).1
  refine⟨λz A=>z=e/\A=H3,ax (by simpa using he) ⟨rfl,rfl⟩,?_⟩
  rintro _ A ⟨rfl,rfl⟩
  refine tailE f _ A _ he t3 λA' tA mA=>?_
  rw[hra] at hKB
  exact hKB rfl F3 A' s3 _ (p3.fV mA (fV S3)) ((stepK S3).trans (Step.all (F:=F3) mA)) (fV S3) tA hB
 ·have t3:aR H3 k p t:=(ht.ext e2).mod S3.mod hk
  have he:=(S.errC hC).1
  refine⟨λz A=>z=e/\A=H3,ax (by simpa using he) ⟨rfl,rfl⟩,?_⟩
  rintro _ A ⟨rfl,rfl⟩
  refine tailE f _ A _ he t3 λA' tA mA=>?_
  exact hKC F3 A' s3 _ (p3.fV mA (fV S3)) ((stepK S3).trans (Step.all (F:=F3) mA)) (fV S3) tA hC
 rw[hra] at hK1 hKB
 have t3:aR H3 k p t:=(ht.ext e2).mod S3.mod hk
 cases o with
 |none=>
   unfold zZ
   dsimp only
   refine⟨λz A=>z=0/\A=H3,aT rfl (ax rfl ⟨rfl,rfl⟩),?_⟩
   rintro _ A ⟨rfl,rfl⟩
   refine tail0 f t A K t3 hcnt λA' tA mA=>?_
   exact hK1 f (t.up f) x' rfl F3 A' s3 (p3.fV mA (fV S3)) ((stepK S3).trans (Step.all (F:=F3) mA)) (fV S3) tA (S.up I3 (by omega))
 |some pu=>
   obtain⟨pg,ul⟩:=pu
   unfold zZ
   intro hul mb v1 v2 up rmb hmbF hmbz upOk
   dsimp only at hK1 hKB ⊢
   have hg3:Gl H3:=(hg.mod e2 id).mod S3.mod p2.du
   have kOff:=fV S3
   have hzz:=S3.mod.size
   have hz2:=e2.size
   have hmbk:mb≠k:=by omega
   -- the new root
   have tops:∀(J:Int->aa->Prop) (H7:aa) (tb:Nat) (sk sr:Sl),Ext H3 H7->ag H7 tb nU #[.int .i64 (-1),sk.v,sr.v]->H3.size<=tb->¬F3 tb->
     Ints .i64 H7 sk ([root,pg].map MO)->fL (λb=>F3 b\/b=tb) H7 sk->cJ (λb=>F3 b\/b=tb) H7 sr [ul]->
     (x'.N<q->∀F8 A s8,an F8 A p dp s8->Step (λb=>F b\/b=k) (λb=>F8 b\/b=k) H A->¬F8 k->aR A k p (t.grown x'.N (depth+1))->I s8 (x'.more ⟨[root,pg],[ul]⟩) (m+4000)->J 0 A)->
     (∀F8 A s8 e,an F8 A p dp s8->Step (λb=>F b\/b=k) (λb=>F8 b\/b=k) H A->¬F8 k->aR A k p t->(B s8 e/\¬x'.N<q)\/C s8 e->J e A)->
     uE.sp (some ⟨k,0,none⟩) (some ⟨tb,0,none⟩) H7 λ(e_1:Int) H8=>br (e_1==(0:Int)) (ld (af .i64) H8 (K0 ⟨tb,0,none⟩ 0) λ(x_5:Int)=>st H8 (K0 ⟨k,0,none⟩ 3) (.int .i64 x_5) λH9=>ld (af .i64) H9 (K0 ⟨k,0,none⟩ 4) λ(x_6:Int)=>st H9 (K0 ⟨k,0,none⟩ 4) (.int .i64 (Ke.wrap (x_6+(1:Int)))) λH10=>J e_1 H10) (J e_1 H8):=by
    intro J H7 tb sk sr e7 rtb htb hFtb hkd hko hrows hJ0 hJe
    have t7:aR H7 k p t:=t3.ext e7
    have hkt:k≠tb:=by omega
    have nt:cz F3 H7 tb (-1) sk sr ⟨[root,pg],[ul]⟩:=⟨rtb,hFtb,hkd,hko,hrows⟩
    have hs:=bL (W:Int)
    have hbl:(Nd.bytes ⟨[root,pg],[ul]⟩).length<=504:=by
     rw[Nd.cd hW (by intro y hy;simp at hy;subst hy;exact hul)]
     simp;omega
    have S7:Step F F3 H2 H7:=S3.trans (.bp e7)
    have dropK:∀{F8:Nat->Prop} {A:aa},Step (λb=>F3 b\/b=tb) (λb=>F8 b\/b=tb) H7 A->Step F F8 H2 A:=λS8=>S7.drop (by omega) S8
    have hNpre:=(S.pre I3).2.2.2.2.1
    refine lE S I3 (by omega) (hg3.mod e7 id) t7 (p3.ext e7) kOff hkt nt hbl (by simp) (by simp) (by intro y hy;simp at hy;subst hy;rw[hul];exact hW) (λhN F8 H8 s8 p8 S8 I8 n8=>?_) (λhN F8 H8 s8 e p8 S8 hF8 hB=>?_) (λF8 H8 s8 e p8 S8 hF8 hC=>?_)
    ·refine aT rfl ?_
     have t8:aR H8 k p t:=t7.mod S8.mod λu=>u.elim kOff hkt
     refine ag.ld (c:=af .i64) (i:=0) (x:=(x'.N:Int)) n8.row rfl ?_
     refine ag.st t8 (i:=3) (by simp[j4]) rfl λH9 r9 m9 z9=>?_
     refine ag.ld (c:=af .i64) (i:=4) (x:=t.depth) r9 (by simp[j4]) ?_
     rw[hd,aK _ (by omega)]
     refine ag.st r9 (i:=4) (by simp[j4]) rfl λH10 r10 m10 z10=>?_
     have mm:=m9.trans m10
     have S8':=dropK S8
     refine hJ0 hN F8 H10 s8 (p8.fV mm (fV S8')) ((stepK S8').trans (Step.all (F:=F8) mm)) (fV S8') ?_ (S.up I8 (by omega))
     have et:((j4 p t).toArray.setIfInBounds 3 (.int .i64 (x'.N:Int))).setIfInBounds 4 (.int .i64 ((depth+1:Nat):Int))=(j4 p (t.grown x'.N (depth+1))).toArray:=by
      simp[j4,Tr.grown]
     rw[et] at r10
     exact r10
    ·have S8':=dropK S8
     refine ax (by have:=(S.errB hB).1;simpa using this) ?_
     exact hJe F8 H8 s8 e p8 (stepK S8') (fV S8') (t7.mod S8.mod λu=>u.elim kOff hkt) (.inl ⟨hB,hN⟩)
    ·have S8':=dropK S8
     refine ax (by have:=(S.errC hC).1;simpa using this) ?_
     exact hJe F8 H8 s8 e p8 (stepK S8') (fV S8') (t7.mod S8.mod λu=>u.elim kOff hkt) (.inr hC)
   obtain⟨JJ,hJJ⟩:∃JJ:Int->aa->Prop,∀z A,JJ z A↔∃F8 s8,an F8 A p dp s8/\Step (λb=>F b\/b=k) (λb=>F8 b\/b=k) H A/\¬F8 k/\((z=0/\x'.N<q/\aR A k p (t.grown x'.N (depth+1))/\I s8 (x'.more ⟨[root,pg],[ul]⟩) (m+4000))\/(aR A k p t/\((B s8 z/\¬x'.N<q)\/C s8 z))):=⟨_,λ_ _=>Pe⟩
   have hJ0:x'.N<q->∀F8 A s8,an F8 A p dp s8->Step (λb=>F b\/b=k) (λb=>F8 b\/b=k) H A->¬F8 k->aR A k p (t.grown x'.N (depth+1))->I s8 (x'.more ⟨[root,pg],[ul]⟩) (m+4000)->JJ 0 A:=λhN F8 A s8 p8 S8 hF8 t8 I8=>(hJJ 0 A).2 ⟨F8,s8,p8,S8,hF8,.inl ⟨rfl,hN,t8,I8⟩⟩
   have hJe:∀F8 A s8 e,an F8 A p dp s8->Step (λb=>F b\/b=k) (λb=>F8 b\/b=k) H A->¬F8 k->aR A k p t->(B s8 e/\¬x'.N<q)\/C s8 e->JJ e A:=λF8 A s8 e p8 S8 hF8 t8 hb=>(hJJ e A).2 ⟨F8,s8,p8,S8,hF8,.inr ⟨t8,hb⟩⟩
   have upB:∀A,Ext H3 A->∀ad,up.a=some ad->ad.block<H3.size/\¬F3 ad.block:=λA eA ad ha=>⟨(upOk.off ad ha).1,λu=>(upOk.off ad ha).2 (.inl u)⟩
   refine⟨JJ,?_,?_⟩
   ·refine aT rfl (aT rfl ?_)
    refine⟨λD=>Ext H3 D,.refl _ _,?_⟩
    refine ag.cP (c:=af .i64) (i:=3) (x:=t.root) (cs:=λ_=>(j4 p t).toArray) (λD hD=>t3.ext hD) (λ_ _=>rfl) ?_
    simp only[aq]
    refine ag.cP (c:=af .i64) (i:=0) (x:=(pg:Int)) (cs:=λ_=>#[.int .i64 (pg:Int),v1,v2]) (λD hD=>rmb.ext hD) (λ_ _=>rfl) ?_
    rw[hr]
    have ek:#[Km .i64 (root:Int),Km .i64 (pg:Int)]=(([root,pg].map MO).map (Km .i64)).toArray:=rfl
    rw[ek]
    -- both orders
    constructor
    ·refine iG _ λpk H5 z5 q5 a5 e5=>⟨e5,?_⟩
     refine dm λpr H6 q6 z6 v6 e6=>⟨e5.trans e6,?_⟩
     refine ar λH7 z7 r7 e7=>⟨(e5.trans e6).trans e7,?_⟩
     have e37:=(e5.trans e6).trans e7
     have v7:=v6.ext e7
     refine tops JJ H7 H6.size ⟨some pk,2,2⟩ ⟨some pr,1,1⟩ e37 r7 (by omega) (λu=>by have:=p3.lt _ u;omega) (((a5 2).ext e6).ext e7) (λad ha=>?_) ⟨rfl,λad ha=>?_,λi hi=>?_⟩ hJ0 hJe
     ·cases ha;exact⟨by omega,λu=>u.elim (λw=>by have:=p3.lt _ w;omega) λw=>by omega⟩
     ·cases ha;exact⟨by omega,λu=>u.elim (λw=>by have:=p3.lt _ w;omega) λw=>by omega⟩
     ·have hi0:i=0:=by simp at hi;omega
      subst hi0
      refine⟨pr,up,rfl,v7.var.cell,λad ha=>?_,upOk.ints.ext e37⟩
      have:=upB H7 e37 ad ha
      exact⟨by omega,λu=>u.elim this.2 λw=>by omega⟩
    ·refine dm λpr H5 q5 z5 v5 e5=>⟨e5,?_⟩
     refine iG _ λpk H6 z6 q6 a6 e6=>⟨e5.trans e6,?_⟩
     refine ar λH7 z7 r7 e7=>⟨(e5.trans e6).trans e7,?_⟩
     have e37:=(e5.trans e6).trans e7
     have v7:=(v5.ext e6).ext e7
     refine tops JJ H7 H6.size ⟨some pk,2,2⟩ ⟨some pr,1,1⟩ e37 r7 (by omega) (λu=>by have:=p3.lt _ u;omega) ((a6 2).ext e7) (λad ha=>?_) ⟨rfl,λad ha=>?_,λi hi=>?_⟩ hJ0 hJe
     ·cases ha;exact⟨by omega,λu=>u.elim (λw=>by have:=p3.lt _ w;omega) λw=>by omega⟩
     ·cases ha;exact⟨by omega,λu=>u.elim (λw=>by have:=p3.lt _ w;omega) λw=>by omega⟩
     ·have hi0:i=0:=by simp at hi;omega
      subst hi0
      refine⟨pr,up,rfl,v7.var.cell,λad ha=>?_,upOk.ints.ext e37⟩
      have:=upB H7 e37 ad ha
      exact⟨by omega,λu=>u.elim this.2 λw=>by omega⟩
   ·intro z A hz
    obtain⟨F8,s8,p8,S8,hF8,hcase⟩:=(hJJ z A).1 hz
    rcases hcase with ⟨rfl,hN,t8,I8⟩|⟨t8,hb⟩
    ·rw[if_pos hN] at hK1
     refine tail0 f _ A K t8 hcnt λA' tA mA=>?_
     exact hK1 f _ _ rfl F8 A' s8 (p8.fV mA hF8) (S8.trans (Step.all (F:=F8) mA)) hF8 tA I8
    ·have he:z≠0:=by
      rcases hb with hb|hb
      ·exact(S.errB hb.1).1
      ·exact(S.errC hb).1
     refine tailE f z A _ he t8 λA' tA mA=>?_
     rcases hb with ⟨hb,hN⟩|hb
     ·rw[if_neg hN] at hKB
      exact hKB rfl F8 A' s8 z (p8.fV mA hF8) (S8.trans (Step.all (F:=F8) mA)) hF8 tA hb
     ·exact hKC F8 A' s8 z (p8.fV mA hF8) (S8.trans (Step.all (F:=F8) mA)) hF8 tA hb
end
section
variable {H:aa}{k p dp:Nat}{t:Tr}{F:Nat->Prop}{s:Pl}{q:Nat}{I:Pl->St->Nat->Prop}{B C:Pl->Int->Prop}{x:St}{m:Nat}{W root depth:Nat}{ll:List Int}{l:Sl}
def St.AF (x:St)(t:Tr)(root depth:Nat)(ll:List Int)(strict:Bool):Option (Option (List Int)):=(x.find t.width depth ll strict (depth - 1) root dK).2
theorem u6 (S:ib t.name q I B C)(hI:I s x m)(hd1:1<=depth/\depth<=1000){strict:Bool}:(x.find t.width depth ll strict (depth - 1) root dK).1<=1000000:=by
 have h:=rM (x:=x) (w:=t.width) (low:=ll) (strict:=strict) (S.pre hI).2.2.2.2.2 (depth - 1) root dK (show depth - 1<depth by omega)
 have h2:(depth - 1+1)*(depth - 1+1)<=1000*1000:=Nat.mul_le_mul (by omega) (by omega)
 omega
set_option maxHeartbeats 1000000 in
theorem DI {K:(Bool×Int)->aa->Prop}(S:ib t.name q I B C)(hw:t.width=(W:Int))(hW:W<=16)(hr:t.root=(root:Int))(hd:t.depth=(depth:Int))(hd1:1<=depth/\depth<=1000)(hroot:root<=1000000000000)
  (hI:I s x m) (hm:m+1000000<=30000000000) (hg:Gl H) (ht:aR H k p t) (hp:an F H p dp s) (hk:¬F k) (hl:Ints .u64 H l ll) (hlo:qz F H l ll)
  (hK0:t.ready≠0->K (false,t.ready) H) (hKw:t.ready=0->ll.length≠W->K (false,60) H)
  (hK1:t.ready=0->ll.length=W->∀o,x.AF t root depth ll false=some o->∀F' A s',an F' A p dp s'->Step (λb=>F b\/b=k) (λb=>F' b\/b=k) H A->Step F F' H A->¬F' k->aR A k p t->I s' x (m+1000000)->K ((match o with|none=>false|some y=>decide (aP y ll=0)),0) A)
  (hK2:t.ready=0->ll.length=W->x.AF t root depth ll false=none->∀F' A s',an F' A p dp s'->Step (λb=>F b\/b=k) (λb=>F' b\/b=k) H A->¬F' k->aR A k p (t.jY 280)->I s' x (m+1000000)->K (false,280) A)
  (hKC:∀F' A s' e,an F' A p dp s'->Step (λb=>F b\/b=k) (λb=>F' b\/b=k) H A->¬F' k->aR A k p (t.jY e)->C s' e->K (false,e) A):DL.sp (aD k) l H K:=by
 refine DL.of ?_
 unfold DL.vc
 refine kD ht ?_
 refine ak (λhc=>hK0 (by simpa using hc)) (λhc=>?_)
 have hrd:t.ready=0:=by simpa using hc
 unfold aD
 simp only[aq]
 refine ag.ld (c:=af .i64) (i:=2) (x:=t.width) ht rfl ?_
 have hln:=hl.len
 rw[hw]
 refine ak (λhc2=>hKw hrd (by
  have:(l.n:Int)≠(W:Int):=by simpa using hc2
  omega)) (λhc2=>?_)
 have hlw:ll.length=W:=by
  have:(l.n:Int)=(W:Int):=by simpa using hc2
  omega
 have hkl:=aG ht
 refine ag.ld (c:=af .i64) (i:=3) (x:=t.root) ht rfl ?_
 refine ag.ld (c:=af .i64) (i:=4) (x:=t.depth) ht rfl ?_
 rw[hr,hd]
 have ed:Ke.wrap ((depth:Int) - 1)=((depth - 1:Nat):Int):=by rw[wrap64 (by omega) (by omega)];omega
 rw[ed]
 have hcost:=u6 (root:=root) (ll:=ll) (strict:=false) S hI hd1
 have span:dQ F H (Sl.mk none 0 0) (Sl.mk none 0 0) dK:=⟨rfl,rfl⟩
 have hbroke:∀(F3:Nat->Prop) (H3:aa) (s3:Pl) (e:Int) (M:Prop),e≠0->an F3 H3 p dp s3->Step F F3 H H3->(∀A,an F3 A p dp s3->Step (λb=>F b\/b=k) (λb=>F3 b\/b=k) H A->¬F3 k->aR A k p (t.jY e)->K (false,e) A)->
   br (e !=(0:Int)) (sQ.sp (some ⟨k,0,none⟩) e H3 λ(r_1:Int) H3=>K (false,r_1) H3) M:=by
  intro F3 H3 s3 e M he p3 S3 hk'
  have k3:¬F3 k:=λu=>(S3.own _ u).elim hk λv=>by omega
  refine aT (by simpa using he) (tH (ht.mod S3.mod hk) he λA r mA _=>?_)
  exact hk' A (p3.fV mA k3) ((S3.with k).trans (Step.all mA)) k3 r
 refine vE (ll:=ll) (strict:=false) S hw hW hd (depth - 1) root dK _ _ F H s m _ hI (by omega) (by omega) hg ht hp hk hroot span hl hlo (λF3 H3 s3 p3 S3 I3=>?_) (λF3 H3 s3 e p3 S3 hC=>?_)
 ·have k3:¬F3 k:=λu=>(S3.own _ u).elim hk λv=>by omega
  have t3:aR H3 k p t:=ht.mod S3.mod hk
  have I4:=S.up I3 (k:=m+1000000) (by omega)
  unfold St.AF at hK1 hK2
  cases hres:(x.find t.width depth ll false (depth - 1) root dK).2 with
  |none=>
    unfold kT
    dsimp only
    refine hbroke F3 H3 s3 280 _ (by decide) p3 S3 λA pA SA kA tA=>?_
    exact hK2 hrd hlw hres F3 A s3 pA SA kA tA I4
  |some o=>
    have hK1:=hK1 hrd hlw o hres
    cases o with
    |none=>
      unfold kT
      dsimp only
      refine ax rfl (ax rfl ?_)
      exact hK1 F3 H3 s3 p3 (S3.with k) S3 k3 t3 I4
    |some y=>
      unfold kT
      intro sl nn o5 f5
      dsimp only
      refine ax rfl ?_
      refine aT (by cases q9:sl.a with|none=>exact absurd q9 nn|some _=>rfl) ?_
      have hyl:=o5.ints.len
      have hbig:y.length<1099511627776:=by
       have hnode:=qo (ll:=ll) (strict:=false) (S.pre hI).2.2.2.2.2 (depth - 1) root dK hres
       rw[hnode,hw];simp;omega
      refine dW o5.ints (hlo.ints hl S3) hbig ?_
      have:=hK1 F3 H3 s3 p3 (S3.with k) S3 k3 t3 I4
      have e0:(aP y ll==0)=decide (aP y ll=0):=by rw[N4];simp
      rw[e0]
      exact this
 ·refine hbroke F3 H3 s3 e _ (S.errC hC).1 p3 S3 λA pA SA kA tA=>?_
  exact hKC F3 A s3 e pA SA kA tA hC
structure iu (H:aa)(F:Nat->Prop)(k cb:Nat)(lo:Sl)(ll:List Int)(strict:Bool):Prop where
 row:ag H cb Jp #[.pointer (aD k),lo.v,.bool strict]
 ints:Ints .u64 H lo ll
 off:fL (λb=>F b\/b=k\/b=cb) H lo
 cb:¬F cb/\cb≠k
set_option maxHeartbeats 1000000 in
theorem Cu {K:(Sl×Bool×Int)->aa->Prop}{cb:Nat}{lo:Sl}{strict:Bool}(S:ib t.name q I B C)(hw:t.width=(W:Int))(hW:W<=16)(hr:t.root=(root:Int))(hd:t.depth=(depth:Int))(hd1:1<=depth/\depth<=1000)(hroot:root<=1000000000000)
  (hI:I s x m) (hm:m+1000000<=30000000000) (hg:Gl H) (ht:aR H k p t) (hp:an F H p dp s) (hk:¬F k) (hc:iu H F k cb lo ll strict)
  (hK0:t.ready≠0->K (jJ,false,t.ready) H)
  (hK1:t.ready=0->x.AF t root depth ll strict=some none->∀F' A s',an F' A p dp s'->Step (λb=>F b\/b=k\/b=cb) (λb=>F' b\/b=k\/b=cb) H A->¬F' k->aR A k p t->iu A F' k cb lo ll strict->I s' x (m+1000000)->K (jJ,false,0) A)
  (hK3:t.ready=0->∀y,x.AF t root depth ll strict=some (some y)->∀F' A s' sl lo',an F' A p dp s'->Step (λb=>F b\/b=k\/b=cb) (λb=>F' b\/b=k\/b=cb) H A->¬F' k->aR A k p t->iu A F' k cb lo' y true->I s' x (m+1000000)->
   az A 0 iB 1 sl (y.map (Km .u64))->(∀b,ai sl b->H.size<=b/\¬F' b/\b≠k/\b≠cb/\¬ai lo' b)/\(∀b,ai lo' b->H.size<=b)->K (sl,true,0) A)
  (hK2:t.ready=0->x.AF t root depth ll strict=none->∀F' A s',an F' A p dp s'->Step (λb=>F b\/b=k\/b=cb) (λb=>F' b\/b=k\/b=cb) H A->¬F' k->aR A k p (t.jY 280)->iu A F' k cb lo ll strict->I s' x (m+1000000)->K (jJ,false,280) A)
  (hKC:∀F' A s' e,an F' A p dp s'->Step (λb=>F b\/b=k\/b=cb) (λb=>F' b\/b=k\/b=cb) H A->¬F' k->aR A k p (t.jY e)->C s' e->K (jJ,false,e) A):C7.sp (some ⟨cb,0,none⟩) H K:=by
 refine C7.of ?_
 unfold C7.vc
 refine ax rfl ?_
 simp only[aq]
 refine ag.ld (c:=au) (i:=0) (x:=aD k) hc.row rfl ?_
 refine kD ht ?_
 refine ak (λhc2=>hK0 (by simpa using hc2)) (λhc2=>?_)
 have hrd:t.ready=0:=by simpa using hc2
 have hkl:=aG ht
 have hcl:=aG hc.row
 unfold aD
 simp only[aq]
 refine ag.ld (c:=af .i64) (i:=3) (x:=t.root) ht rfl ?_
 refine ag.ld (c:=af .i64) (i:=4) (x:=t.depth) ht rfl ?_
 refine ag.ld (c:=ao) (i:=1) (x:=lo) hc.row rfl ?_
 refine ag.ld (c:=aw) (i:=2) (x:=strict) hc.row rfl ?_
 rw[hr,hd]
 have ed:Ke.wrap ((depth:Int) - 1)=((depth - 1:Nat):Int):=by rw[wrap64 (by omega) (by omega)];omega
 rw[ed]
 have hcost:=u6 (root:=root) (ll:=ll) (strict:=strict) S hI hd1
 have span:dQ F H (Sl.mk none 0 0) (Sl.mk none 0 0) dK:=⟨rfl,rfl⟩
 have offF:∀{F3:Nat->Prop} {H3:aa},Step F F3 H H3->¬F3 k/\¬F3 cb:=λS3=>⟨λu=>(S3.own _ u).elim hk λv=>by omega,λu=>(S3.own _ u).elim hc.cb.1 λv=>by omega⟩
 have curF:∀{F3:Nat->Prop} {H3:aa},Step F F3 H H3->iu H3 F3 k cb lo ll strict:=λ{F3 H3} S3=>by
  have S3':Step (λb=>F b\/b=k\/b=cb) (λb=>F3 b\/b=k\/b=cb) H H3:=S3.or (λb=>b=k\/b=cb)
  exact⟨hc.row.mod S3.mod hc.cb.1,hc.off.ints hc.ints S3',hc.off.step S3',(offF S3).2,hc.cb.2⟩
 have hbroke:∀(F3:Nat->Prop) (H3:aa) (s3:Pl) (e:Int) (M:Prop),e≠0->an F3 H3 p dp s3->Step F F3 H H3->(∀A,an F3 A p dp s3->Step (λb=>F b\/b=k\/b=cb) (λb=>F3 b\/b=k\/b=cb) H A->¬F3 k->aR A k p (t.jY e)->iu A F3 k cb lo ll strict->K (jJ,false,e) A)->
   br (e !=(0:Int)) (sQ.sp (some ⟨k,0,none⟩) e H3 λ(r_1:Int) H3=>K ((Sl.mk none 0 0),false,r_1) H3) M:=by
  intro F3 H3 s3 e M he p3 S3 hk'
  obtain⟨k3,c3⟩:=offF S3
  refine aT (by simpa using he) (tH (ht.mod S3.mod hk) he λA r mA _=>?_)
  have cF:=curF S3
  have SA:Step (λb=>F3 b\/b=k\/b=cb) (λb=>F3 b\/b=k\/b=cb) H3 A:=⟨mA.mono λ_ _ u=>.inr (.inl u),λ_ u=>.inl u⟩
  refine hk' A (p3.fV mA k3) ((S3.or (λb=>b=k\/b=cb)).trans SA) k3 r ⟨cF.row.mod mA hc.cb.2,cF.off.ints cF.ints SA,cF.off.step SA,cF.cb⟩
 refine vE (ll:=ll) (strict:=strict) S hw hW hd (depth - 1) root dK _ _ F H s m _ hI (by omega) (by omega) hg ht hp hk hroot span hc.ints ((hc.off.mono λ_ _ u=>.inl u).Jv _) (λF3 H3 s3 p3 S3 I3=>?_) (λF3 H3 s3 e p3 S3 hC=>?_)
 ·obtain⟨k3,c3⟩:=offF S3
  have t3:aR H3 k p t:=ht.mod S3.mod hk
  have I4:=S.up I3 (k:=m+1000000) (by omega)
  have S3':Step (λb=>F b\/b=k\/b=cb) (λb=>F3 b\/b=k\/b=cb) H H3:=S3.or (λb=>b=k\/b=cb)
  unfold St.AF at hK1 hK2 hK3
  cases hres:(x.find t.width depth ll strict (depth - 1) root dK).2 with
  |none=>
    unfold kT
    dsimp only
    refine hbroke F3 H3 s3 280 _ (by decide) p3 S3 λA pA SA kA tA cA=>?_
    exact hK2 hrd hres F3 A s3 pA SA kA tA cA I4
  |some o=>
    cases o with
    |none=>
      unfold kT
      dsimp only
      refine ax rfl (aT rfl (sH ?_))
      exact hK1 hrd hres F3 H3 s3 p3 S3' k3 t3 (curF S3) I4
    |some y=>
      unfold kT
      intro sl nn o5 f5
      dsimp only
      refine ax rfl ?_
      refine ax (by cases q9:sl.a with|none=>exact absurd q9 nn|some _=>rfl) ?_
      have hyl:y.length<=16:=by
       have hnode:=qo (ll:=ll) (strict:=strict) (S.pre hI).2.2.2.2.2 (depth - 1) root dK hres
       rw[hnode,hw];simpa using hW
      refine kJ o5.ints (by omega) λcl A1 o1 e1 f1=>?_
      have cF:=curF S3
      refine ag.st (cF.row.ext e1) (i:=1) (by simp) rfl λA2 r2 m2 z2=>?_
      refine ag.st r2 (i:=2) (by simp) rfl λA3 r3 m3 z3=>?_
      have m23:=m2.trans m3
      have hz1:=e1.size
      have hz3:=S3.mod.size
      have clB:∀b,ai cl b->b≠cb:=λb u v=>by have:=f1 b u;omega
      have GG:∀b,ai sl b->b≠cb:=λb u v=>by have:=(f5 b u).1;omega
      have S13:Step (λb=>F3 b\/b=k\/b=cb) (λb=>F3 b\/b=k\/b=cb) H3 A3:=⟨(Ext.mod e1).trans (m23.mono λ_ _ u=>.inr (.inr u)),λ_ u=>.inl u⟩
      have clo:=o1.block
      refine hK3 hrd y hres F3 A3 s3 sl cl ((p3.ext e1).fV m23 c3) (S3'.trans S13) k3 ((t3.ext e1).mod m23 (M7 hc.cb.2)) ⟨r3,(o1.mod m23 λb u v=>clB b u v).ints,λad ha=>?_,c3,hc.cb.2⟩ I4 ((o5.ext e1).mod m23 λb u v=>GG b u v) ⟨λb u=>?_,λb u=>by have:=f1 b u;omega⟩
      ·have h1:=clo _ ⟨ad,ha,rfl⟩
       have h2:=f1 _ ⟨ad,ha,rfl⟩
       refine⟨by omega,λw=>?_⟩
       rcases w with w|w|w
       ·have:=p3.lt _ w;omega
       ·omega
       ·omega
      ·have h1:=f5 b u
       have h2:=(o5.block b u).2
       exact⟨h1.1,h1.2,by omega,by omega,λw=>by have:=f1 b w;omega⟩
 ·refine hbroke F3 H3 s3 e _ (S.errC hC).1 p3 S3 λA pA SA kA tA cA=>?_
  exact hKC F3 A s3 e pA SA kA tA hC
theorem yW {K:Int->aa->Prop}(ht:aR H k p t)(hK:K (if t.gone then 0 else t.count) H):E7.sp (aD k) H K:=by
 refine E7.of ?_
 unfold E7.vc
 refine ax rfl ?_
 simp only[aq,aD]
 refine ag.ld (c:=aw) (i:=7) (x:=t.gone) ht rfl ?_
 cases hg:t.gone with
 |true=>rw[hg] at hK;exact aT rfl hK
 |false=>
   rw[hg] at hK
   refine ax rfl ?_
   exact ag.ld (c:=af .i64) (i:=5) (x:=t.count) ht rfl hK
end
theorem BK {H:aa}{z:FZ}{K:Bool->aa->Prop}(hA:de H z.2 z.1)(hK:K (!z.1.pins.isEmpty) H):BG.sp (aD z.2.p) H K:=by
 refine BG.of ?_
 unfold BG.vc
 simp only[aq]
 refine hA.row.ld (c:=af .i64) (i:=5) (x:=(z.1.pins.length:Int)) rfl ?_
 have e:decide ((z.1.pins.length:Int)>0)=!z.1.pins.isEmpty:=by
  cases z.1.pins with
  |nil=>rfl
  |cons a l=>simp
 rw[e];exact hK
theorem ud {H:aa}{s:Sl}{l:List FZ}{K:Int->aa->Prop}(h:cw fH qQ H s (l.map λz=>z.2.p))(hA:∀z∈l,de H z.2 z.1)(hl:l.length<=1048576)
  (hK:∀r:Int,decide (r>=0)=(l.any λz=>!z.1.pins.isEmpty)->K r H):EG.sp s H K:=by
 refine EG.of ?_
 unfold EG.vc
 have hn:=h.n (by decide)
 rw[KM] at hn
 refine av l.length (λk x H1=>H=H1/\x=(k:Int)/\∀z∈l.take k,z.1.pins.isEmpty=true) ⟨rfl,rfl,by simp⟩ ?_
 rintro k _ _ next hk ⟨rfl,rfl,hf⟩ hnext
 refine ak (λhc=>?_) (λhc=>?_)
 ·have hlt:k<l.length:=by rw[hn] at hc;simpa using hc
  refine tD h (i:=k) (q:=l[k].2.p) (by simp[hlt]) rfl λad ha=>?_
  refine BK (hA _ (Kt hlt)) ?_
  cases hs:l[k].1.pins.isEmpty with
  |false=>
    refine aT rfl (hK _ ?_)
    rw[decide_eq_true (by omega)]
    exact(MA.2 ⟨l[k],Kt hlt,by rw[hs];rfl⟩).symm
  |true=>
    refine ax rfl (hnext hlt _ _ ⟨rfl,aK k (by omega),?_⟩)
    intro z hz
    rw[KB hlt] at hz
    rcases Kk.1 hz with q|q
    ·exact hf z q
    ·simp at q;subst q;exact hs
 ·have hge:k=l.length:=by rw[hn] at hc;simp at hc;omega
  rw[hge,KV (Kl _)] at hf
  refine hK _ ?_
  have:(l.any λz=>!z.1.pins.isEmpty)=false:=by
   rw[Oe]
   intro z hz
   rw[hf z hz];simp
  rw[this];rfl
theorem og {H:aa}{s:Sl}{l:List FZ}{K:Bool->aa->Prop}(h:cw fH qQ H s (l.map λz=>z.2.p))(hA:∀z∈l,de H z.2 z.1)(hl:l.length<=1048576)
  (hK:K (l.any λz=>!z.1.pins.isEmpty) H):Fa.sp s H K:=by
 refine Fa.of ?_
 unfold Fa.vc
 exact ud h hA hl λr hr=>by rw[hr];exact hK
theorem erase_filter:∀{l:List FZ} {i:Nat} {a:FZ},(∀(i j:Nat) (z z':FZ),l[i]?=some z->l[j]?=some z'->z.2.p=z'.2.p->i=j)->l[i]?=some a->l.eraseIdx i=l.filter λz=>!(z.2.p==a.2.p)
 |[],i,a,_,h=>by simp at h
 |b::l,0,a,hu,h=>by
   simp at h;subst h
   rw[List.eraseIdx_cons_zero,MN,if_neg (by simp)]
   refine(Mr.2 λz hz=>?_).symm
   obtain⟨j,hj⟩:=Ko.1 hz
   have:z.2.p≠b.2.p:=λe=>by have:=hu (j+1) 0 z b (by simpa using hj) rfl e;omega
   simpa using this
 |b::l,i+1,a,hu,h=>by
   simp only[LL] at h
   have hne:b.2.p≠a.2.p:=λe=>by have:=hu 0 (i+1) b a rfl (by simpa using h) e;omega
   rw[List.eraseIdx_cons_succ,MN,if_pos (by simpa using hne)]
   rw[erase_filter (λi j z z' h1 h2 e=>by have:=hu (i+1) (j+1) z z' (by simpa using h1) (by simpa using h2) e;omega) h]
def gZ (zs w:List FZ):List FZ:=zs.filter λz=>!(w.any λu=>u.2.p==z.2.p)
theorem xl (zs w:List FZ)(a:FZ):gZ zs (w++[a])=(gZ zs w).filter λz=>!(z.2.p==a.2.p):=by
 unfold gZ
 rw[List.filter_filter]
 refine MT λz _=>?_
 rw[List.any_append,List.any_cons,List.any_nil,Bool.or_false,Bool.not_or,Bool.and_comm]
 congr 2
 exact Bool.beq_comm
theorem Em {F:Nat->Prop}{H:aa}{p dp:Nat}{s:Pl}{n:ByteArray}{K:Int->aa->Prop}(hg:Gl H)(h:an F H p dp s)
  (hK:∀F' H',an F' H' p dp (s.iQ n).1->Step F F' H H'->K (s.iQ n).2 H'):Dw.sp (aD p) n H K:=by
 have h00:=h
 obtain⟨x,D,hd,hF⟩:=h
 refine Dw.of ?_
 unfold Dw.vc
 simp only[aq]
 refine jD hd.al ?_
 unfold Pl.iQ at hK
 refine ak (λhw=>?_) (λhw=>?_)
 ·have hw':s.wrong≠0:=by simpa using hw
  rw[if_pos hw'] at hK
  exact hK F H h00 (.refl _ _)
 have hw':¬s.wrong≠0:=by simpa using hw
 rw[if_neg hw'] at hK
 refine hd.al.head.ld (c:=au) (i:=0) (x:=aD dp) rfl ?_
 refine wX hd.gT ?_
 have fin:∀(e:Int) (x':PG) (D':Nat->Prop) (H1:aa) (t:Pl),bC x' D' H1 p dp t->Step (λb=>D b\/x.all p b) (λb=>D' b\/x'.all p b) H H1->(∀F' H',an F' H' p dp (Pl.out (t,e)).1->Step F F' H H'->K (Pl.out (t,e)).2 H')->
   wE.sp (aD p) e H1 λr H2=>K r H2:=by
  intro e x' D' H1 t h1 S1 hk
  refine xP (hd.gl hg S1.mod) h1 λH2 h2 S2=>?_
  obtain⟨F',q1,q2⟩:=h2.out (x:=x) (D:=D) (F:=F) (H:=H) hF (S1.trans S2)
  exact hk F' H2 q1 q2
 refine ak (λhz=>?_) (λhz=>?_)
 ·have hz':(s.d.len n).2≠0:=by simpa using hz
  rw[if_pos hz'] at hK
  exact fin _ x D H s hd (.refl _ _) hK
 have hz':¬(s.d.len n).2≠0:=by simpa using hz
 rw[if_neg hz'] at hK
 refine HC hd.al λsl H1 o1 e1 f1=>?_
 have hd1:=hd.ext e1
 have hlen1:=o1.n (by decide)
 rw[KM] at hlen1
 have hll:(x.of n).length<=4096:=by
  have h1:=PG.BH hd.al.fs n
  have h2:=s.oV n
  rw[<-h1,KM] at h2
  have:=hd.al.wf.len;have:=hd.al.wf.most;omega
 have hany:((x.of n).any λz=>!z.1.pins.isEmpty)=s.fs.any (λf=>f.name.toList==n.toList&&!f.pins.isEmpty):=by
  rw[N4,MA,MA]
  constructor
  ·rintro⟨z,hz,e⟩
   obtain⟨q1,q2⟩:=PG.eX.1 hz
   refine⟨z.1,by rw[hd.al.fs];exact Kz.2 ⟨z,q1,rfl⟩,?_⟩
   rw[q2,e];simp
  ·rintro⟨f,hf,e⟩
   rw[hd.al.fs] at hf
   obtain⟨z,hz,rfl⟩:=Kz.1 hf
   simp only[KD] at e
   exact⟨z,PG.eX.2 ⟨hz,iP (by simpa using e.1)⟩,e.2⟩
 refine og o1 (λz hz=>hd1.al.ay.each z (PG.eX.1 hz).1) (by omega) ?_
 rw[hany]
 cases hb:s.fs.any (λf=>f.name.toList==n.toList&&!f.pins.isEmpty) with
 |true=>
   rw[hb,if_pos rfl] at hK
   obtain⟨F',q1,q2⟩:=hd1.out (x:=x) (D:=D) (F:=F) (H:=H) hF (Step.ext e1)
   exact aT rfl (hK F' H1 q1 q2)
 |false=>
   rw[hb,if_neg (by simp)] at hK
   refine ax rfl ?_
   have hfree:∀z∈x.of n,z.1.pins=[]:=by
    intro z hz
    rw[hb] at hany
    have:=(Oe.1 hany) z hz
    simpa using this
   refine av (x.of n).length (λk z A=>z=(k:Int)/\∃y,bC y D A p dp {s with fs:=(gZ x.zs ((x.of n).take k)).map (·.1)}/\y.zs=gZ x.zs ((x.of n).take k)/\Step (λb=>D b\/x.all p b) (λb=>D b\/y.all p b) H1 A/\cw fH qQ A sl ((x.of n).map λz=>z.2.p)) ⟨rfl,x,?_,?_,.refl _ _,o1⟩ ?_
   ·have e:(gZ x.zs ((x.of n).take 0)).map (·.1)=s.fs:=by
     rw[hd.al.fs];unfold gZ PG.fs
     rw[Mr.2 (λ_ _=>by simp)]
    rw[e];exact hd1
   ·unfold gZ
    rw[Mr.2 (λ_ _=>by simp)]
   rintro k _ A next hk ⟨rfl,y,hdA,hy,SA,oA⟩ hnext
   have hgA:Gl A:=hd1.gl (hg.mod e1 id) SA.mod
   refine ak (λhc=>?_) (λhc=>?_)
   ·have hlt:k<(x.of n).length:=by rw[hlen1] at hc;simpa using hc
    have hzk:(x.of n)[k]∈x.of n:=Kt hlt
    obtain⟨hzx,hzn⟩:=PG.eX.1 hzk
    have hzy:(x.of n)[k]∈y.zs:=by
     rw[hy]
     unfold gZ
     rw[KP]
     refine⟨hzx,?_⟩
     rw[Bool.not_eq_true',Oe]
     intro u hu e
     obtain⟨j,hj,rfl⟩:=List.getElem_of_mem hu
     simp only[KF] at hj
     simp only[OZ,beq_iff_eq] at e
     have hjm:(x.of n)[j]∈x.of n:=Kt (by omega)
     have e2:=hd.al.ay.ptr (PG.eX.1 hjm).1 hzx e
     have hnd:(x.of n).Nodup:=by
      have hz:x.zs.Nodup:=by
       have:=hd.al.wf.keys
       rw[hd.al.fs] at this
       unfold PG.fs at this
       rw[Ly] at this
       exact jC _ this
      unfold PG.of
      exact(List.mergeSort_perm _ _).symm.nodup (hz.filter _)
     have:=(List.getElem_inj hnd).1 e2
     omega
    obtain⟨i,hi⟩:=Ko.1 hzy
    refine tD oA (i:=k) (q:=(x.of n)[k].2.p) (by simp[hlt]) rfl λad ha=>?_
    refine hdA.al.head.ld (c:=cO) (i:=2) (x:=some y.mf) rfl ?_
    simp only[aq]
    refine de.yi (hdA.al.ay.each _ hzy) ?_
    refine xi hgA hdA hi (hfree _ hzk) λef' v A2 h2 S2 m2=>?_
    have e2:y.zs.eraseIdx i=gZ x.zs ((x.of n).take (k+1)):=by
     rw[KB hlt,xl,<-hy]
     refine erase_filter (λa c z z' q1 q2 e=>?_) hi
     by_cases hac:a=c
     ·exact hac
     ·exact absurd (.inl e) (hdA.al.ay.apart a c z z' q1 q2 hac z.2.p (.inl rfl))
    refine hnext hlt _ _ ⟨aK k (by omega),_,?_,e2,SA.trans S2,?_⟩
    ·have e3:(Pl.drop {s with fs:=(gZ x.zs ((x.of n).take k)).map (·.1)} i)={s with fs:=(gZ x.zs ((x.of n).take (k+1))).map (·.1)}:=by
      unfold Pl.drop
      simp only
      rw[<-nD,<-e2,hy]
     rw[<-e3];exact h2
    ·refine oA.aA λb hb hl=>m2.same b hl ?_
     intro e
     obtain⟨c,q⟩:=oA.obj b hb
     rw[e,hdA.al.ay.fmap.obj] at q;cases q
   ·have hge:k=(x.of n).length:=by rw[hlen1] at hc;simp at hc;omega
    have e4:({s with fs:=(gZ x.zs ((x.of n).take k)).map (·.1)}:Pl)=s.forget n:=by
     unfold Pl.forget
     rw[hge,KV (Kl _),hd.al.fs]
     unfold gZ PG.fs
     rw[List.filter_map]
     congr 2
     refine MT λz hz=>?_
     show (!_)=!(z.1.name.toList==n.toList)
     congr 1
     rw[N4,MA,beq_iff_eq]
     constructor
     ·rintro⟨u,hu,e⟩
      obtain⟨q1,q2⟩:=PG.eX.1 hu
      have:=hd.al.ay.ptr q1 hz (by simpa using e)
      rw[<-this,q2]
     ·intro e
      exact⟨z,PG.eX.2 ⟨hz,iP e⟩,by simp⟩
    rw[e4] at hdA
    refine hdA.al.head.ld (c:=au) (i:=0) (x:=aD dp) rfl ?_
    refine yX hdA.gT λD2 H2 a2 S2=>?_
    obtain⟨q1,q2⟩:=hdA.se hgA a2 S2
    exact fin _ y D2 H2 _ q1 ((SA.trans q2).ahead e1) hK
end Go.Proofs.YtkehfflpbpdokaaGreatDoor
namespace Go.Proofs.YtkehfflpbpdokaaGreatDoor
def v0 (j:Nat)(l:List Int):Prop:=l=[(j:Int)+1]
open Go.MapKept
def TP (H A:aa)(p dp:Nat)(s:Pl):Prop:=Ext H A/\∃F,an F A p dp s/\∀b,F b->H.size<=b
variable {H A:aa}{p dp:Nat}{s:Pl}{n:ByteArray}
theorem TP.new {D:Nat->Prop}{d:Dk}{m:Nat}{K:(Option Addr×Int)->aa->Prop}(hg:Gl H)(e:Ext H A)(hd:bN D A dp d)(hD:∀b,D b->H.size<=b)(h8:8<=m)(hm:m<=4096)
  (hK:∀p B,TP H B p dp (rj d m)->K (aD p,0) B):Da.sp (aD dp) (m:Int) A K:=by
 refine xA (hg.mod e id) hd (λq=>by have:=hD _ q;have:=hg.lt;omega) h8 hm λF p B h1 e1 f1=>?_
 refine hK p B ⟨e.trans e1,F,h1,λb hb=>?_⟩
 rcases f1 b hb with q|q
 ·exact hD b q
 ·exact K4 e.size q
end Go.Proofs.YtkehfflpbpdokaaGreatDoor
namespace Go.Proofs.YtkehfflpbpdokaaGreatDoor
open Go.MapKept
def eU (W depth root count:Nat):List UInt8:=Ky W::Ky depth::qS root++fT (dU [(count:Int)])
theorem BI (c:Int):(dU [c]).length=8:=by simp[dU,fk]
theorem tQ (W depth root count:Nat):(eU W depth root count).length=14:=by
 unfold eU
 rw[Kv,K1,K1,fx,iq,BI]
theorem pF {H:aa}{t:TypeId}(n:Nat)(l:List UInt8){cs:Array Value}(hcs:cs=((dz l).map (Km .u8)).toArray)(hn:l.length=n)(hl:n<=1000){K:Addr->aa->Prop}
  (hK:∀H',az H' 0 t 1 ⟨some ⟨H.size,0,none⟩,n,n⟩ ((dz l).map (Km .u8))->Ext H H'->K ⟨H.size,0,none⟩ H'):aM H cs t K:=by
 subst hcs
 subst hn
 refine hK _ (az.fresh (n:=l.length) (cap:=l.length) (KU _) (Kl _) (by unfold maxLen;omega) (by simp) (by simp) ?_) (Mod.push _ _ _)
 have e:l.length*1=((dz l).map (Km .u8)).length:=by simp
 rw[e]
 exact MP
section
variable {H:aa}{k p dp:Nat}{t:Tr}{F:Nat->Prop}{s:Pl}{q:Nat}{I:Pl->St->Nat->Prop}{B C:Pl->Int->Prop}{x:St}{m:Nat}{W root depth count:Nat}
set_option maxHeartbeats 2000000 in
theorem Ax {fr:Bool}{K:Int->aa->Prop}(hg:Gl H)(h:aR H k p t)(hp:an F H p dp s)(hk:¬F k)(hw:t.width=(W:Int))(hr:t.root=(root:Int))(hd:t.depth=(depth:Int))(hc:t.count=(count:Int))(hcb:count<18446744073709551616)
  (hnm:t.name.size<=9223372036854775807) (hlogs:s.d.bf<68719470000) (hnx:s.next<1099511627776) (h0:0<=s.next) (hft:s.Fit)
  (hK1:fr=true->∀F' H',an F' H' p dp (s.more t.name 5 (eU W depth root count)).1->Step F F' H H'->K (s.more t.name 5 (eU W depth root count)).2 H')
  (hK2:fr=false->∀F' H',an F' H' p dp (s.over t.name 0 5 (eU W depth root count)).1->Step F F' H H'->K (s.over t.name 0 5 (eU W depth root count)).2 H'):Fi.sp (aD k) fr H K:=by
 refine Fi.of ?_
 unfold Fi.vc
 have hkl0:=aG h
 refine⟨λz A=>∃F1 s1,an F1 A p dp s1/\aR A k p t/\¬F1 k/\Gl A/\s1.next<9223372036854775807/\(z.2≠0->K z.2 A)/\
  (z.2=0->∀F' H',an F' H' p dp (Pl.leave (s1.set z.1 5 (eU W depth root count)) z.1).1->Step F1 F' A H'->K (Pl.leave (s1.set z.1 5 (eU W depth root count)) z.1).2 H'),?_,?_⟩
 ·simp only[aq,aD]
  cases fr with
  |true=>
    refine aT rfl ?_
    refine ag.ld (c:=au) (i:=0) (x:=aD p) h rfl ?_
    refine ag.ld (c:=cX) (i:=1) (x:=t.name) h rfl ?_
    refine uO hg hp hnm (by omega) (by omega) hft λF1 H1 p1 S1=>?_
    have hK1:=hK1 rfl
    unfold Pl.more at hK1
    have hnx1:(s.fresh t.name).1.next<=s.next+1:=s.qG h0 hnx
    generalize (s.fresh t.name).1=s1 at*
    generalize (s.fresh t.name).2.1=hd at*
    generalize (s.fresh t.name).2.2.2=e at*
    have hkF1:¬F1 k:=λu=>(S1.own _ u).elim hk λu=>by omega
    refine⟨F1,s1,p1,h.mod S1.mod hk,hkF1,hg.mod S1.mod hp.du,by omega,λhe=>?_,λhe F' H' p3 S3=>?_⟩
    ·have he:e≠0:=he
     rw[if_pos he] at hK1
     exact hK1 F1 H1 p1 S1
    ·have he:¬e≠0:=by simpa using he
     rw[if_neg he,if_neg (by decide)] at hK1
     exact hK1 F' H' p3 (S1.trans S3)
  |false=>
    refine ax rfl ?_
    refine ag.ld (c:=au) (i:=0) (x:=aD p) h rfl ?_
    refine ag.ld (c:=cX) (i:=1) (x:=t.name) h rfl ?_
    refine xf hg hp hnm (by decide) (by decide) (by omega) (by omega) λF1 H1 p1 S1=>?_
    have hK2:=hK2 rfl
    unfold Pl.over at hK2
    have hnx1:(s.bR t.name 0).1.next<=s.next+1:=s.qk h0 hnx
    generalize (s.bR t.name 0).1=s1 at*
    generalize (s.bR t.name 0).2.1=hd at*
    generalize (s.bR t.name 0).2.2=e at*
    have hkF1:¬F1 k:=λu=>(S1.own _ u).elim hk λu=>by omega
    refine⟨F1,s1,p1,h.mod S1.mod hk,hkF1,hg.mod S1.mod hp.du,by omega,λhe=>?_,λhe F' H' p3 S3=>?_⟩
    ·have he:e≠0:=he
     rw[if_pos he] at hK2
     exact hK2 F1 H1 p1 S1
    ·have he:¬e≠0:=by simpa using he
     rw[if_neg he] at hK2
     exact hK2 F' H' p3 (S1.trans S3)
 ·rintro⟨hdl,e⟩ H1 ⟨F1,s1,p1,t1,hkF1,g1,hnx1,c1,c2⟩
  dsimp only at c1 c2 ⊢
  refine ak (λhc=>c1 (by simpa using hc)) (λhc2=>?_)
  have c2:=c2 (by simpa using hc2)
  clear c1 hK1 hK2
  refine⟨λD=>Ext H1 D,.refl _ _,?_⟩
  simp only[aq,aD]
  refine ag.cP (c:=af .i64) (i:=2) (x:=t.width) (cs:=λ_=>(j4 p t).toArray) (λD hD=>t1.ext hD) (λ_ _=>rfl) ?_
  refine ag.cP (c:=af .i64) (i:=4) (x:=t.depth) (cs:=λ_=>(j4 p t).toArray) (λD hD=>t1.ext hD) (λ_ _=>rfl) ?_
  refine ag.cP (c:=af .i64) (i:=3) (x:=t.root) (cs:=λ_=>(j4 p t).toArray) (λD hD=>t1.ext hD) (λ_ _=>rfl) ?_
  rw[hw,hd,hr,jF,jF]
  have ev:#[Km .u8 ((Ky W).toNat:Int),Km .u8 ((Ky depth).toNat:Int)]=((dz [Ky W,Ky depth]).map (Km .u8)).toArray:=rfl
  -- the bytes' end
  have tail:∀(A:aa) (b:Sl),Ext H1 A->az A 0 kN 1 b ((dz ([Ky W,Ky depth]++qS root)).map (Km .u8))->(∀c,ai b c->H1.size<=c)->
    ∃G_1:aa->Prop,G_1 A/\cP au G_1 (K0 ⟨k,0,none⟩ 0) λ(x_7:Option Addr)=>ld (af .i64) A (K0 ⟨k,0,none⟩ 5) λ(x_8:Int)=>aM A #[(.int .u64 (K7.wrap x_8))] iB λp_1 H7=>G_1 H7/\AL.sp (Sl.mk (some p_1) 1 1) H7 λ(r_3:Sl) H8=>G_1 H8/\bo ao Kf (Ks #[iy,iy] iy #[b.v,r_3.v]) H8 λ(s:Sl) H9=>G_1 H9/\CX.sp x_7 hdl (5:Int) s H9 λ(e:Int) H10=>br (e==(0:Int)) (ld au H10 (K0 ⟨k,0,none⟩ 0) λ(x_9:Option Addr)=>AP.sp x_9 hdl H10 λ(e_1:Int) H11=>K e_1 H11) (K e H10):=by
   intro A b eA ob fb
   refine⟨λD=>Ext H1 D,eA,?_⟩
   refine ag.cP (c:=au) (i:=0) (x:=aD p) (cs:=λ_=>(j4 p t).toArray) (λD hD=>t1.ext hD) (λ_ _=>rfl) ?_
   refine ag.ld (c:=af .i64) (i:=5) (x:=t.count) (t1.ext eA) rfl ?_
   have ew:K7.wrap t.count=(count:Int):=by rw[hc,OE];omega
   rw[ew]
   have eo:#[Km .u64 (count:Int)]=(([(count:Int)]).map (Km .u64)).toArray:=rfl
   rw[eo]
   refine iG _ λpq H7 z7 q7 a7 e7=>⟨eA.trans e7,?_⟩
   refine nh (a7 1) (by simp) λsb H8 o8 e8=>⟨(eA.trans e7).trans e8,?_⟩
   have b8:cG H8 sb (fT (dU [(count:Int)])):=by
    unfold cG
    rw[lA (lg _)]
    exact o8.ints
   have hz7:=(e7.trans e8).size
   refine y4 (s:=b) (x:=sb) ((ob.ext e7).ext e8) b8 (by rw[iq,BI];show 6+8<=1000000;omega) λb9 H9 o9 m9 f9=>?_
   have e9:Ext H1 H9:=((Ext.mod ((eA.trans e7).trans e8)).trans m9).ext fb
   refine⟨e9,?_⟩
   have eb:[Ky W,Ky depth]++qS root++fT (dU [(count:Int)])=eU W depth root count:=rfl
   rw[eb] at o9
   have SA:Step F1 F1 H1 H9:=.bp e9
   refine Bi (kd:=5) (l:=eU W depth root count) (g1.mod e9 id) (p1.ext e9) o9.ints λF2 H2 p2 S2=>?_
   have hg2:Gl H2:=(g1.mod e9 id).mod S2.mod p1.du
   have hn2:(s1.set hdl 5 (eU W depth root count)).1.next=s1.next:=s1.uL _ _ _
   generalize s1.set hdl 5 (eU W depth root count)=s2 at*
   refine ak (λhc3=>?_) (λhc3=>?_)
   ·have e2:s2.2=0:=by simpa using hc3
    refine ag.ld (c:=au) (i:=0) (x:=aD p) ((t1.ext e9).mod S2.mod hkF1) rfl ?_
    refine pO hg2 p2 (by omega) λF3 H3 p3 S3=>?_
    have el:Pl.leave s2 hdl=s2.1.bm hdl:=if_pos e2
    rw[el] at c2
    exact c2 F3 H3 p3 ((SA.trans S2).trans S3)
   ·have e2:s2.2≠0:=by simpa using hc3
    have el:Pl.leave s2 hdl=s2:=if_neg e2
    rw[el] at c2
    exact c2 F2 H2 p2 (SA.trans S2)
  have f5:∀{A:aa},H1.size<=A.size->∀c,ai (Sl.mk (some ⟨A.size,0,none⟩) 2 2) c->H1.size<=c:=by
   rintro A hA c ⟨ad,ha,rfl⟩
   cases ha;exact hA
  refine⟨?_,?_⟩
  ·refine pF 2 [Ky W,Ky depth] ev rfl (by decide) λH4 o4 e4=>P8 e4 ?_
   refine nf λpb H5 b5 e5 q5=>P8 (e4.trans e5) ?_
   have hz:=(e4.trans e5).size
   refine y4 (s:=⟨some ⟨H1.size,0,none⟩,2,2⟩) (x:=⟨some pb,4,4⟩) (o4.ext e5) b5 (by rw[fx];show 2+4<=1000000;omega) λb6 H6 o6 m6 g6=>?_
   have e6:Ext H1 H6:=((Ext.mod (e4.trans e5)).trans m6).ext (f5 (Kl _))
   refine P8 e6 (tail H6 b6 e6 o6 λc u=>?_)
   rcases g6 c u with v|v
   ·exact f5 (Kl _) c v
   ·omega
  ·refine nf λpb H4 b4 e4 q4=>P8 e4 ?_
   refine pF 2 [Ky W,Ky depth] ev rfl (by decide) λH5 o5 e5=>P8 (e4.trans e5) ?_
   have hz4:=e4.size
   have hz:=(e4.trans e5).size
   refine y4 (s:=⟨some ⟨H4.size,0,none⟩,2,2⟩) (x:=⟨some pb,4,4⟩) o5 (b4.aA λad _ hl=>e5.same _ hl id) (by rw[fx];show 2+4<=1000000;omega) λb6 H6 o6 m6 g6=>?_
   have e6:Ext H1 H6:=((Ext.mod (e4.trans e5)).trans m6).ext (f5 hz4)
   refine P8 e6 (tail H6 b6 e6 o6 λc u=>?_)
   rcases g6 c u with v|v
   ·exact f5 hz4 c v
   ·omega
def HM (n:ByteArray)(W:Nat):Tr:=⟨n,W,1,1,0,0,false⟩
def St.made (x:St)(W:Nat):St:=St.more ⟨x.N+1,fW x.T x.N (5,eU W 1 1 0)⟩ ⟨[],[]⟩
set_option maxHeartbeats 1000000 in
theorem Ev {n:ByteArray}{x0:St}{K:(Option Addr×Int)->aa->Prop}(S:ib n q I B C)(hW:W<=16)(hg:Gl H)(hp:an F H p dp s)(hm:m+2<=30000000000)
  (hI:(s.d.create n).2=0->I (s.cT (s.d.create n).1) x0 m)
  (hKc:(s.d.create n).2≠0->∀F' A,an F' A p dp (s.cT (s.d.create n).1)->Step F F' H A->K (none,(s.d.create n).2) A)
  (hK1:(s.d.create n).2=0->x0.N+1<q->∀F' A s' k,an F' A p dp s'->Step F F' H A->aR A k p (HM n W)->¬F' k->H.size<=k->I s' (x0.made W) (m+2)->K (aD k,0) A)
  (hKB:(s.d.create n).2=0->¬x0.N+1<q->∀F' A s' e,an F' A p dp s'->Step F F' H A->B s' e->K (none,e) A)
  (hKC:∀F' A s' e,an F' A p dp s'->Step F F' H A->C s' e->K (none,e) A):Dt.sp (aD p) n W H K:=by
 refine Dt.of ?_
 unfold Dt.vc
 obtain⟨_,_,hroom,_⟩:=jV hW
 refine ax rfl ?_
 refine kZ ?_
 refine ax (by simp only[beq_eq_false_iff_ne,ne_eq];omega) ?_
 refine Bz hp ?_
 obtain⟨D,d1,_,d3⟩:=an.gT hg hp
 refine Ad d1 λD' H3 d4 S4=>?_
 obtain⟨F3,p3,T3⟩:=d3 D' H3 _ d4 S4
 refine ak (λhc=>hKc (by simpa using hc) F3 H3 p3 T3) (λhc=>?_)
 have hc0:(s.d.create n).2=0:=by simpa using hc
 have hI:=hI hc0
 have hK1:=hK1 hc0
 have hKB:=hKB hc0
 clear hKc
 generalize s.cT (s.d.create n).1=s3 at*
 have hg3:Gl H3:=hg.mod T3.mod hp.du
 refine ar λH4 z4 r4 e4=>?_
 have t4:aR H4 H3.size p (HM n W):=r4
 have k4:¬F3 H3.size:=λu=>by have:=p3.lt _ u;omega
 have T4:Step F F3 H H4:=T3.trans (.bp e4)
 have hz3:=T3.mod.size
 obtain⟨b1,b2,b3,b4,b5,b6⟩:=S.pre hI
 have hlen:(eU W 1 1 0).length<=504:=by rw[tQ];omega
 refine Ax (fr:=true) (W:=W) (depth:=1) (root:=1) (count:=0) (hg3.mod e4 id) t4 (p3.ext e4) k4 rfl rfl rfl rfl (by decide) S.name (by omega) (by omega) b2 b4 (λ_ F5 H5 p5 S5=>?_) (λu=>by cases u)
 have T5:=T4.trans S5
 have k5:¬F5 H3.size:=λu=>by
  rcases S5.own _ u with v|v
  ·exact k4 v
  ·omega
 have t5:aR H5 H3.size p (HM n W):=t4.mod S5.mod k4
 have hz5:=S5.mod.size
 refine⟨λz A=>∃F' s',an F' A p dp s'/\Step F F' H A/\((z=0/\x0.N+1<q/\aR A H3.size p (HM n W)/\¬F' H3.size/\I s' (x0.made W) (m+2))\/(B s' z/\¬x0.N+1<q)\/C s' z),?_,?_⟩
 ·change br ((s3.more n 5 (eU W 1 1 0)).2==0) _ _
  have hbad:∀e:Int,e≠0->∀(J:Int->aa->Prop) (M:Prop),J e H5->br (e==(0:Int)) M (J e H5):=λe he J M hj=>ax (by simpa using he) hj
  by_cases hN:x0.N<q
  ·rcases S.more (kd:=5) (b:=eU W 1 1 0) hI (by omega) hlen (by decide) hN with ⟨a1,a2,a3⟩|hC
   ·change an F5 H5 p dp (s3.more n 5 (eU W 1 1 0)).1 at p5
    rw[a1]
    refine aT rfl ?_
    refine ar λH7 z7 r7 e7=>?_
    have hnb:¬F5 H5.size:=λu=>by have:=p5.lt _ u;omega
    have nd:cz F5 H7 H5.size (-1) (Sl.mk none 0 0) (Sl.mk none 0 0) ⟨[],[]⟩:=⟨r7,hnb,⟨rfl,Reads.nil _ _⟩,(λad u=>by cases u),⟨rfl,(λad u=>by cases u),λi hi=>by simp at hi⟩⟩
    have T7:Step F F5 H H7:=T5.trans (.bp e7)
    have hg7:Gl H7:=((hg3.mod e4 id).mod S5.mod p3.du).mod e7 id
    have hkn:H3.size≠H5.size:=by omega
    have hdrop:∀{F8:Nat->Prop} {A:aa},Step (λb=>F5 b\/b=H5.size) (λb=>F8 b\/b=H5.size) H7 A->Step F F8 H A:=λS8=>T7.drop (by omega) S8
    refine lE (t:=HM n W) S a3 (by omega) hg7 (t5.ext e7) (p5.ext e7) k5 hkn nd (by decide) (by simp) (by simp) (by simp) (λhN2 F8 A s8 p8 S8 I8 n8=>?_) (λhN2 F8 A s8 e p8 S8 h8 hB=>?_) (λF8 A s8 e p8 S8 h8 hC=>?_)
    ·refine⟨F8,s8,p8,hdrop S8,.inl ⟨rfl,hN2,(t5.ext e7).mod S8.mod λu=>u.elim k5 hkn,λu=>?_,I8⟩⟩
     rcases S8.own _ (.inl u) with v|v
     ·exact v.elim k5 hkn
     ·omega
    ·exact⟨F8,s8,p8,hdrop S8,.inr (.inl ⟨hB,hN2⟩)⟩
    ·exact⟨F8,s8,p8,hdrop S8,.inr (.inr hC)⟩
   ·exact ax (by have:=(S.errC hC).1;simpa using this) ⟨F5,_,p5,T5,.inr (.inr hC)⟩
  ·rcases S.full (kd:=5) (b:=eU W 1 1 0) hI (by omega) hlen (by decide) hN with hB|hC
   ·exact ax (by have:=(S.errB hB).1;simpa using this) ⟨F5,_,p5,T5,.inr (.inl ⟨hB,by omega⟩)⟩
   ·exact ax (by have:=(S.errC hC).1;simpa using this) ⟨F5,_,p5,T5,.inr (.inr hC)⟩
 ·rintro z A ⟨F',s',pA,SA,hA⟩
  rcases hA with ⟨rfl,hN,tA,kA,IA⟩|⟨hB,hN⟩|hC
  ·exact ax rfl (hK1 hN F' A s' H3.size pA SA tA kA hz3 IA)
  ·exact aT (by have:=(S.errB hB).1;simpa using this) (hKB hN F' A s' z pA SA hB)
  ·exact aT (by have:=(S.errC hC).1;simpa using this) (hKC F' A s' z pA SA hC)
end
end Go.Proofs.YtkehfflpbpdokaaGreatDoor
namespace Go.Proofs.YtkehfflpbpdokaaGreatDoor
structure fF (x:St)(W root depth:Nat)(L:List (List Int))(P:List Nat):Prop where
 tn:Tn x W depth (depth - 1) root dK L P
 nodup:P.Nodup
 deep:1<=depth
 head:0∉P
 aB:P.length+1=x.N
theorem sE (l:List Int):dK.Has l:=⟨λa h=>(by cases h),λa h=>(by cases h)⟩
theorem vl {T:Nat->UInt8×List UInt8}{W:Nat}(hW:W<=16):fF (St.made ⟨0,T⟩ W) W 1 1 [] [1]:=by
 refine⟨?_,by simp,Kl _,by simp,rfl⟩
 refine Tn.mk (n:=⟨[],[]⟩) (Q:=[]) hW (by show 1<2;decide) (by exact cW (fW T 0 (5,eU W 1 1 0)) 1 _) ⟨λ_=>rfl,λq=>by omega,by decide,λq=>by omega,λl hl=>(by cases hl),λk hk=>(by cases hk),by decide⟩ ⟨rfl,rfl,rfl⟩
theorem iU {L:List (List Int)}(h:gS L):L.Nodup:=OY (λ{a b} h e=>by subst e;exact bM _ h) h
theorem kM.length {l:List Int}{L L':List (List Int)}(h:kM l L L')(h1:gS L)(h2:gS L')(hl:l∉L):L'.length=L.length+1:=by
 have p:L'.Perm (l::L):=(List.perm_ext_iff_of_nodup (iU h2) (Lw.2 ⟨hl,iU h1⟩)).2 λa=>by
  rw[h a,Ku]
 simpa using p.length_eq
theorem qL:∀{A B:List (List Int)},gS A->gS B->(∀y,y∈A↔y∈B)->A=B
 |[],[],_,_,_=>rfl
 |[],b::B,_,_,h=>by have:=(h b).2 Kw;cases this
 |a::A,[],_,_,h=>by have:=(h a).1 Kw;cases this
 |a::A,b::B,h1,h2,h=>by
   obtain⟨a1,a2⟩:=LR.1 h1
   obtain⟨b1,b2⟩:=LR.1 h2
   have e:a=b:=by
    rcases Ku.1 ((h a).1 Kw) with q|q
    ·exact q
    ·rcases Ku.1 ((h b).2 Kw) with r|r
     ·exact r.symm
     ·exact absurd (bJ (b1 a q) (a1 b r)) (bM b)
   subst e
   rw[qL a2 b2 λy=>?_]
   constructor
   ·intro hy
    rcases Ku.1 ((h y).1 (KO _ hy)) with q|q
    ·subst q;exact absurd (a1 y hy) (bM _)
    ·exact q
   ·intro hy
    rcases Ku.1 ((h y).2 (KO _ hy)) with q|q
    ·subst q;exact absurd (b1 y hy) (bM _)
    ·exact q
section
variable {x:St}{W root depth:Nat}{L:List (List Int)}{P:List Nat}
theorem fF.AQ (h:fF x W root depth L P):gS L:=h.tn.rows.1
theorem fF.bounds (h:fF x W root depth L P)(hL:L.length<=400):depth<=401/\x.N<=802/\root<x.N/\root≠0:=by
 have hp:=h.tn.ab
 have hr:root≠0:=λe=>h.head (e▸hp.1)
 have h1:=h.aB
 rcases K8 1 depth with q|q
 ·obtain⟨s1,s2⟩:=h.tn.AR q
  have:=RO (n:=depth - 1)
  refine⟨by omega,by omega,hp.2,hr⟩
 ·have hd:depth=1:=by have:=h.deep;omega
  subst hd
  obtain⟨n,a1,a2,a3,a4⟩:=h.tn
  rw[a4] at h1
  simp at h1
  exact⟨by omega,by omega,hp.2,hr⟩
theorem fF.ins {l:List Int}{q:Nat}(h:fF x W root depth L P)(hW:W<=16)(hl:l.length=W/\bQ l)(hL:L.length<=400)(n:ByteArray)(hq:x.N+depth<q):
  (l∈L/\x.ins q ⟨n,W,root,depth,L.length,0,false⟩ root depth l=.ok false ⟨n,W,root,depth,L.length,0,false⟩ x)\/
  (l∉L/\∃x' root' depth' L' P',x.ins q ⟨n,W,root,depth,L.length,0,false⟩ root depth l=.ok true ⟨n,W,(root':Nat),(depth':Nat),L'.length,0,false⟩ x'/\fF x' W root' depth' L' P'/\kM l L L'/\L'.length=L.length+1):=by
 obtain⟨b1,b2,b3,b4⟩:=h.bounds hL
 have hd:=h.deep
 have hadd:=Bn (q:=q) hW hl h.tn h.nodup (sE l) (by omega) (by omega)
 unfold St.ins
 show (l∈L/\(match x.add W q depth l (depth - 1) root dK with
  |.store=>AU.store
  |.quota=>.quota
  |.ok f none x'=>.ok f (Tr.up ⟨n,W,root,depth,L.length,0,false⟩ f) x'
  |.ok f (some m) x'=>if x'.N<q then .ok f ((Tr.grown ⟨n,W,root,depth,L.length,0,false⟩ x'.N (depth+1)).up f) (x'.more ⟨[root,m.1],[m.2]⟩) else .quota)=_)\/(l∉L/\∃x' root' depth' L' P',(match x.add W q depth l (depth - 1) root dK with
  |.store=>AU.store
  |.quota=>.quota
  |.ok f none x'=>.ok f (Tr.up ⟨n,W,root,depth,L.length,0,false⟩ f) x'
  |.ok f (some m) x'=>if x'.N<q then .ok f ((Tr.grown ⟨n,W,root,depth,L.length,0,false⟩ x'.N (depth+1)).up f) (x'.more ⟨[root,m.1],[m.2]⟩) else .quota)=_/\_)
 rcases hadd with ⟨i1,i2⟩|⟨i1,i2⟩
 ·left
  rw[i2]
  exact⟨i1,rfl⟩
 ·right
  refine⟨i1,?_⟩
  generalize x.add W q depth l (depth - 1) root dK=r at i2
  have hpg:=h.aB
  cases i2 with
  |put t1 p1 g1 n1=>
    rename_i x' L' P'
    have hlen:=p1.length h.AQ t1.rows.1 i1
    have gl:=g1.len
    refine⟨x',root,depth,L',P',?_,⟨t1,g1.nodup,hd,λq=>?_,by omega⟩,p1,hlen⟩
    ·show AU.ok true _ _=_
     unfold Tr.up
     rw[if_pos rfl,hlen];rfl
    ·rcases g1.mem 0 q with v|v
     ·exact h.head v
     ·omega
  |cut t1 t2 p1 g1 u1 u2 u3 u4 u5 n1=>
    rename_i x' g up L1 L2 P1 P2
    have hlt1:=t1.lt
    have hlt2:=t2.lt
    have gl:=g1.len
    have gle:=g1.le
    have hltP:∀p∈P1++P2,p<x'.N:=λp hp=>by
     rcases Kk.1 hp with v|v
     ·exact hlt1 p v
     ·exact hlt2 p v
    have hd0:1<depth\/(depth - 1=0/\L1≠[]):=by
     rcases K8 1 depth with q|q
     ·exact .inl q
     ·exact .inr ⟨by omega,(u5 (by omega)).1⟩
    have hd1:1<depth\/(depth - 1=0/\L2≠[]):=by
     rcases K8 1 depth with q|q
     ·exact .inl q
     ·exact .inr ⟨by omega,(u5 (by omega)).2⟩
    have hne:∀p∈P1++P2,(x'.more ⟨[root,g],[up]⟩).T p=x'.T p:=λp hp=>by
     have:=hltP p hp
     exact bH (by omega)
    have c1:=(t1.deep (d':=depth+1) hd0).congr (x':=x'.more ⟨[root,g],[up]⟩) (Lj _) λp hp=>hne p (Kk.2 (.inl hp))
    have c2:=(t2.deep (d':=depth+1) hd1).congr (x':=x'.more ⟨[root,g],[up]⟩) (Lj _) λp hp=>hne p (Kk.2 (.inr hp))
    have hbl:Nd.bytes ⟨[root,g],[up]⟩=Nd.bytes ⟨[root,g],[up]⟩:=rfl
    have G4:Nd.my ⟨[root,g],[up]⟩ W (depth+1) (depth - 1+1) dK:=by
     refine⟨λq=>by omega,λ_=>⟨rfl,Kl _⟩,cD.2 ⟨List.pairwise_singleton _ _,λy _=>sE y⟩,λ_ q=>(by cases q),λy hy=>?_,λk hk=>?_,?_⟩
     ·have:y=up:=by simpa using hy
      rw[this];exact⟨u3,u4⟩
     ·have:k=root\/k=g:=by simpa using hk
      have hg:=t2.ab.2
      rcases this with v|v
      ·omega
      ·omega
     ·rw[Nd.cd hW λy hy=>by
       have:y=up:=by simpa using hy
       rw[this];exact u3]
      rw[if_neg (by simp),(nE hW).2]
      simp only[K1,MI]
      split<;>omega
    have tree:Tn (x'.more ⟨[root,g],[up]⟩) W (depth+1) (depth - 1+1) x'.N dK (L1++L2) (x'.N::(P1++P2)):=by
     refine Tn.mk hW (Oy _) (cW _ _ _) G4 ⟨[L1,L2],[P1,P2],⟨rfl,rfl,rfl,λi hi=>?_⟩,by simp,by simp⟩
     have:i=0\/i=1:=by
      have:i<2:=hi
      omega
     rcases this with v|v
     ·subst v;exact c1
     ·subst v;exact c2
    rw[show depth - 1+1=depth+1 - 1 by omega] at tree
    have hlen:=p1.length h.AQ tree.rows.1 i1
    refine⟨x'.more ⟨[root,g],[up]⟩,x'.N,depth+1,L1++L2,x'.N::(P1++P2),?_,⟨tree,Lw.2 ⟨λq=>by have:=hltP _ q;omega,g1.nodup⟩,by omega,λq=>?_,?_⟩,p1,hlen⟩
    ·show (if x'.N<q then AU.ok true _ _ else .quota)=_
     rw[if_pos (by omega)]
     unfold Tr.up
     rw[if_pos rfl,hlen];rfl
    ·rcases Ku.1 q with v|v
     ·omega
     ·rcases g1.mem 0 v with u|u
      ·exact h.head u
      ·omega
    ·show (x'.N::(P1++P2)).length+1=x'.N+1
     rw[K1];omega
theorem fF.AF {low:List Int}{strict:Bool}{t:Tr}(h:fF x W root depth L P)(hw:t.width=(W:Int)):x.AF t root depth low strict=some ((L.filter (pq low strict)).head?):=by
 unfold St.AF
 rw[hw]
 exact h.tn.find
end
theorem Il {low:List Int}{strict:Bool}(a b:List Int)(h:je a b)(ha:pq low strict a=true):pq low strict b=true:=by
 rcases mg a low with q|q|q
 ·rw[lT q] at ha;cases ha
 ·subst q;exact pP h
 ·exact pP (bJ q h)
open Go.MapKept
structure cr (A:aa)(p:Nat)(M:aU)(k:Nat)(n:ByteArray)(W:Nat)(L:List (List Int)):Prop where
 at_:∃(x:St) (root depth:Nat) (P:List Nat),aR A k p ⟨n,W,root,depth,L.length,0,false⟩/\M n=some x/\fF x W root depth L P
section
variable {H0 A B:aa}{F F':Nat->Prop}{p dp k W Q U most m:Nat}{s s':Pl}{M M':aU}{n:ByteArray}{L:List (List Int)}{x x':St}{l:Sl}{ll:List Int}
theorem cr.aA (h:cr A p M k n W L)(hk:B[k]?=A[k]?)(hM:M' n=M n):cr B p M' k n W L:=by
 obtain⟨x,root,depth,P,a,b,c⟩:=h.at_
 exact⟨x,root,depth,P,hk.trans a,by rw[hM];exact b,c⟩
theorem cr.lt (h:cr A p M k n W L):k<A.size:=by obtain⟨x,root,depth,P,a,b,c⟩:=h.at_;exact aG a
theorem cr.AQ (h:cr A p M k n W L):gS L:=by obtain⟨x,root,depth,P,a,b,c⟩:=h.at_;exact c.AQ
theorem cr.there (h:cr A p M k n W L):∃x,M n=some x:=by obtain⟨x,root,depth,P,a,b,c⟩:=h.at_;exact⟨x,b⟩
theorem cr.rows (h:cr A p M k n W L):∀y∈L,y.length=W/\bQ y:=by
 obtain⟨x,root,depth,P,a,b,c⟩:=h.at_
 exact λy hy=>(c.tn.rows.2 y hy).2
theorem fF.small {root depth:Nat}{P:List Nat}(h:fF x W root depth L P):depth<=L.length+1/\x.N<=2*L.length+2:=by
 have h1:=h.aB
 rcases K8 1 depth with q|q
 ·obtain⟨s1,s2⟩:=h.tn.AR q
  have:=RO (n:=depth - 1)
  omega
 ·have hd:depth=1:=by have:=h.deep;omega
  subst hd
  obtain⟨n,a1,a2,a3,a4⟩:=h.tn
  rw[a4] at h1
  simp at h1
  omega
theorem cr.count {K:Int->aa->Prop}(h:cr A p M k n W L)(hK:K (L.length:Int) A):E7.sp (aD k) A K:=by
 obtain⟨x,root,depth,P,a,b,c⟩:=h.at_
 exact yW a hK
theorem cr.insert {K:(Bool×Int)->aa->Prop}(h:cr A p M k n W L)(hP:aJ H0 A F p dp s M Q U most m)(hg:Gl H0)(hk:¬F k/\H0.size<=k)(hn:n.size<=9223372036854775807)(hW:W<=16)(hL:L.length<=400)(hQ:Q<=1048576)(hq:U+L.length+1<Q)(hm:m+4000<=30000000000)
  (hl:Ints .u64 A l ll) (hll:ll.length=W/\bQ ll)
  (hK:∀f L' F' s' M' U' B,aJ H0 B F' p dp s' M' Q U' most (m+4000)->cr B p M' k n W L'->(f=true↔ll∉L)->kM ll L L'->(f=false->L'=L)->L'.length<=L.length+1->(∀a,a≠n->M' a=M a)->Step (λb=>F b\/b=k) (λb=>F' b\/b=k) A B->¬F' k->U'<=U+2*L.length+4->K (f,0) B):Db.sp (aD k) l A K:=by
 obtain⟨x,root,depth,P,ht,hM,on⟩:=h.at_
 obtain⟨b1,b2,b3,b4⟩:=on.bounds hL
 obtain⟨c1,c2⟩:=on.small
 have hN:=hP.calm.told.DO hM
 have hins:=on.ins (q:=Q - (U - x.N)) hW hll hL n (by omega)
 have own:∀b,F b\/b=k->H0.size<=b:=λb u=>u.elim (hP.old b) λv=>v▸hk.2
 refine ya (W:=W) (root:=root) (depth:=depth) (t:=⟨n,W,root,depth,L.length,0,false⟩) (jw (R:=U - x.N) (Mo:=M) (most:=most) hn hQ) rfl hW rfl rfl ⟨on.deep,by omega⟩ (by omega) ⟨by show (0:Int)<=(L.length:Int);omega,by show (L.length:Int)<=_;omega⟩ (hP.many hM) hm (hP.gl hg) ht hP.al hk.1 hl (λu=>absurd rfl u) (λ_ u=>absurd hll.1 u) (λ_ _ f t' x' hi F' B s' p1 S1 k1 t1 I1=>?_) (λ_ _ hi=>?_) (λ_ _ hi=>?_) (λ_ _ _ _ _ _ _ _ hC=>hC.elim)
 ·have hp1:=hP.goes I1 p1 S1 own (λb hb=>.inl hb)
  rcases hins with ⟨i1,i2⟩|⟨i1,x2,root',depth',L',P',i2,on',pl,len⟩
  ·rw[i2] at hi
   cases hi
   exact hK false L F' s' _ _ B hp1 ⟨x,root,depth,P,t1,bd _ _ _,on⟩ ⟨λu=>(by cases u),λu=>absurd i1 u⟩ (λy=>⟨.inr,λu=>u.elim (λe=>e▸i1) id⟩) (λ_=>rfl) (Lj _) (λa ha=>aQ ha) S1 k1 (by omega)
  ·rw[i2] at hi
   cases hi
   have c2':=on'.small.2
   exact hK true L' F' s' _ _ B hp1 ⟨x',root',depth',P',t1,bd _ _ _,on'⟩ ⟨λ_=>i1,λ_=>rfl⟩ pl (λu=>(by cases u)) (Nat.le_of_eq len) (λa ha=>aQ ha) S1 k1 (by omega)
 ·exfalso
  rcases hins with ⟨i1,i2⟩|⟨i1,x2,root',depth',L',P',i2,on',pl,len⟩<;>(rw[i2] at hi;cases hi)
 ·exfalso
  rcases hins with ⟨i1,i2⟩|⟨i1,x2,root',depth',L',P',i2,on',pl,len⟩<;>(rw[i2] at hi;cases hi)
theorem D4 (h:gS L):((L.filter (pq ll false)).head?=none->decide (ll∈L)=false)/\∀y,(L.filter (pq ll false)).head?=some y->decide (aP y ll=0)=decide (ll∈L):=by
 have hp:pq ll false ll=true:=by
  unfold pq
  have:¬aP ll ll<0:=bM ll
  simpa using this
 have ha:gS (L.filter (pq ll false)):=h.sublist List.filter_sublist
 have hall:∀y∈L.filter (pq ll false),¬je y ll:=λy hy q=>by
  have:=(KP.1 hy).2
  rw[lT q] at this;cases this
 have hmem:ll∈L↔ll∈L.filter (pq ll false):=⟨λu=>KP.2 ⟨u,hp⟩,λu=>(KP.1 u).1⟩
 generalize L.filter (pq ll false)=N at*
 refine⟨λhn=>decide_eq_false λu=>?_,λy hy=>decide_eq_decide.2 ?_⟩
 ·rw[hmem] at u
  cases N with
  |nil=>cases u
  |cons a N=>cases hn
 ·rw[hmem,fu]
  cases N with
  |nil=>cases hy
  |cons a N=>
    obtain rfl:a=y:=Kq hy
    rw[Ku]
    constructor
    ·exact λe=>.inl e.symm
    ·rintro(e|e)
     ·exact e.symm
     ·exact absurd ((LR.1 ha).1 ll e) (hall a Kw)
theorem cr.has {K:(Bool×Int)->aa->Prop}(h:cr A p M k n W L)(hP:aJ H0 A F p dp s M Q U most m)(hg:Gl H0)(hk:¬F k/\H0.size<=k)(hn:n.size<=9223372036854775807)(hW:W<=16)(hL:L.length<=400)(hQ:Q<=1048576)(hm:m+1000000<=30000000000)
  (hl:Ints .u64 A l ll) (hlo:qz F A l ll) (hll:ll.length=W)
  (hK:∀F' s' B,aJ H0 B F' p dp s' M Q U most (m+1000000)->cr B p M k n W L->Step (λb=>F b\/b=k) (λb=>F' b\/b=k) A B->Step F F' A B->¬F' k->K (decide (ll∈L),0) B):DL.sp (aD k) l A K:=by
 obtain⟨x,root,depth,P,ht,hM,on⟩:=h.at_
 obtain⟨b1,b2,b3,b4⟩:=on.bounds hL
 have hN:=hP.calm.told.DO hM
 have hf:=on.AF (low:=ll) (strict:=false) (t:=⟨n,W,root,depth,L.length,0,false⟩) rfl
 have own:∀b,F b\/b=k->H0.size<=b:=λb u=>u.elim (hP.old b) λv=>v▸hk.2
 refine DI (W:=W) (root:=root) (depth:=depth) (t:=⟨n,W,root,depth,L.length,0,false⟩) (jw (R:=U - x.N) (Mo:=M) (most:=most) hn hQ) rfl hW rfl rfl ⟨on.deep,by omega⟩ (by omega) (hP.many hM) hm (hP.gl hg) ht hP.al hk.1 hl hlo (λu=>absurd rfl u) (λ_ u=>absurd hll u) (λ_ _ o ho F' B s' p1 S1 S2 k1 t1 I1=>?_) (λ_ _ u=>by rw[hf] at u;cases u) (λ_ _ _ _ _ _ _ _ hC=>hC.elim)
 rw[hf] at ho
 have ho:(L.filter (pq ll false)).head?=o:=Kq ho
 have hp1:=hP.goes I1 p1 S1 own (λb hb=>.inl hb)
 rw[tB hM,show x.N+(U - x.N)=U by omega] at hp1
 have key:=hK F' s' B hp1 ⟨x,root,depth,P,t1,hM,on⟩ S1 S2 k1
 obtain⟨e1,e2⟩:=D4 (ll:=ll) on.AQ
 cases o with
 |none=>rw[e1 ho] at key;exact key
 |some y=>rw[<-e2 y ho] at key;exact key
theorem cr.next {K:(Sl×Bool×Int)->aa->Prop}{cb:Nat}{lo:Sl}{strict:Bool}(h:cr A p M k n W L)(hP:aJ H0 A F p dp s M Q U most m)(hg:Gl H0)(hk:¬F k/\H0.size<=k)(hcb:H0.size<=cb)(hn:n.size<=9223372036854775807)(hW:W<=16)(hL:L.length<=400)(hQ:Q<=1048576)(hm:m+1000000<=30000000000)(hc:iu A F k cb lo ll strict)
  (hK1:(L.filter (pq ll strict)).head?=none->∀F' s' B,aJ H0 B F' p dp s' M Q U most (m+1000000)->cr B p M k n W L->Step (λb=>F b\/b=k\/b=cb) (λb=>F' b\/b=k\/b=cb) A B->¬F' k->iu B F' k cb lo ll strict->K (jJ,false,0) B)
  (hK3:∀y,(L.filter (pq ll strict)).head?=some y->∀F' s' B sl lo',aJ H0 B F' p dp s' M Q U most (m+1000000)->cr B p M k n W L->Step (λb=>F b\/b=k\/b=cb) (λb=>F' b\/b=k\/b=cb) A B->¬F' k->iu B F' k cb lo' y true->az B 0 iB 1 sl (y.map (Km .u64))->(∀b,ai sl b->A.size<=b/\¬F' b/\b≠k/\b≠cb/\¬ai lo' b)/\(∀b,ai lo' b->A.size<=b)->K (sl,true,0) B):C7.sp (some ⟨cb,0,none⟩) A K:=by
 obtain⟨x,root,depth,P,ht,hM,on⟩:=h.at_
 obtain⟨b1,b2,b3,b4⟩:=on.bounds hL
 have hN:=hP.calm.told.DO hM
 have hf:=on.AF (low:=ll) (strict:=strict) (t:=⟨n,W,root,depth,L.length,0,false⟩) rfl
 have own:∀b,F b\/b=k\/b=cb->H0.size<=b:=λb u=>by
  rcases u with u|u|u
  ·exact hP.old b u
  ·rw[u];exact hk.2
  ·rw[u];exact hcb
 have pm:∀{F':Nat->Prop} {s':Pl} {B:aa},uK n M Q (U - x.N) most s' x (m+1000000)->an F' B p dp s'->Step (λb=>F b\/b=k\/b=cb) (λb=>F' b\/b=k\/b=cb) A B->aJ H0 B F' p dp s' M Q U most (m+1000000):=λI1 p1 S1=>by
  have hp1:=hP.goes I1 p1 S1 own (λb hb=>.inl hb)
  rw[tB hM,show x.N+(U - x.N)=U by omega] at hp1
  exact hp1
 refine Cu (W:=W) (root:=root) (depth:=depth) (t:=⟨n,W,root,depth,L.length,0,false⟩) (jw (R:=U - x.N) (Mo:=M) (most:=most) hn hQ) rfl hW rfl rfl ⟨on.deep,by omega⟩ (by omega) (hP.many hM) hm (hP.gl hg) ht hP.al hk.1 hc (λu=>absurd rfl u) (λ_ hn2 F' B s' p1 S1 k1 t1 c1 I1=>?_) (λ_ y hy F' B s' sl lo' p1 S1 k1 t1 c1 I1 o1 f1=>?_) (λ_ u=>by rw[hf] at u;cases u) (λ_ _ _ _ _ _ _ _ hC=>hC.elim)
 ·rw[hf] at hn2
  exact hK1 (Kq hn2) F' s' B (pm I1 p1 S1) ⟨x,root,depth,P,t1,hM,on⟩ S1 k1 c1
 ·rw[hf] at hy
  exact hK3 y (Kq hy) F' s' B sl lo' (pm I1 p1 S1) ⟨x,root,depth,P,t1,hM,on⟩ S1 k1 c1 o1 f1
theorem aJ.uc {K:(Option Addr×Int)->aa->Prop}{ns:List ByteArray}(hP:aJ H0 A F p dp s M Q U most m)(hg:Gl H0)(hn:n.size<=9223372036854775807)(hnm:named n=true)(hW:W<=16)(hQ:Q<=1048576)(hq:U+2<Q)(hm:m+2<=30000000000)(hM:M n=none)(hns:∀a y,M a=some y->a∈ns)(hnl:ns.length<4096)
  (hK:∀F' s' x' k B,aJ H0 B F' p dp s' (dP M n (some x')) Q (U+2) most (m+2)->cr B p (dP M n (some x')) k n W []->Step F F' A B->¬F' k->A.size<=k->k<B.size->K (aD k,0) B):Dt.sp (aD p) n (W:Int) A K:=by
 have hfl:=hP.calm.told.Bp hns
 obtain⟨c1,c2,c3,c4⟩:=hP.calm.told.create hM hnm (by omega) (λ_=>(0,[]))
 have I0:uK n M Q U most (s.cT (s.d.create n).1) ⟨0,λ_=>(0,[])⟩ m:=⟨by show cK _ _ _ (0+U);rw[LB];exact⟨c2,hP.calm.wf.cT _,hP.calm.free⟩,hP.lo,hP.hi,by show (s.d.create n).1.bf<=_;rw[c4];exact hP.bf,by show 0+U<=Q;have:=hP.le;omega,λ_=>by show ([]:List UInt8).length<=504;decide,hP.most⟩
 refine Ev (W:=W) (m:=m) (x0:=⟨0,λ_=>(0,[])⟩) (jw (R:=U) (Mo:=M) (most:=most) hn hQ) hW (hP.gl hg) hP.al hm (λ_=>I0) (λu=>absurd c1 u) (λ_ _ F' B s' k p1 S1 t1 k1 hk1 I1=>?_) (λ_ u=>absurd (show (0+1:Nat)<Q - U by omega) u) (λ_ _ _ _ _ _ hC=>hC.elim)
 have hp1:=hP.goes I1 p1 S1 hP.old (λb hb=>hb)
 have e2:(St.made ⟨0,λ_=>(0,[])⟩ W).N+U=U+2:=by show 2+U=U+2;omega
 rw[e2] at hp1
 exact hK F' s' _ k B hp1 ⟨_,1,1,[1],t1,bd _ _ _,vl hW⟩ S1 k1 hk1 (aG t1)
end
section
variable {P:Program}{t kt et:TypeId}{d:TypeDesc}{H:aa}{r:Nat}{es:Array MapEntry}{clk:Nat}{k:Value}
end
structure gh (X:Nat->Prop)(H:aa)(s:Sl)(ls:List (List Int)):Prop where
 len:s.n=ls.length
 off:∀ad,s.a=some ad->ad.block<H.size/\¬X ad.block
 at':∀i (h:i<ls.length),∃ad r,s.a=some ad/\bI H (ad.add i)=some (Sl.v r)/\(∀a,r.a=some a->a.block<H.size/\¬X a.block)/\Ints .u64 H r ls[i]
theorem gh.mod {X:Nat->Prop}{H B:aa}{s:Sl}{ls:List (List Int)}(h:gh X H s ls)(m:Mod X H B):gh X B s ls:=
 ⟨h.len,λad ha=>⟨by have:=(h.off ad ha).1;have:=m.size;omega,(h.off ad ha).2⟩,λi hi=>by
  obtain⟨ad,r,q1,q2,q3,q4⟩:=h.at' i hi
  exact⟨ad,r,q1,m.cell q2 (by rw[bO];exact(h.off ad q1).2),λa ha=>⟨by have:=(q3 a ha).1;have:=m.size;omega,(q3 a ha).2⟩,q4.mod m λa ha=>(q3 a ha).2⟩⟩
theorem gh.less {X Y:Nat->Prop}{H:aa}{s:Sl}{ls:List (List Int)}(h:gh X H s ls)(hs:∀b,b<H.size->Y b->X b):gh Y H s ls:=
 ⟨h.len,λad ha=>⟨(h.off ad ha).1,λu=>(h.off ad ha).2 (hs _ (h.off ad ha).1 u)⟩,λi hi=>by
  obtain⟨ad,r,q1,q2,q3,q4⟩:=h.at' i hi
  exact⟨ad,r,q1,q2,λa ha=>⟨(q3 a ha).1,λu=>(q3 a ha).2 (hs _ (q3 a ha).1 u)⟩,q4⟩⟩
theorem gh.rows {X:Nat->Prop}{H:aa}{s:Sl}{ls:List (List Int)}(h:gh X H s ls):Rows H s ls:=⟨h.len,λi hi=>by
 obtain⟨ad,r,q1,q2,_,q4⟩:=h.at' i hi
 exact⟨ad,r,q1,q2,q4⟩⟩
theorem yL {H:aa}{t:TypeId}{K:Addr->aa->Prop}(hK:∀H',az H' 0 t 1 ⟨some ⟨H.size,0,none⟩,0,0⟩ []->Ext H H'->K ⟨H.size,0,none⟩ H'):aM H #[] t K:=
 hK _ ⟨rfl,.inr ⟨H.size,0,#[],rfl,KU _,by simp,by simp,KU _,by simp,by simp⟩⟩ (Mod.push _ _ _)
theorem HH:El Kf gy dA 8 (.int .i64 0):=nL (zb:=mX .i64) kK rfl (by kernel_rfl)
theorem Hw {H:aa}{s:Sl}{l:List Int}{K:Sl->aa->Prop}(h:Ints .u64 H s l)(hl:l.length<=1000000)
  (hK:∀s' H',az H' 0 iB 1 s' (l.map (Km .u64))->Ext H H'->(∀b,ai s' b->H.size<=b)->K s' H'):yk.sp s H K:=by
 refine yk.of ?_
 unfold yk.vc
 have hn:=h.len
 refine ak (λhc=>?_) (λhc=>?_)
 ·have hl0:l=[]:=by
   cases l with
   |nil=>rfl
   |cons x r=>
     obtain⟨ad,e,_⟩:=h.at (i:=0) (by simp)
     rw[e] at hc;simp at hc
  subst hl0
  exact hK _ H (az.nil _ _ _ _) (.refl _ _) λb u=>by obtain⟨ad,ha,_⟩:=u;cases ha
 ·refine yL λH1 o1 e1=>?_
  refine iY.append (base:=0) (s:=⟨some ⟨H.size,0,none⟩,0,0⟩) (x:=s) (xs:=[]) (ws:=l.map (Km .u64)) o1 (by simp;omega) (h.ext e1).reads (ic _ _) (by simp only;omega) (by simp only;omega) (KU _) ?_
  intro s' H2 n2 o2 m2 b2 _
  have f1:∀b,ai (Sl.mk (some ⟨H.size,0,none⟩) 0 0) b->H.size<=b:=by
   rintro b ⟨ad,ha,rfl⟩
   cases ha;exact Kl _
  refine hK s' H2 (by simpa using o2) (((Ext.mod e1).trans m2).ext f1) λb u=>?_
  rcases b2 b u with v|v
  ·exact f1 b v
  ·have:=e1.size;omega
theorem p9 {H:aa}{s:Sl}{l:List Int}{K:Sl->aa->Prop}(h:Ints .i64 H s l)(hl:l.length<=1000000)
  (hK:∀s' H',az H' 0 dA 1 s' (l.map (Km .i64))->Ext H H'->(∀b,ai s' b->H.size<=b)->K s' H'):D5.sp s H K:=by
 refine D5.of ?_
 unfold D5.vc
 have hn:=h.len
 refine ak (λhc=>?_) (λhc=>?_)
 ·have hl0:l=[]:=by
   cases l with
   |nil=>rfl
   |cons x r=>
     obtain⟨ad,e,_⟩:=h.at (i:=0) (by simp)
     rw[e] at hc;simp at hc
  subst hl0
  exact hK _ H (az.nil _ _ _ _) (.refl _ _) λb u=>by obtain⟨ad,ha,_⟩:=u;cases ha
 ·refine yL λH1 o1 e1=>?_
  refine HH.append (base:=0) (s:=⟨some ⟨H.size,0,none⟩,0,0⟩) (x:=s) (xs:=[]) (ws:=l.map (Km .i64)) o1 (by simp;omega) (h.ext e1).reads (ic _ _) (by simp only;omega) (by simp only;omega) (KU _) ?_
  intro s' H2 n2 o2 m2 b2 _
  have f1:∀b,ai (Sl.mk (some ⟨H.size,0,none⟩) 0 0) b->H.size<=b:=by
   rintro b ⟨ad,ha,rfl⟩
   cases ha;exact Kl _
  refine hK s' H2 (by simpa using o2) (((Ext.mod e1).trans m2).ext f1) λb u=>?_
  rcases b2 b u with v|v
  ·exact f1 b v
  ·have:=e1.size;omega
def cS (name:ByteArray)(j:Nat):ByteArray:=(name++LA #[46])++gW j
theorem Ea {name:ByteArray}{i j:Nat}(hi:i<1000)(hj:j<1000)(h:cS name i=cS name j):i=j:=by
 have e:gW i=gW j:=by
  have h1:=congrArg (λb=>b.toList) h
  unfold cS at h1
  simp only[Nr,Pj,No] at h1
  have h2:=QQ h1
  exact O5 (O8.1 h2)
 rw[<-(kx i hi).1,<-(kx j hj).1,e]
theorem DP {name:ByteArray}{i j:Nat}(hi:i<1000)(hj:¬j<1000):cS name j≠cS name i:=by
 intro h
 have e:gW j=gW i:=by
  have h1:=congrArg (λb=>b.toList) h
  unfold cS at h1
  simp only[Nr,Pj,No] at h1
  have h2:=QQ h1
  exact O5 (O8.1 h2)
 have e2:gW j=ByteArray.empty:=by
  unfold gW
  rw[if_neg (by omega),if_neg (by omega),if_neg (by omega)]
 have:=(kx i hi).1
 have h0:=zS i hi
 rw[<-e,e2] at h0
 exact h0 rfl
theorem GK {name:ByteArray}{i j:Nat}(hi:i<1000)(h:j≠i):cS name j≠cS name i:=λe=>by
 by_cases q:j<1000
 ·exact h (Ea q hi e)
 ·exact DP hi q e
theorem kr {name:ByteArray}{j:Nat}(hj:j<1000):(cS name j).size<=name.size+4/\name.size+1<=(cS name j).size:=by
 have:=(kx j hj).2
 unfold cS
 rw[Pk,Pk]
 have:(LA #[46]).size=1:=rfl
 omega
theorem zQ {name:ByteArray}{j:Nat}(hj:j<1000)(hn:name.size<=90):named (cS name j)=true:=by
 have:=kr (name:=name) hj
 unfold named
 simp only[KD,decide_eq_true_eq]
 omega
structure jM (X:Nat->Prop)(H:aa)(s:Sl)(ls:List (List Int)):Prop where
 len:s.n=ls.length
 off:fL X H s
 at':∀i (h:i<ls.length),∃ad r,s.a=some ad/\bI H (ad.add i)=some (Sl.v r)/\fL X H r/\Ints .i64 H r ls[i]/\r.n<=r.c
theorem jM.step {X X':Nat->Prop}{A B:aa}{s:Sl}{ls:List (List Int)}(h:jM X A s ls)(S:Step X X' A B):jM X' B s ls:=⟨h.len,h.off.step S,λi hi=>by
 obtain⟨ad,r,q1,q2,q4,q5,q6⟩:=h.at' i hi
 exact⟨ad,r,q1,S.mod.cell q2 (by rw[bO];exact(h.off ad q1).2),q4.step S,q4.ints q5 S,q6⟩⟩
structure ia (X:Nat->Prop)(H:aa)(s:Sl)(vs:List Value):Prop where
 len:s.n=vs.length
 off:fL X H s
 reads:Reads H s.a vs
theorem ia.step {X X':Nat->Prop}{A B:aa}{s:Sl}{vs:List Value}(h:ia X A s vs)(S:Step X X' A B):ia X' B s vs:=⟨h.len,h.off.step S,h.reads.mod S.mod λad ha=>(h.off ad ha).2⟩
theorem ia.nil (X:Nat->Prop)(H:aa):ia X H (Sl.mk none 0 0) []:=⟨rfl,λ_ h=>(by cases h),Reads.nil _ _⟩
theorem Step.fg {X X' Y Y':Nat->Prop}{A B:aa}(S:Step Y Y' A B)(h1:∀b,Y b->X b)(h2:∀b,X' b->X b\/Y' b):Step X X' A B:=
 ⟨S.mod.mono λb _ u=>h1 b u,λb hb=>(h2 b hb).elim .inl λu=>(S.own b u).imp (h1 b) id⟩
structure Tx where
 k:Nat
 n:ByteArray
 L:List (List Int)
structure aE where
 pb:Nat
 s:Sl
 ts:List Tx
structure ah where
 rb:Nat
 name:ByteArray
 W:Nat
 os:Sl
 ords:List (List Int)
 f:aE
 d:aE
 e:aE
 ex:List Tx
 next:Nat
 nb:Nat
 turns:Nat
def ah.parts (R:ah):List aE:=[R.f,R.d,R.e]
def ah.all (R:ah):List Tx:=R.f.ts++(R.d.ts++(R.e.ts++R.ex))
def ah.O (R:ah)(b:Nat):Prop:=b=R.rb\/(∃q∈R.parts,b=q.pb)\/∃t∈R.all,b=t.k
def ah.X (R:ah)(F:Nat->Prop)(b:Nat):Prop:=F b\/R.O b
def ju (p:Nat)(R:ah):Array Value:=#[.pointer (aD p),.string R.name,.int .i64 R.W,R.os.v,.int .i64 0,.bool false,.pointer (aD R.f.pb),.pointer (aD R.d.pb),.pointer (aD R.e.pb),.int .i64 R.next,.int .i64 R.turns]
def gk (rb:Nat)(s:Sl):Array Value:=#[.pointer (some ⟨rb,0,none⟩),s.v]
def l6 (ts:List Tx):List Value:=ts.map λt=>bX t.k
structure aO (H0 A:aa)(F:Nat->Prop)(p:Nat)(M:aU)(R:ah):Prop where
 row:ag A R.rb EJ (ju p R)
 pt:∀q∈R.parts,ag A q.pb AI (gk R.rb q.s)/\ia (R.X F) A q.s (l6 q.ts)
 ords:jM (R.X F) A R.os R.ords
 tr:∀t∈R.all,cr A p M t.k t.n R.W t.L
 off:∀b,R.O b->¬F b/\H0.size<=b
 pbs:(R.parts.map (·.pb)).Nodup
 ks:(R.all.map (·.k)).Nodup
 ns:(R.all.map (·.n)).Nodup
 nms:∀t∈R.all,∃j,j<R.nb/\t.n=cS R.name j
 free:∀j,(∀t∈R.all,t.n≠cS R.name j)->M (cS R.name j)=none
section
variable {H0 A B:aa}{F F':Nat->Prop}{p dp:Nat}{M M':aU}{R:ah}
theorem aO.lt (h:aO H0 A F p M R):∀b,R.O b->b<A.size:=by
 rintro b (rfl|⟨q,hq,rfl⟩|⟨t,ht,rfl⟩)
 ·exact aG h.row
 ·exact aG (h.pt q hq).1
 ·exact(h.tr t ht).lt
theorem aO.aside (h:aO H0 A F p M R)(S:Step (R.X F) (R.X F') A B)(hs:∀b,R.O b->B[b]?=A[b]?/\¬F' b)(hM:∀t∈R.all,M' t.n=M t.n)(hf:∀j,(∀t∈R.all,t.n≠cS R.name j)->M' (cS R.name j)=none):aO H0 B F' p M' R:=
 ⟨(hs _ (.inl rfl)).1.trans h.row,λq hq=>⟨(hs _ (.inr (.inl ⟨q,hq,rfl⟩))).1.trans (h.pt q hq).1,(h.pt q hq).2.step S⟩,h.ords.step S,λt ht=>(h.tr t ht).aA (hs _ (.inr (.inr ⟨t,ht,rfl⟩))).1 (hM t ht),λb hb=>⟨(hs b hb).2,(h.off b hb).2⟩,h.pbs,h.ks,h.ns,h.nms,hf⟩
theorem aO.Gw (h:aO H0 A F p M R)(hsl:∀q∈R.parts,ia (R.X F') B q.s (l6 q.ts))(hos:jM (R.X F') B R.os R.ords)(hs:∀b,R.O b->B[b]?=A[b]?/\¬F' b)(hM:∀t∈R.all,M' t.n=M t.n)(hf:∀j,(∀t∈R.all,t.n≠cS R.name j)->M' (cS R.name j)=none):aO H0 B F' p M' R:=
 ⟨(hs _ (.inl rfl)).1.trans h.row,λq hq=>⟨(hs _ (.inr (.inl ⟨q,hq,rfl⟩))).1.trans (h.pt q hq).1,hsl q hq⟩,hos,λt ht=>(h.tr t ht).aA (hs _ (.inr (.inr ⟨t,ht,rfl⟩))).1 (hM t ht),λb hb=>⟨(hs b hb).2,(h.off b hb).2⟩,h.pbs,h.ks,h.ns,h.nms,hf⟩
theorem aO.grow (h:aO H0 A F p M R)(e:Ext A B):aO H0 B F p M R:=
 h.aside ⟨e.mod,λ_ u=>.inl u⟩ (λb hb=>⟨e.same b (h.lt b hb) id,(h.off b hb).1⟩) (λ_ _=>rfl) h.free
theorem aO.Dn {b:Nat}{c:Array Value}{t:TypeId}{t1:Tx}(h:aO H0 A F p M R)(ht:t1∈R.all)(hb:ag A b t c)(hne:t≠IW):t1.k≠b:=by
 rintro rfl
 obtain⟨x,root,depth,P,a,_⟩:=(h.tr t1 ht).at_
 exact hne (aW hb a)
theorem aO.HE {q:aE}(h:aO H0 A F p M R)(hq:q∈R.parts):q.pb≠R.rb:=by
 intro e
 have:=(h.pt q hq).1
 rw[e] at this
 exact absurd (aW this h.row) (by decide)
theorem aO.al (h:aO H0 A F p M R)(S:Step F F' A B):aO H0 B F' p M R:=
 h.aside (S.fg (λb u=>.inl u) λb u=>u.elim .inr λv=>.inl (.inr v)) (λb hb=>⟨S.mod.same b (h.lt b hb) (h.off b hb).1,λu=>(S.own b u).elim (h.off b hb).1 λv=>by have:=h.lt b hb;omega⟩) (λ_ _=>rfl) h.free
theorem aO.congr (h:aO H0 A F p M R)(e:∀b,F b↔F' b):aO H0 A F' p M R:=(funext λb=>propext (e b):F=F')▸h
theorem aO.less (h:aO H0 A F p M R)(e:∀b,F' b->F b):aO H0 A F' p M R:=by
 have hx:∀b,b<A.size->R.X F' b->R.X F b:=λb _ u=>u.elim (λv=>.inl (e b v)) .inr
 refine⟨h.row,λq hq=>⟨(h.pt q hq).1,(h.pt q hq).2.len,(h.pt q hq).2.off.mono hx,(h.pt q hq).2.reads⟩,⟨h.ords.len,h.ords.off.mono hx,λi hi=>?_⟩,h.tr,λb hb=>⟨λu=>(h.off b hb).1 (e b u),(h.off b hb).2⟩,h.pbs,h.ks,h.ns,h.nms,h.free⟩
 obtain⟨ad,r,q1,q2,q3,q4,q5⟩:=h.ords.at' i hi
 exact⟨ad,r,q1,q2,q3.mono hx,q4,q5⟩
def Tx.up (k:Nat)(L:List (List Int))(t:Tx):Tx:=if t.k=k then {t with L:=L} else t
theorem Tx.AT (k:Nat)(L:List (List Int))(t:Tx):(t.up k L).k=t.k:=by unfold Tx.up;split<;>rfl
theorem Tx.D9 (k:Nat)(L:List (List Int))(t:Tx):(t.up k L).n=t.n:=by unfold Tx.up;split<;>rfl
def aE.up (k:Nat)(L:List (List Int))(q:aE):aE:={q with ts:=q.ts.map (Tx.up k L)}
def ah.up (k:Nat)(L:List (List Int))(R:ah):ah:={R with f:=R.f.up k L,d:=R.d.up k L,e:=R.e.up k L,ex:=R.ex.map (Tx.up k L)}
theorem ah.nw (k:Nat)(L:List (List Int))(R:ah):(R.up k L).all=R.all.map (Tx.up k L):=by
 unfold ah.all ah.up aE.up
 simp only[KX]
theorem ah.vd (k:Nat)(L:List (List Int))(R:ah):(R.up k L).parts=R.parts.map (aE.up k L):=rfl
theorem ah.Hs (k:Nat)(L:List (List Int))(R:ah)(b:Nat):(R.up k L).O b↔R.O b:=by
 unfold ah.O
 rw[ah.nw,ah.vd]
 have h1:(∃q∈R.parts.map (aE.up k L),b=q.pb)↔∃q∈R.parts,b=q.pb:=by
  constructor
  ·rintro⟨_,hq,rfl⟩;obtain⟨q,hq',rfl⟩:=Kz.1 hq;exact⟨q,hq',rfl⟩
  ·rintro⟨q,hq,rfl⟩;exact⟨_,Lp hq,rfl⟩
 have h2:(∃t∈R.all.map (Tx.up k L),b=t.k)↔∃t∈R.all,b=t.k:=by
  constructor
  ·rintro⟨_,ht,rfl⟩;obtain⟨t,ht',rfl⟩:=Kz.1 ht;exact⟨t,ht',t.AT k L⟩
  ·rintro⟨t,ht,rfl⟩;exact⟨_,Lp ht,(t.AT k L).symm⟩
 rw[h1,h2]
 exact Pe
theorem GM (k:Nat)(L:List (List Int))(ts:List Tx):l6 (ts.map (Tx.up k L))=l6 ts:=by
 unfold l6
 rw[Ly]
 exact Lx λt _=>by show bX (t.up k L).k=_;rw[Tx.AT]
theorem aO.xq {t:Tx}{L:List (List Int)}(h:aO H0 A F p M R)(ht:t∈R.all)(S:Step (λb=>F b\/b=t.k) (λb=>F' b\/b=t.k) A B)(hk:¬F' t.k)(hT:cr B p M' t.k t.n R.W L)(hM:∀a,a≠t.n->M' a=M a):aO H0 B F' p M' (R.up t.k L):=by
 have hOk:R.O t.k:=.inr (.inr ⟨t,ht,rfl⟩)
 have S':Step (R.X F) ((R.up t.k L).X F') A B:=S.fg (λb u=>u.elim .inl λv=>.inr (v▸hOk)) λb u=>u.elim (λv=>.inr (.inl v)) λv=>.inl (.inr ((ah.Hs _ _ _ _).1 v))
 have hoff:∀b,R.O b->¬F' b/\H0.size<=b:=λb hb=>by
  refine⟨λu=>?_,(h.off b hb).2⟩
  by_cases e:b=t.k
  ·subst e;exact hk u
  ·rcases S.own b (.inl u) with (v|v)|v
   ·exact(h.off b hb).1 v
   ·exact e v
   ·have:=h.lt b hb;omega
 have same:∀b,R.O b->b≠t.k->B[b]?=A[b]?:=λb hb e=>S.mod.same b (h.lt b hb) λu=>u.elim (h.off b hb).1 e
 have hks:((R.up t.k L).all.map (·.k))=R.all.map (·.k):=by rw[ah.nw,Ly];exact Lx λx _=>x.AT _ _
 have hns:((R.up t.k L).all.map (·.n))=R.all.map (·.n):=by rw[ah.nw,Ly];exact Lx λx _=>x.D9 _ _
 have inj:∀x∈R.all,x≠t->x.k≠t.k/\x.n≠t.n:=by
  intro x hx hne
  obtain⟨i,hi⟩:=Ko.1 hx
  obtain⟨j,hj⟩:=Ko.1 ht
  have hlt:=(Kj.1 hi).1
  refine⟨λe=>hne ?_,λe=>hne ?_⟩
  ·have:=(LH (l:=R.all.map (·.k)) (i:=i) (j:=j) (by simpa using hlt) h.ks).1 (by rw[KC,KC,hi,hj];simp[e])
   subst this
   rw[hi] at hj;exact Kq hj
  ·have:=(LH (l:=R.all.map (·.n)) (i:=i) (j:=j) (by simpa using hlt) h.ns).1 (by rw[KC,KC,hi,hj];simp[e])
   subst this
   rw[hi] at hj;exact Kq hj
 refine⟨(same _ (.inl rfl) λe=>?_).trans h.row,λq hq=>?_,h.ords.step S',λx hx=>?_,λb hb=>hoff b ((ah.Hs _ _ _ _).1 hb),h.pbs,by rw[hks];exact h.ks,by rw[hns];exact h.ns,λx hx=>?_,λj hj=>?_⟩
 ·exact(h.Dn ht h.row (by decide)) e.symm
 ·rw[ah.vd] at hq
  obtain⟨q,hq',rfl⟩:=Kz.1 hq
  obtain⟨a,b⟩:=h.pt q hq'
  refine⟨(same _ (.inr (.inl ⟨q,hq',rfl⟩)) λe=>(h.Dn ht a (by decide)) e.symm).trans a,?_⟩
  show ia _ _ q.s (l6 (q.ts.map (Tx.up t.k L)))
  rw[GM]
  exact b.step S'
 ·rw[ah.nw] at hx
  obtain⟨x,hx',rfl⟩:=Kz.1 hx
  by_cases e:x=t
  ·subst e
   unfold Tx.up
   rw[if_pos rfl]
   exact hT
  ·obtain⟨i1,i2⟩:=inj x hx' e
   unfold Tx.up
   rw[if_neg i1]
   exact(h.tr x hx').aA (same _ (.inr (.inr ⟨x,hx',rfl⟩)) i1) (hM _ i2)
 ·rw[ah.nw] at hx
  obtain⟨x,hx',rfl⟩:=Kz.1 hx
  rw[Tx.D9]
  exact h.nms x hx'
 ·have hj':∀x∈R.all,x.n≠cS R.name j:=λx hx e=>hj (x.up t.k L) (by rw[ah.nw];exact Lp hx) (by rw[Tx.D9];exact e)
  show M' (cS R.name j)=none
  rw[hM _ λe=>hj' t ht e.symm]
  exact h.free j hj'
theorem aO.FY (h:aO H0 A F p M R)(hb:R.nb<=1000){j:Nat}(hj:R.nb<=j):M (cS R.name j)=none:=h.free j λt ht e=>by
 obtain⟨i,hi,e2⟩:=h.nms t ht
 exact GK (name:=R.name) (i:=i) (j:=j) (by omega) (by omega) (e.symm.trans e2)
end
structure ah.Fit (R:ah):Prop where
 W:R.W<=16
 name:R.name.size<=90
 nb:R.nb<=1000
 rows:∀t∈R.all,t.L.length<=400
def aE.rows (q:aE):List (List Int):=match q.ts with|[]=>[]|t::_=>t.L
theorem ah.cI {R:ah}{q:aE}(hq:q∈R.parts):∀t∈q.ts,t∈R.all:=by
 intro t ht
 unfold ah.parts at hq
 unfold ah.all
 simp only[Ku,List.not_mem_nil,or_false] at hq
 simp only[Kk]
 rcases hq with rfl|rfl|rfl
 ·exact .inl ht
 ·exact .inr (.inl ht)
 ·exact .inr (.inr (.inl ht))
theorem ah.CK {R:ah}{q:aE}{F:Nat->Prop}(hq:q∈R.parts):R.X F q.pb:=.inr (.inr (.inl ⟨q,hq,rfl⟩))
section
variable {X:Nat->Prop}{H:aa}{s:Sl}{ls:List (List Int)}
theorem jM.ld (h:jM X H s ls){i:Nat}(hi:i<ls.length){z:Int}(hz:z=(i:Int)){K:Addr->Sl->Prop}(hK:∀ad r,s.a=some ad->fL X H r->Ints .i64 H r ls[i]->r.n<=r.c->K ad r):
  ae s.a λa=>(0<=z/\z<(s.n:Int))/\Go.Proofs.YtkehfflpbpdokaaGreatDoor.ld ao H (a.add (z.toNat*1)) λx=>K a x:=by
 obtain⟨ad,r,q1,q2,q3,q4,q5⟩:=h.at' i hi
 have:=h.len
 subst hz
 refine cg ad q1 ⟨⟨by omega,by omega⟩,r,?_,hK ad r q1 q3 q4 q5⟩
 rw[KI,Ld];exact q2
theorem ia.ld {vs:List Value}{c:eJ}(h:ia X H s vs){i:Nat}{x:c.α}(hi:vs[i]?=some (c.enc x)){z:Int}(hz:z=(i:Int)){K:Addr->c.α->Prop}(hK:∀ad,s.a=some ad->K ad x):
  ae s.a λa=>(0<=z/\z<(s.n:Int))/\Go.Proofs.YtkehfflpbpdokaaGreatDoor.ld c H (a.add (z.toNat*1)) λv=>K a v:=by
 obtain⟨ad,ha,hc⟩:=h.reads i _ hi
 have:=(Kj.1 hi).1
 have:=h.len
 subst hz
 refine cg ad ha ⟨⟨by omega,by omega⟩,x,?_,hK ad ha⟩
 rw[KI,Ld];exact hc
theorem tZ {ts:List Tx}{i:Nat}{t:Tx}(h:ts[i]?=some t):(l6 ts)[i]?=some (au.enc (aD t.k)):=by
 unfold l6
 rw[KC,h];rfl
end
section
variable {H0 A B:aa}{F F':Nat->Prop}{p dp Q U most m:Nat}{s s':Pl}{M M':aU}{R:ah}{q:aE}{l:Sl}{ll:List Int}
theorem iE {K:Int->aa->Prop}(r:ag A R.rb EJ (ju p R))(hK:K 0 A):C6.sp (aD R.rb) A K:=by
 refine C6.of ?_
 unfold C6.vc
 refine ax rfl ?_
 simp only[aq,add_add,MD]
 refine ag.ld (c:=af .i64) (i:=4) (x:=0) r rfl ?_
 refine ax rfl ?_
 refine ag.ld (c:=aw) (i:=5) (x:=false) r rfl ?_
 exact ax rfl hK
theorem l9 {b:Option Addr}{K:Int->aa->Prop}(hK:K 0 A):yY.sp b 0 A K:=by
 refine yY.of ?_
 unfold yY.vc
 exact ax rfl hK
theorem mw {b:Nat}{K:Option Addr->aa->Prop}(hK:∀B,B.size=A.size+1->ag B A.size AI (gk b (Sl.mk none 0 0))->Ext A B->K (aD A.size) B):AE.sp (some ⟨b,0,none⟩) A K:=by
 refine AE.of ?_
 unfold AE.vc
 exact ar λB z r e=>hK B z r e
theorem yO {i:Nat}{K:Sl->aa->Prop}(h:aO H0 A F p M R)(hl:Ints .u64 A l ll)(hi:i<R.ords.length)(hlen:R.ords[i].length<=1000)
  (hK:∀s B,az B A.size iB 1 s ((aL ll R.ords[i]).map (Km .u64))->Ext A B->K s B):EU.sp (some ⟨R.rb,0,none⟩) l (i:Int) A K:=by
 refine EU.of ?_
 unfold EU.vc
 simp only[aq]
 refine ag.ld (c:=ao) (i:=3) (x:=R.os) h.row rfl ?_
 refine h.ords.ld hi rfl λad r _ _ hr _=>?_
 exact kV hl hr (by omega) λs B o e=>hK s B o e
theorem ng {K:Int->aa->Prop}(h:aO H0 A F p M R)(hq:q∈R.parts)(hK:K (q.rows.length:Int) A):Dc.sp (aD q.pb) A K:=by
 refine Dc.of ?_
 unfold Dc.vc
 obtain⟨r,hs⟩:=h.pt q hq
 simp only[aq]
 refine ag.ld (c:=ao) (i:=1) (x:=q.s) r rfl ?_
 have hl:=hs.len
 unfold aE.rows at hK
 unfold l6 at hl
 cases hts:q.ts with
 |nil=>
   rw[hts] at hl hK
   refine aT (by rw[hl];rfl) hK
 |cons t ts=>
   rw[hts] at hl hK hs
   refine ax (by rw[hl];simp;omega) ?_
   refine ag.ld (c:=ao) (i:=1) (x:=q.s) r rfl ?_
   refine ia.ld (c:=au) (x:=aD t.k) (i:=0) hs rfl rfl λad _=>?_
   exact(h.tr t (ah.cI hq t (by rw[hts];exact Kw))).count hK
theorem ah.Fit.nm (hF:R.Fit)(h:aO H0 A F p M R){t:Tx}(ht:t∈R.all):t.n.size<=9223372036854775807:=by
 obtain⟨j,hj,e⟩:=h.nms t ht
 have h1:=hF.nb
 have h2:=hF.name
 have:=(kr (name:=R.name) (j:=j) (by omega)).1
 rw[e];omega
theorem DS {K:(Bool×Int)->aa->Prop}(h:aO H0 A F p M R)(hP:aJ H0 A F p dp s M Q U most m)(hg:Gl H0)(hF:R.Fit)(hQ:Q<=1048576)(hm:m+1000000<=30000000000)(hq:q∈R.parts)(hl:Ints .u64 A l ll)(hlo:qz F A l ll)(hll:ll.length=R.W)
  (hK:∀F' s' B,aJ H0 B F' p dp s' M Q U most (m+1000000)->aO H0 B F' p M R->Step F F' A B->K (decide (ll∈q.rows),0) B):FT.sp (aD q.pb) l A K:=by
 refine FT.of ?_
 unfold FT.vc
 obtain⟨r,hs⟩:=h.pt q hq
 simp only[aq]
 refine ag.ld (c:=ao) (i:=1) (x:=q.s) r rfl ?_
 have hsl:=hs.len
 unfold aE.rows at hK
 unfold l6 at hsl
 cases hts:q.ts with
 |nil=>
   rw[hts] at hsl hK
   exact aT (by rw[hsl];rfl) (hK F s A (hP.later (by omega)) h (Step.refl _ _))
 |cons t ts=>
   rw[hts] at hsl hK hs
   refine ax (by rw[hsl];simp;omega) ?_
   refine ag.ld (c:=ao) (i:=1) (x:=q.s) r rfl ?_
   refine ia.ld (c:=au) (x:=aD t.k) (i:=0) hs rfl rfl λad _=>?_
   have hta:t∈R.all:=ah.cI hq t (by rw[hts];exact Kw)
   refine(h.tr t hta).has hP hg (h.off _ (.inr (.inr ⟨t,hta,rfl⟩))) (hF.nm h hta) hF.W (hF.rows t hta) hQ hm hl hlo hll λF' s' B p1 t1 S1 S2 k1=>?_
   exact hK F' s' B p1 (h.al S2) S2
theorem Cq {qs:List aE}{ps:Sl}{K:(Bool×Int)->aa->Prop}(h:aO H0 A F p M R)(hP:aJ H0 A F p dp s M Q U most m)(hg:Gl H0)(hF:R.Fit)(hQ:Q<=1048576)(hm:m+1000000*qs.length<=30000000000)(hq:∀q∈qs,q∈R.parts)(hps:ia F A ps (qs.map λq=>bX q.pb))(hl:Ints .u64 A l ll)(hlo:fL F A l)(hll:ll.length=R.W)
  (hK:∀b F' s' B,(b=true↔∃q∈qs,ll∈q.rows)->aJ H0 B F' p dp s' M Q U most (m+1000000*qs.length)->aO H0 B F' p M R->Step F F' A B->K (b,0) B):Fx.sp (aD R.rb) l ps A K:=by
 refine Fx.of ?_
 unfold Fx.vc
 have hpn:ps.n=qs.length:=by have:=hps.len;simpa using this
 refine av qs.length (λi z B=>z=(i:Int)/\(∀q∈qs.take i,ll∉q.rows)/\∃F' s',aJ H0 B F' p dp s' M Q U most (m+1000000*i)/\aO H0 B F' p M R/\Step F F' A B) ⟨rfl,by simp,F,s,by simpa using hP,h,Step.refl _ _⟩ ?_
 rintro i _ B next hi ⟨rfl,hno,F1,s1,p1,r1,S1⟩ hnext
 refine ak (λhc=>?_) (λhc=>?_)
 ·have hlt:i<qs.length:=by
   have:(i:Int)<(ps.n:Int):=by simpa using hc
   omega
  refine ia.ld (c:=au) (x:=aD qs[i].pb) (i:=i) (hps.step S1) (by rw[KC,Kg hlt];rfl) rfl λad _=>?_
  refine DS r1 p1 hg hF hQ (by omega) (hq _ (Kt hlt)) (hlo.ints hl S1) ((hlo.step S1).Jv _) hll λF2 s2 C p2 r2 S2=>?_
  have e:m+1000000*i+1000000=m+1000000*(i+1):=by omega
  rw[e] at p2
  refine ak (λhb=>?_) (λhb=>?_)
  ·have hb:ll∈qs[i].rows:=by simpa using hb
   show K (decide (ll∈qs[i].rows),0) C
   rw[decide_eq_true hb]
   exact hK true F2 s2 C ⟨λ_=>⟨_,Kt hlt,hb⟩,λ_=>rfl⟩ (p2.later (by omega)) r2 (S1.trans S2)
  ·have hb:ll∉qs[i].rows:=by simpa using hb
   refine hnext hlt _ _ ⟨aK i (by omega),λq hq'=>?_,F2,s2,p2,r2,S1.trans S2⟩
   rw[Mv,Kg hlt] at hq'
   rcases Kk.1 hq' with u|u
   ·exact hno q u
   ·obtain rfl:q=qs[i]:=by simpa using u
    exact hb
 ·have hge:i=qs.length:=by
   have:¬(i:Int)<(ps.n:Int):=by simpa using hc
   omega
  subst hge
  rw[MP] at hno
  exact hK false F1 s1 B ⟨λu=>(by cases u),λ⟨q,a,b⟩=>absurd b (hno q a)⟩ p1 r1 S1
def ah.asked (R:ah)(n:Int):List aE:=if n=1 then [R.f,R.d] else if n=2 then [R.d] else if n=3 then [R.f] else []
theorem ah.ke (R:ah)(n:Int):∀q∈R.asked n,q∈R.parts:=by
 unfold ah.asked ah.parts
 intro q hq
 split at hq
 ·simp at hq ⊢;rcases hq with rfl|rfl<;>simp
 ·split at hq
  ·simp at hq ⊢;simp[hq]
  ·split at hq
   ·simp at hq ⊢;simp[hq]
   ·cases hq
theorem yp {X:Nat->Prop}{qs:List aE}{t:TypeId}{K:Addr->aa->Prop}(hX:∀b,X b->b<A.size)
  (hK:∀B,ia X B ⟨some ⟨A.size,0,none⟩,qs.length,qs.length⟩ (qs.map λq=>bX q.pb)->Ext A B->K ⟨A.size,0,none⟩ B):aM A (qs.map λq=>bX q.pb).toArray t K:=by
 refine ar λB z r e=>hK B ⟨by simp,λad ha=>?_,λi v hv=>⟨_,rfl,?_⟩⟩ e
 ·have:ad=⟨A.size,0,none⟩:=(Kq ha).symm
  subst this
  exact⟨by show A.size<B.size;omega,λu=>by have:=hX _ u;simp at this⟩
 ·rw[bq]
  exact r.cell (by simpa using hv)
theorem vt {X:Nat->Prop}{n:Int}{K:Sl->aa->Prop}(h:aO H0 A F p M R)(hX:∀b,X b->b<A.size)
  (hK:∀ps B,ia X B ps ((R.asked n).map λq=>bX q.pb)->(ps.a.isNone=true↔R.asked n=[])->Ext A B->K ps B):DH.sp (aD R.rb) n A K:=by
 refine DH.of ?_
 unfold DH.vc
 unfold ah.asked at hK
 simp only[aq]
 refine ak (λh1=>?_) (λh1=>?_)
 ·have h1:n=1:=by simpa using h1
  rw[if_pos h1] at hK
  refine ag.ld (c:=au) (i:=6) (x:=aD R.f.pb) h.row rfl ?_
  refine ag.ld (c:=au) (i:=7) (x:=aD R.d.pb) h.row rfl ?_
  exact yp (qs:=[R.f,R.d]) hX λB sB eB=>hK _ B sB ⟨λu=>(by cases u),λu=>(by cases u)⟩ eB
 ·have h1:n≠1:=by simpa using h1
  rw[if_neg h1] at hK
  refine ak (λh2=>?_) (λh2=>?_)
  ·have h2:n=2:=by simpa using h2
   rw[if_pos h2] at hK
   refine ag.ld (c:=au) (i:=7) (x:=aD R.d.pb) h.row rfl ?_
   exact yp (qs:=[R.d]) hX λB sB eB=>hK _ B sB ⟨λu=>(by cases u),λu=>(by cases u)⟩ eB
  ·have h2:n≠2:=by simpa using h2
   rw[if_neg h2] at hK
   refine ak (λh3=>?_) (λh3=>?_)
   ·have h3:n=3:=by simpa using h3
    rw[if_pos h3] at hK
    refine ag.ld (c:=au) (i:=6) (x:=aD R.f.pb) h.row rfl ?_
    exact yp (qs:=[R.f]) hX λB sB eB=>hK _ B sB ⟨λu=>(by cases u),λu=>(by cases u)⟩ eB
   ·have h3:n≠3:=by simpa using h3
    rw[if_neg h3] at hK
    exact hK _ A (ia.nil _ _) ⟨λ_=>rfl,λ_=>rfl⟩ (.refl _ _)
theorem zV {qs:List aE}:∀i,i<=qs.length->((qs.take i).map λq=>q.rows.length).sum<=(qs.map λq=>q.rows.length).sum:=by
 intro i _
 have:(qs.map λq=>q.rows.length).sum=((qs.take i).map λq=>q.rows.length).sum+((qs.drop i).map λq=>q.rows.length).sum:=by
  rw[<-OI,<-KX,LW]
 omega
theorem vf {n:Int}{K:Int->aa->Prop}(h:aO H0 A F p M R)(hX:∀b,R.X F b->b<A.size)(hc:((R.asked n).map λq=>q.rows.length).sum<=1000000)
  (hK:∀B,Ext A B->K ((((R.asked n).map λq=>q.rows.length).sum:Nat):Int) B):D7.sp (aD R.rb) n A K:=by
 refine D7.of ?_
 unfold D7.vc
 refine aT rfl ?_
 simp only[aq,add_add,MD]
 refine ag.ld (c:=aw) (i:=5) (x:=false) h.row rfl ?_
 refine aT rfl ?_
 refine vt h hX λps B hps _ eB=>?_
 have hpn:ps.n=(R.asked n).length:=by have:=hps.len;simpa using this
 have hap:=R.ke n
 have hql:(R.asked n).length<=2:=by unfold ah.asked;split<;>(try split)<;>(try split)<;>simp
 have hB:=h.grow eB
 generalize R.asked n=qs at*
 refine av qs.length (λi z C=>z.1=((((qs.take i).map λq=>q.rows.length).sum:Nat):Int)/\z.2=(i:Int)/\C=B) ⟨by simp,rfl,rfl⟩ ?_
 rintro i ⟨_,_⟩ _ next hi ⟨rfl,rfl,rfl⟩ hnext
 dsimp only
 refine ak (λhc=>?_) (λhc=>?_)
 ·have hlt:i<qs.length:=by
   have:(i:Int)<(ps.n:Int):=by simpa using hc
   omega
  refine ia.ld (c:=au) (x:=aD qs[i].pb) (i:=i) hps (by rw[KC,Kg hlt];rfl) rfl λad _=>?_
  refine ng hB (hap _ (Kt hlt)) ?_
  have h1:=zV (qs:=qs) (i+1) hlt
  have e:((qs.take (i+1)).map λq=>q.rows.length).sum=((qs.take i).map λq=>q.rows.length).sum+qs[i].rows.length:=by
   rw[Mv,Kg hlt,KX,OI];rfl
  refine hnext hlt _ _ ⟨?_,aK i (by omega),rfl⟩
  show Ke.wrap _=_
  rw[wrap64 (by omega) (by omega),e];omega
 ·have hge:i=qs.length:=by
   have:¬(i:Int)<(ps.n:Int):=by simpa using hc
   omega
  subst hge
  rw[MP]
  exact hK _ eB
end
end Go.Proofs.YtkehfflpbpdokaaGreatDoor
