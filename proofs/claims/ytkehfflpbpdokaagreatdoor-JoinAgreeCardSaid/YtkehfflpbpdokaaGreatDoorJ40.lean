/-
 Relations: is a row of columns an order? a relation is made: the walk.
-/
import Derived.Test.YtkehfflpbpdokaaGreatDoorJ36
import Derived.Test.YtkehfflpbpdokaaGreatDoorJ37
import Derived.Test.YtkehfflpbpdokaaGreatDoorDks
import Derived.Test.YtkehfflpbpdokaaGreatDoorDkr
open Array renaming getElem?_push->Tm
open Bool renaming or_eq_true->Rm
open Classical renaming byContradiction->Tb
open Go.Addr renaming add->QS
open Go.Builtin renaming append_->Qo
open Go.IntKind renaming i64->Qe
open Go.Proofs.Tryz renaming prog->Qf
open Go.Value renaming int->Ql,slice->Yb
open Go.Value.slice renaming injEq->Q3
open Int renaming toNat_natCast->QD
open List renaming getElem?_eq_getElem->Qg,mem_of_getElem?->Qi,mem_append->Qj,getElem?_eq_some_iff->Qk,getElem_mem->Qn,mem_cons_self->Qp,mem_iff_getElem?->Qr,mem_cons->Qs,length_append->Qt,mem_cons_of_mem->Qu,length_take->Qw,mem_map->QB,getElem?_map->QC,replicate->QE,length_map->QI,length_cons->QJ,mem_filter->QL,getD->QM,take_of_length_le->QO,getElem?_append_left->QR,not_mem_nil->QT,mem_singleton->QV,eq_nil_of_length_eq_zero->QW,nodup_append->QY,map_append->Q4,getElem?_take->Rb,getElem?_set->Rc,getElem?_append_right->Re,pairwise_cons->Rf,append_assoc->Rg,all_eq_true->Rk,nodup_cons->Rp,mem_flatMap->Rs,mem_map_of_mem->Ru,map_congr_left->Rx,append_nil->RA,nil_append->RB,take_add_one->RC,map_map->RE,length_singleton->RF,drop_eq_getElem_cons->RG,map_cons->RH,getElem?_inj->RM,filter_eq_self->RQ,filter_append->RU,length_nil->R7,take_length->Sc,takeWhile_cons->Si,mergeSort_perm->Sj,mem_or_eq_of_mem_set->Sz,sublist_append_right->SC,filter_sublist->SD,pairwise_map->SH,ext_getElem?->SU,getElem?_zipWith->Tc,take_take->Tg,nodup_nil->Ti,map_set->Tq,take_append_of_le_length->TG,pairwise_mergeSort->TH,mem_flatten->TM,sum_cons->TX,length->Uc,mem_filterMap->UA,map_replicate->UE,length_set->UI,filter_eq_nil_iff->UL,take_succ_cons->Vd,eq_of_mem_replicate->Vi,drop_eq_nil_of_le->Vx,getElem?_eq_none_iff->WX,length_filterMap_le->Xb,flatten_eq_nil_iff->Xo,sum_append->Xv,map_id->XK,filterMap_append->X9,mem_of_mem_head?->Ya,zipWith->Zo
open List.Pairwise renaming nil->Tj,imp->UO,and->aaG
open List.Perm renaming refl->Vp
open List.Sublist renaming refl->UN,append->Yo
open List.cons renaming injEq->Xq
open Nat renaming le_refl->Qm,zero_le->QN,lt_of_lt_of_le->QP,le_trans->QZ,lt_or_ge->Q6,mul_one->Q9,mul_le_mul_right->Ra,le_succ->Ri,succ_mul->RX,mul_le_mul_left->Sk,reduceAdd->SQ,mul_le_mul->Uj,add_assoc->U9,mul_succ->Vl,mul_add->XM,min_self->Yu
open Ne renaming symm->SI
open Option.some renaming inj->Qq
namespace Go.Proofs.YtkehfflpbpdokaaGreatDoor
open Go.MapKept
theorem Ad {lb cap:Nat}{s:Sl}{xs:List Int}{H:aa}{K:Unit->aa->Prop}(I:Nat->aa->Prop)(d:ab H cap dX #[s.v]) (l:∀i A,I i A->Ints .i64 A s xs) (p:xs.length<=1000000) (n:I 0 H)
  (hs:∀i A,I i A->i<xs.length->cM Qf lb #[.int .i64 (xs.getD i 0)] A λb m=>b=true/\I (i+1) m) (e:∀A,I xs.length A->K () A):Hg.sp lb ⟨cap,0,none⟩ H K:=by
 refine Hg.of ?_;unfold Hg.vc;refine⟨s,d.cell (i:=0) rfl,?_⟩;refine ay xs.length (λi z A=>z=(i:Int)/\I i A) ⟨rfl,n⟩ ?_;rintro i _ A next hi ⟨rfl,f⟩ a
 have q:=(l i A f).len;refine ao (λg=>?_) (λg=>?_)
 ·have c:i<xs.length:=by
   have:(i:Int)<(s.n:Int):=by simpa using g
   omega
  refine bM (l i A f) (i:=(i:Int)) (j:=i) rfl c λad _=>?_;refine(hs i A f c).mono λb m ⟨o,h⟩=>?_;subst o;exact az rfl (a c _ _ ⟨aH i (by omega),h⟩)
 ·have k:i=xs.length:=by
   have:¬(i:Int)<(s.n:Int):=by simpa using g
   omega
  subst k;exact e A f
theorem uZ {cap:Nat}{s:Sl}{xs:List Int}{H:aa}{K:Sl->aa->Prop}(S:Ints .i64 H s xs)(w:ab H cap dX #[s.v]) (T:xs.length<=1000000)
  (U:∀(z:Sl) (H':aa),dm EI bT H' z xs->Ext H H'->(∀b,al z b->H.size<=b)->K z H'):
  LH.sp (Sl.mk none 0 0) (.func (.func Hg.no) #[] #[(.pointer (some ⟨cap,0,none⟩))]) H K:=by
 refine LH.of ?_;unfold LH.vc;refine aj λH1 s1 M m1=>?_;have f:cI Qf Hg.no=true:=by kernel_rfl
 refine⟨_,_,rfl,f,λrec d=>?_⟩;obtain⟨r,hr⟩:∃r,r=H1.size:=⟨_,rfl⟩;obtain⟨l,y⟩:∃l,l=H1.size+1:=⟨_,rfl⟩;obtain⟨p,F⟩:∃p,p=H.size:=⟨_,rfl⟩;rw[<-y] at d ⊢;rw[<-hr];rw[<-F] at M;rw[<-F] at d;rw[<-F];obtain⟨g,j⟩:∃g:aa,g=(H1.push (.deferred (some []))).push (.loop (rec .ready none)):=⟨_,rfl⟩;rw[<-j];have J:Mod (λ_=>False) H1 g:=by rw[j];exact(Mod.push _ _ _).trans (Mod.push _ _ _)
 have sB:g.size=H1.size+2:=by rw[j];simp
 have V:g[l]?=some (.loop (rec .ready none)):=by rw[j,y,Tm,if_pos (by simp)]
 have W:g[r]?=some (.deferred (some [])):=by rw[j,hr];simp[Tm]
 have X:ab g p dX #[(Sl.mk none 0 0).v]:=M.ext J;have Y:ab g cap dX #[s.v]:=(w.ext m1).ext J;have B:Ext H g:=m1.trans J
 let I:Nat->aa->Prop:=λi A=>A[l]?=some (.loop (rec .ready none))/\A[r]?=some (.deferred (some []))/\(∃z,ab A p dX #[z.v]/\dm EI bT A z (xs.take i)/\(∀b,al z b->g.size<=b))/\Mod (λb=>b=p\/b=l) g A
 have Z:∀i A,I i A->Ext H A:=λi A h=>⟨by have:=h.2.2.2.size;omega,λb a _=>by rw[h.2.2.2.same b (by omega) λu=>by omega];exact B.same b a id⟩;refine Spec.mono (R:=λv H'=>∃x:Unit,v=(bf []).enc x/\oz l rec H' _ _ _) (Ad (lb:=l) (cap:=cap) (H:=g) (K:=λ_ H'=>oz l rec H' _ _ _) I Y (λi A h=>S.ext (Z i A h)) T ?_ ?_ ?_) (λv H' ⟨x,_,h⟩=>h)
 ·exact⟨V,W,⟨_,X,dm.nil _ _ _,by rintro b ⟨ad,q,_⟩;cases q⟩,.refl _ _⟩
 ·rintro i A ⟨i1,i2,⟨z,i3,i4,i5⟩,i6⟩ hi;refine d [.int .i64 (xs.getD i 0)] A _ i1 ?_;show jz (some (xs.getD i 0)) _;refine⟨i1,?_⟩;obtain⟨t,m⟩:∃t:aa,t=A.setIfInBounds l (.loop (rec .busy none)):=⟨_,rfl⟩;rw[<-m];have n:Mod (λb=>b=l) A t:=by rw[m];exact Mod.setObj rfl
  have ae:t.size=A.size:=by rw[m];simp
  have L:t[l]?=some (.loop (rec .busy none)):=by rw[m];exact ib i1
  have C:p≠l:=by omega
  have p1:=i3.mod n C;refine p1.ld (c:=au) (i:=0) (x:=z) rfl ?_;have N:∀b,al z b->b≠l:=λb a=>by have:=i5 b a;omega
  have o1:dm EI bT t z (xs.take i):=i4.aE λb a k=>n.same b k (N b a);refine dm.push (E:=EI) N5 (x:=xs.getD i 0) o1 rfl (by rw[Qw];omega) (by rw[Qw];omega) λs2 O o2 g2 _=>?_;have lp:p<t.size:=aI p1;have tp:∀b,al z b->b≠p:=λb a=>by have:=i5 b a;omega
  have p2:ab O p dX #[z.v]:=p1.mod g2.1 (λa=>tp _ a rfl);have af:=i6.size;have t2:∀b,al s2 b->g.size<=b:=λb a=>by
   rcases g2.2 b a with q|q
   ·exact i5 b q
   ·omega
  have o:=p2.st (i:=0) (v:=s2.v) (by simp) rfl (K:=λP=>P[l]?=some (.loop (rec .busy none))/\(λb A'=>b=true/\I (i+1) A') true (P.setIfInBounds l (.loop (rec .ready none))));rw[show (QS ⟨p,0,none⟩ 0)=⟨p,0,none⟩ from rfl] at o;refine o λD p3 m3 s3=>?_;have l2:O[l]?=some (.loop (rec .busy none)):=g2.1.at L (λa=>N _ a rfl);have Q:D[l]?=some (.loop (rec .busy none)):=m3.at l2 (by omega);have m4:Mod (λb=>b=l) D (D.setIfInBounds l (.loop (rec .ready none))):=Mod.setObj rfl;refine⟨Q,rfl,ib Q,?_,⟨s2,?_,?_,t2⟩,?_⟩
  ·exact m4.at (m3.at (g2.1.at (n.at i2 (by omega)) (λa=>by have:=i5 _ a;omega)) (by omega)) (by omega)
  ·exact ab.mod (show ab D p dX #[s2.v] from p3) m4 C
  ·have e:xs.take (i+1)=xs.take i++[xs.getD i 0]:=by rw[RC,Qg hi];simp[QM,Qg hi]
   rw[e];refine o2.aE λb a k=>?_;have:=t2 b a;exact(m4.same b (by omega) (by omega)).trans (m3.same b k (by omega))
  ·have z2:=g2.1.size;refine i6.trans' (G:=λb=>(b=l\/al z b)\/b=p) ?_ ?_
   ·exact(((n.mono λb _ e=>.inl (.inl e)).trans (g2.1.mono λb _ e=>.inl (.inr e))).trans (m3.mono λb _ e=>.inr e)).trans (m4.mono λb _ e=>.inl (.inl e))
   ·rintro b a ((e|e)|e)
    ·exact .inr e
    ·have:=i5 b e;omega
    ·exact .inl e
 ·rintro A ⟨i1,i2,⟨z,i3,i4,i5⟩,i6⟩;rw[Sc] at i4;refine⟨.ready,none,i1,rfl,?_⟩;show ld au _ _ _;have m4:Mod (λb=>b=l) A (A.setIfInBounds l (.loop (rec .exhausted none))):=Mod.setObj rfl;have p4:=i3.mod m4 (by omega);refine p4.ld (c:=au) (i:=0) (x:=z) rfl ?_;have r4:=m4.at i2 (by omega);refine⟨r4,?_⟩;have m5:Mod (λb=>b=r) (A.setIfInBounds l (.loop (rec .exhausted none))) ((A.setIfInBounds l (.loop (rec .exhausted none))).setIfInBounds r (.deferred none)):=Mod.setObj rfl;have z6:=i6.size;have z4:=m4.size;refine U z _ ?_ ?_ (λb a=>by have:=i5 b a;omega)
  ·refine i4.aE λb a k=>?_;have:=i5 b a;exact(m5.same b (by omega) (by omega)).trans (m4.same b k (by omega))
  ·have z5:=m5.size;refine⟨by omega,λb a _=>(m5.same b (by omega) (by omega)).trans ((m4.same b (by omega) (by omega)).trans ((i6.same b (by omega) (by omega)).trans (B.same b a id)))⟩
def upto (n:Nat):List Int:=(List.range n).map λ(i:Nat)=>(i:Int)
theorem Bj {l:Sl}{x:List Int}{W:Nat}{H:aa}{K:Bool->aa->Prop}(h:Ints .i64 H l x)(s:x.length=W)(t:W<=1000)(hs:(x.mergeSort λa b=>decide (a<=b))=upto W)(m:∀B,Ext H B->K true B):K4.sp l (W:Int) H K:=by
 refine K4.of ?_;unfold K4.vc;refine MS.of ?_;unfold MS.vc;refine aj λH1 v n f=>?_;refine MY.of ?_;unfold MY.vc;refine Mv.of ?_;unfold Mv.vc;refine uZ (h.ext f) n (by omega) λz w o2 e2 f2=>?_;refine zQ o2 (by omega) λg o3 m3=>?_;rw[hs] at o3;have o:Ext H g:=⟨by have:=f.size;have:=e2.size;have:=m3.size;omega,λb p _=>by
  have:=f.size;have:=e2.size;rw[m3.same b (by omega) λu=>by have:=f2 b u;omega,e2.same b (by omega) id];exact f.same b p id⟩
 have i3:Ints .i64 g z (upto W):=by
  have:=o3;unfold dm at this;rw[ya] at this;exact aA.ints this
 have q:(upto W).length=W:=by unfold upto;simp
 have r:=i3.len;refine ay W (λi z A=>z=(i:Int)/\A=g) ⟨rfl,rfl⟩ ?_;rintro i _ _ next hi ⟨rfl,rfl⟩ c
 refine ao (λk=>?_) (λk=>?_)
 ·have d:i<W:=by
   have:(i:Int)<(z.n:Int):=by simpa using k
   omega
  refine bM i3 (i:=(i:Int)) (j:=i) rfl (by omega) λad _=>?_;have e:(upto W).getD i 0=(i:Int):=by unfold upto;simp[QM,d]
  rw[e];refine az (by simp) ?_;exact c d _ _ ⟨aH i (by omega),rfl⟩
 ·refine(congrArg (λb=>K b _) ?_).mpr (m _ o);have:=h.len;simp;omega
theorem Om:El Qf NT dX 24 (.slice none 0 0):=re (zb:=CR) As rfl (by kernel_rfl)
theorem zg {W i:Nat}(h:i<W):(upto W).getD i 0=(i:Int):=by unfold upto;simp[QM,h]
theorem uD (W:Nat):(upto W).length=W:=by unfold upto;simp
theorem zT {l:Sl}{W:Nat}{H:aa}{K:Bool->aa->Prop}(h:Ints .i64 H l (upto W))(m:W<=1000)(c:K true H):LW.sp l H K:=by
 refine LW.of ?_;unfold LW.vc;have d:=h.len;rw[uD] at d;refine ay W (λk z A=>z=(W:Int) - 1 - (k:Int)/\A=H) ⟨by rw[wrap64 (by omega) (by omega)];omega,rfl⟩ ?_;rintro k _ _ next hk ⟨rfl,rfl⟩ a
 refine ao (λe=>?_) (λ_=>c);have b:(W:Int) - 1 - (k:Int)>0:=by simpa using e
 have f:Qe.wrap ((W:Int) - 1 - (k:Int) - 1)=(W:Int) - 1 - ((k+1:Nat):Int):=by rw[wrap64 (by omega) (by omega)];omega
 rw[f];refine bM h (i:=(W:Int) - 1 - (k:Int)) (j:=W - 1 - k) (by omega) (by rw[uD];omega) λad _=>?_;refine bM h (i:=(W:Int) - 1 - ((k+1:Nat):Int)) (j:=W - 1 - (k+1)) (by omega) (by rw[uD];omega) λg _=>?_;rw[zg (by omega),zg (by omega)];refine MB.of ?_;unfold MB.vc;refine Li.of ?_;unfold Li.vc;refine az (by simp) ?_;refine az (by simp;omega) ?_;exact a (by omega) _ _ ⟨rfl,rfl⟩
def Cn (p:Nat)(name:ByteArray)(W:Nat)(os:Sl)(f d e:Option Addr):Array Value:=#[.pointer (av p),.string name,.int .i64 W,os.v,.int .i64 0,.bool false,.pointer f,.pointer d,.pointer e,.int .i64 0,.int .i64 0]
section
variable {H0 A B:aa}{F F':Nat->Prop}{p dp Q U most m c:Nat}{s s':Pl}{M M':bd}{R:ak}{l:Sl}{ll:List Int}
theorem jW.grow {X:Nat->Prop}{s:Sl}{ls:List (List Int)}(h:jW X A s ls)(e:Ext A B):jW X B s ls:=h.step (Step.bX e)
structure HO (name:ByteArray)(W:Nat)(ords:List (List Int))(R:ak):Prop where
 name:R.name=name
 W:R.W=W
 ords:R.ords=ords
 f:R.f.ts=[]
 d:R.d.ts=[]
 e:R.e.ts=[]
 ex:R.ex=[]
 next:R.next=0
 nb:R.nb=0
 turns:R.turns=0
set_option maxHeartbeats 2000000 in
theorem wZ {name:ByteArray}{W:Nat}{os:Sl}{ords:List (List Int)}{K:(Option Addr×Int)->aa->Prop}(hW:W<=16)(ho:jW (λ_=>False) A os ords)(h1:1<=ords.length)(bg:ords.length<=16)(X:∀x∈ords,x.length=W/\(x.mergeSort λa b=>decide (a<=b))=upto W)(h0:ords[0]?=some (upto W))(hF:∀b,F b->b<A.size)(hz:H0.size<=A.size)(L:∀j,M (eN name j)=none)
  (hK:∀R B,HO name W ords R->aW H0 B F p M R->Ext A B->(∀b,R.O b->A.size<=b)->K (av R.rb,0) B):JT.sp (av p) name (W:Int) os A K:=by
 have bl:=ho.len;refine JT.of ?_;unfold JT.vc;refine⟨λ_ B=>A=B,?_,?_⟩
 ·refine az rfl ?_;refine oH ?_;have hr:=(mH hW).2.2.1;refine az (by simp;omega) ?_;refine az (by simp;omega) ?_;refine az (by simp;omega) ?_;refine ho.ld (i:=0) (by omega) rfl λad r _ _ hi _=>?_;have e0:ords[0]=upto W:=by rw[Qg (by omega)] at h0;exact Qq h0
  rw[e0] at hi;exact zT hi (by omega) (az rfl rfl)
 rintro _ _ rfl;refine aj λB0 z0 r0 e0=>?_;obtain⟨rb,af⟩:∃rb,rb=A.size:=⟨_,rfl⟩;rw[<-af] at r0 ⊢;refine ay ords.length (λi z B=>z=(i:Int)/\∃s rs,ab B rb Dj (Cn p name W s none none none)/\aA B 0 dX 1 s (rs.map Sl.v)/\rs.length=i/\(∀(j:Nat) (r:Sl) (x:List Int),rs[j]?=some r->ords[j]?=some x->aA B 0 bT 1 r (x.map (Ql .i64))/\∀b,al r b->rb<b)/\(∀b,al s b->rb<b)/\Ext A B/\rb<B.size) ⟨rfl,Sl.mk none 0 0,[],r0,aA.nil _ _ _ _,rfl,by simp,λb u=>(by obtain⟨ad,o,_⟩:=u;cases o),e0,by omega⟩ ?_;rintro i _ B next hi ⟨rfl,s,rs,rB,w,lB,y,Y,V,bs⟩ N
 refine ao (λhc=>?_) (λhc=>?_)
 ·have n:i<ords.length:=by
   have:(i:Int)<(os.n:Int):=by simpa using hc
   omega
  refine(ho.grow V).ld n rfl λad r _ _ g _=>?_;obtain⟨Z,w2⟩:=X _ (Qn n);refine Bj g Z (by omega) w2 λC O=>?_;refine az rfl ?_;refine⟨Ext C,.refl _ _,?_⟩;simp only[add_add,SQ];refine ab.bW (c:=au) (i:=3) (x:=s) (cs:=λ_=>Cn p name W s none none none) (λD hD=>(rB.ext O).ext hD) (λ_ _=>rfl) ?_;refine dE (g.ext O) (by omega) λr' D oD I fD=>⟨I,?_⟩;have h:=O.trans I;refine⟨I.trans (Mod.push (λ_=>False) D (.cells #[r'.v] dX)),?_⟩;have ae:s.n=i:=by have:=w.1;simp at this;omega
  have key:=Om.push (ty:=NT) (H:=D) (base:=0) (s:=s) (xs:=rs.map Sl.v) (v:=r'.v) (w.ext h) (by cases r';rfl) (by omega) (by omega) (QN _)
   (K:=λs' E=>Go.Proofs.YtkehfflpbpdokaaGreatDoor.st E (QS ⟨rb,0,none⟩ 3) s'.v λE'=>next (Qe.wrap ((i:Int)+(1:Int))) E')
  refine key λs' E n' oE mE bE _=>?_;have bA:=O.size;have bB:=I.size;have bC:=mE.size;have rE:ab E rb Dj (Cn p name W s none none none):=((rB.ext O).ext I).mod mE λu=>by have:=Y _ u;omega
  refine ab.st rE (i:=3) (by simp[Cn]) (by cases s';rfl) λG rG mG zG=>?_;have fE:∀b,al s' b->rb<b:=λb d=>by
   rcases bE b d with v|v
   ·exact Y b v
   ·omega
  refine N n _ _ ⟨aH i (by omega),s',rs++[r'],rG,?_,by simp[lB],λj r2 x k hx=>?_,fE,?_,by omega⟩
  ·rw[Q4];exact oE.mod mG λb d u=>by have:=fE b d;omega
  ·by_cases hj:j<i
   ·rw[QR (by omega)] at k;obtain⟨q1,q2⟩:=y j r2 x k hx;have q3:=q1.ext h;exact⟨(q3.mod mE λb d P=>q3.apart (w.ext h) (by decide) b d P).mod mG λb d u=>(by have:=q2 b d;omega),q2⟩
   ·have a1:j=i:=by
     have:=(Qk.1 k).1;simp at this;omega
    subst a1;rw[Re (by omega),lB] at k;have:r2=r':=by simpa using k.symm
    subst this;have a6:x=ords[j]:=by rw[Qg n] at hx;exact(Qq hx).symm
    subst a6;refine⟨(oD.mod mE λb d P=>oD.apart (w.ext h) (by decide) b d P).mod mG λb d u=>(by have:=fD b d;omega),λb d=>by have:=fD b d;omega⟩
  ·have f:Ext A E:=⟨by have:=V.size;omega,λb d _=>by
    rw[mE.same b (by have:=V.size;omega) λu=>by have:=Y b u;omega];exact(V.trans h).same b d id⟩
   exact⟨by have:=f.size;omega,λb d _=>by
    rw[mG.same b (by have:=f.size;omega) λu=>by omega];exact f.same b d id⟩
 ·have a7:i=ords.length:=by
   have:¬(i:Int)<(os.n:Int):=by simpa using hc
   omega
  subst a7;refine oS λC zC rC O=>?_;refine oS λD zD rD I=>?_;refine oS λE zE rE eE=>?_;have f:=(O.trans I).trans eE;refine ab.st (rB.ext f) (i:=6) (by simp[Cn]) rfl λG1 q1 m1 z1=>?_;refine ab.st q1 (i:=7) (by simp[Cn]) rfl λG2 q2 m2 z2=>?_;refine ab.st q2 (i:=8) (by simp[Cn]) rfl λG3 q3 m3 z3=>?_;have e:Mod (λb=>b=rb) E G3:=(m1.trans m2).trans m3;have bD:=V.size;have a8:Ext A G3:=⟨by omega,λb d _=>by rw[e.same b (by omega) λu=>by omega];exact(V.trans f).same b d id⟩;have ae:s.n=ords.length:=by have:=w.1;simp at this;omega
  have key:=hK ⟨rb,name,W,s,ords,⟨B.size,Sl.mk none 0 0,[]⟩,⟨C.size,Sl.mk none 0 0,[]⟩,⟨D.size,Sl.mk none 0 0,[]⟩,[],0,0,0⟩ G3 ⟨rfl,rfl,rfl,rfl,rfl,rfl,rfl,rfl,rfl,rfl⟩;have hO:∀b,ak.O ⟨rb,name,W,s,ords,⟨B.size,Sl.mk none 0 0,[]⟩,⟨C.size,Sl.mk none 0 0,[]⟩,⟨D.size,Sl.mk none 0 0,[]⟩,[],0,0,0⟩ b->b=rb\/B.size<=b:=by
   rintro b (u|⟨q,S,u⟩|⟨t,ht,u⟩)
   ·exact .inl u
   ·unfold ak.parts at S;simp only[Qs,QT,or_false] at S;rcases S with rfl|rfl|rfl
    ·right;show B.size<=b;rw[u];exact Qm _
    ·right;rw[u];show B.size<=C.size;omega
    ·right;rw[u];show B.size<=D.size;omega
   ·cases ht
  have J:∀b,rb<b->b<B.size->¬ak.X ⟨rb,name,W,s,ords,⟨B.size,Sl.mk none 0 0,[]⟩,⟨C.size,Sl.mk none 0 0,[]⟩,⟨D.size,Sl.mk none 0 0,[]⟩,[],0,0,0⟩ F b:=by
   rintro b bG b0 (u|u)
   ·have:=hF b u;omega
   ·rcases hO b u with v|v<;>omega
  have T:∀{b:Nat},rb<b->b<B.size->G3[b]?=B[b]?:=λ{b} h1 h2=>by
   rw[e.same b (by omega) λu=>by omega];exact f.same b h2 id
  refine key ⟨q3,?_,⟨ae,?_,?_⟩,?_,?_,?_,Ti,Ti,?_,λj _=>L j⟩ a8 λb d=>by rcases hO b d with v|v<;>omega
  ·intro q S;unfold ak.parts at S;simp only[Qs,QT,or_false] at S;rcases S with rfl|rfl|rfl
   ·exact⟨((rC.ext I).ext eE).mod e (by show ¬B.size=rb;omega),ja.nil _ _⟩
   ·exact⟨(rD.ext eE).mod e (by show ¬C.size=rb;omega),ja.nil _ _⟩
   ·exact⟨rE.mod e (by show ¬D.size=rb;omega),ja.nil _ _⟩
  ·intro ad o;have h1:=Y _ ⟨ad,o,rfl⟩;have h2:=(w.block _ ⟨ad,o,rfl⟩).2;exact⟨by omega,J _ h1 h2⟩
  ·intro i hi;have g:i<rs.length:=by rw[lB];exact hi
   obtain⟨ad,o,ba⟩:=w.reads.at (i:=i) (by simpa using g);have h1:=Y _ ⟨ad,o,rfl⟩;have h2:=(w.block _ ⟨ad,o,rfl⟩).2;obtain⟨Z,w2⟩:=y i rs[i] ords[i] (Qg g) (Qg hi);refine⟨ad,rs[i],o,?_,λa q=>?_,?_,Z.cap⟩
   ·rw[eX (T (by rw[cj];exact h1) (by rw[cj];exact h2))];simpa using ba
   ·have h3:=w2 _ ⟨a,q,rfl⟩;have h4:=(Z.block _ ⟨a,q,rfl⟩).2;exact⟨by omega,J _ h3 h4⟩
   ·have:=(Z.ext f).mod e λb d u=>by have:=w2 b d;omega
    exact this.ints
  ·intro t ht;cases ht
  ·intro b d;rcases hO b d with v|v
   ·exact⟨λu=>by have:=hF b u;omega,by omega⟩
   ·exact⟨λu=>by have:=hF b u;omega,by omega⟩
  ·show [B.size,C.size,D.size].Nodup;simp;omega
  ·intro t ht;cases ht
end
section
variable {H0 A B:aa}{F F':Nat->Prop}{p dp Q U most m c:Nat}{s s':Pl}{M M':bd}{R:ak}{l:Sl}{ll:List Int}
theorem Step.rel {R:ak}(S:Step F F' A B):Step (R.X F) (R.X F') A B:=S.fK (λ_ u=>.inl u) λb u=>u.elim .inr λv=>.inl (.inr v)
theorem kW (q:aP):q.rows=q.aQ 0:=by
 unfold aP.rows aP.aQ;cases q.ts<;>rfl
set_option maxHeartbeats 1000000 in
theorem qp {w:Nat}{K:(Bool×Int)->aa->Prop}(h:gN H0 A F p dp s M Q U most m c R)(N:Gl H0)(g:Pw H0)(O:R.Fit)(P:Q<=1048576)(hm:m+4000000<=30000000000)(hw:∀i,((R.get 2).aQ i).length<=w)(k:w<=400)(n:U+R.ords.length*(2*w+6)+w+4<Q)(W:c+R.ords.length<4096)(Y:R.ords.length<=16)(o:(R.get 2).ts=[]\/(R.get 2).ts.length=R.ords.length)(hex:R.ex=[])(r:R.nb=R.next)(Z:R.next+R.ords.length<=1000)
  (t:Ints .u64 A l ll) (e:iL (R.X F) A l) (v:ll.length=R.W) (ht:∀i (hi:i<R.ords.length),R.ords[i].length<=1000/\(bk ll R.ords[i]).length=R.W/\cO (bk ll R.ords[i]))
  (y:(∃q∈R.parts,ll∈q.rows)->∀F' s' B,gN H0 B F' p dp s' M Q U most (m+4000000) c R->Step (R.X F) (R.X F') A B->K (false,0) B)
  (z:(¬∃q∈R.parts,ll∈q.rows)->∀F' s' M' S q' nx B,gN H0 B F' p dp s' M' Q S most (m+4000000) (c+R.ords.length) ((R.put 2 q').fO nx nx)->Ins R.ords ll (R.get 2) q'->S<=U+R.ords.length*(2*w+6)->nx<=R.next+R.ords.length->Step (R.X F) (ak.X ((R.put 2 q').fO nx nx) F') A B->(∀a,(∀i,a≠eN R.name i)->M' a=M a)->(q'.s=R.e.s\/∀b,al q'.s b->A.size<=b)->K (true,0) B):Fi.sp (av R.rb) l A K:=by
 refine Fi.of ?_;unfold Fi.vc;refine kg h.rel.row ?_;refine az rfl ?_;simp only[aw,av,add_add,SQ];refine ab.ld (c:=ai .i64) (i:=2) (x:=(R.W:Int)) h.rel.row rfl ?_;have ae:=t.len;refine az (by simp;omega) ?_;refine ab.ld (c:=aq) (i:=6) (x:=av R.f.pb) h.rel.row rfl ?_;refine ab.ld (c:=aq) (i:=7) (x:=av R.d.pb) h.rel.row rfl ?_;refine ab.ld (c:=aq) (i:=8) (x:=av R.e.pb) h.rel.row rfl ?_;refine Cx (qs:=[R.f,R.d,R.e]) (X:=F) h.ar.ar.lt λB sB T=>?_;have V:=h.grow T;have E:Step (R.X F) (R.X F) A B:=Step.bX T;have eqs:(m+1000000*[R.f,R.d,R.e].length)=m+3000000:=rfl;refine HW (qs:=[R.f,R.d,R.e]) V.rel V.ar N O P (by rw[eqs];omega) (λq n=>n) sB (e.ints t E) ((e.step E).mono λb _ u=>.inl u) v λb F1 s1 C f p1 G S1=>?_;rw[eqs] at p1;have d:=E.trans (Step.rel (R:=R) S1);cases b with
 |true=>
   refine az rfl ?_;refine pz ?_;exact y (f.1 rfl) F1 s1 C ⟨p1.later (by omega),G,h.lQ⟩ d
 |false=>
   refine aT rfl ?_;refine ab.ld (c:=aq) (i:=8) (x:=av R.e.pb) G.row rfl ?_;refine wH (j:=2) (w:=w) ⟨p1,G,h.lQ⟩ N g O P (by omega) hw k n W Y o hex r Z (e.ints t d) (e.step d) ht λF2 s2 M2 U2 q2 nx D p2 I2 H I S2 J L=>?_;refine pz ?_;exact z (λu=>by have:=f.2 u;cases this) F2 s2 M2 U2 q2 nx D ⟨p2.ar.later (by omega),p2.rel,p2.lQ⟩ I2 H I (d.trans S2) J (L.imp id λu b f=>QZ d.mod.size (u b f))
def ak.fg (R:ak)(nb:Nat):ak:=⟨R.rb,R.name,R.W,R.os,R.ords,R.f,R.e,⟨nb,Sl.mk none 0 0,[]⟩,R.ex,R.next,R.nb,R.turns+1⟩
theorem ak.l6 {nb b:Nat}(u:(R.fg nb).O b):R.O b\/b=nb:=by
 rcases u with u|⟨q,a,u⟩|⟨t,d,u⟩
 ·exact .inl (.inl u)
 ·unfold ak.parts ak.fg at a;simp only[Qs,QT,or_false] at a;rcases a with rfl|rfl|rfl
  ·exact .inl (.inr (.inl ⟨_,by simp[ak.parts],u⟩))
  ·exact .inl (.inr (.inl ⟨_,by simp[ak.parts],u⟩))
  ·exact .inr u
 ·refine .inl (.inr (.inr ⟨t,?_,u⟩));unfold ak.all ak.fg at d;unfold ak.all;simp only[Qj,QT,false_or] at d ⊢;rcases d with v|v|v
  ·exact .inl v
  ·exact .inr (.inr (.inl v))
  ·exact .inr (.inr (.inr v))
theorem aW.fg {nb:Nat}(h:aW H0 A F p M R)(hd:R.d.ts=[])(o:∀b,F b->b<A.size)(hz:H0.size<=A.size)(w:A.size<=nb)(r:ab B R.rb Dj (jG p (R.fg nb)))(rn:ab B nb EY (iS R.rb (Sl.mk none 0 0)))(j:Mod (λb=>b=R.rb) A B):aW H0 B F p M (R.fg nb):=by
 have a:(R.fg nb).all=R.all:=by
  unfold ak.all ak.fg;simp only[hd,RB]
 have k:Step (R.X F) ((R.fg nb).X F) A B:=⟨j.mono λb _ u=>.inr (.inl u),λb u=>by
  rcases u with u|u
  ·exact .inl (.inl u)
  ·rcases R.l6 u with v|v
   ·exact .inl (.inr v)
   ·exact .inr (by omega)⟩
 have same:∀b,R.O b->b≠R.rb->B[b]?=A[b]?:=λb i e=>j.same b (h.lt b i) e;have part:∀q∈R.parts,ab B q.pb EY (iS R.rb q.s)/\ja ((R.fg nb).X F) B q.s (oN q.ts):=λq d=>⟨(same _ (.inr (.inl ⟨q,d,rfl⟩)) (h.Og d)).trans (h.pt q d).1,(h.pt q d).2.step k⟩;have mf:R.f∈R.parts:=by simp[ak.parts]
 have md:R.d∈R.parts:=by simp[ak.parts]
 have n:R.e∈R.parts:=by simp[ak.parts]
 have lf:=h.lt _ (.inr (.inl ⟨_,mf,rfl⟩));have le:=h.lt _ (.inr (.inl ⟨_,n,rfl⟩));have f:[R.f.pb,R.d.pb,R.e.pb].Nodup:=h.pbs;simp only[Rp,Qs,QT,or_false,not_or] at f;refine⟨r,λq d=>?_,h.ords.step k,λt g=>?_,λb i=>?_,?_,by rw[a];exact h.ks,by rw[a];exact h.ns,by rw[a];exact h.nms,by rw[a];exact h.free⟩
 ·unfold ak.parts ak.fg at d;simp only[Qs,QT,or_false] at d;rcases d with rfl|rfl|rfl
  ·exact part _ mf
  ·exact part _ n
  ·exact⟨rn,ja.nil _ _⟩
 ·rw[a] at g;exact(h.tr t g).aE (same _ (.inr (.inr ⟨t,g,rfl⟩)) (h.ID g h.row (by decide))) rfl
 ·rcases R.l6 i with v|v
  ·exact h.off b v
  ·exact⟨λu=>by have:=o b u;omega,by omega⟩
 ·show [R.f.pb,R.e.pb,nb].Nodup;simp only[Rp,Qs,QT,or_false,not_or];exact⟨⟨f.1.2,by omega⟩,by omega,by simp,Ti⟩
theorem Bn {K:(Int×Int)->aa->Prop}(h:gN H0 A F p dp s M Q U most m c R)(hd:R.d.ts=[])(y:R.turns<=1000000)
  (z:∀nb B,gN H0 B F p dp s M Q U most m c (R.fg nb)->Step (R.X F) ((R.fg nb).X F) A B->K ((R.e.rows.length:Int),0) B):Cy.sp (av R.rb) A K:=by
 refine Cy.of ?_;unfold Cy.vc;refine kg h.rel.row ?_;refine az rfl ?_;simp only[aw,av];refine ab.ld (c:=ai .i64) (i:=10) (x:=(R.turns:Int)) h.rel.row rfl ?_;refine ab.st h.rel.row (i:=10) (by simp[jG]) rfl λB r t T=>?_;rw[aH R.turns (by omega)] at r;have d:=h.rel.cell (nx:=R.next) (tu:=R.turns+1) r t;have md:R.d∈ak.parts {R with next:=R.next,turns:=R.turns+1}:=by simp[ak.parts]
 refine⟨λ_ C=>B=C,?_,?_⟩
 ·refine ab.ld (c:=aq) (i:=7) (x:=av R.d.pb) d.row rfl ?_;simp only[aw,av];obtain⟨G,sp⟩:=d.pt _ md;refine ab.ld (c:=au) (i:=1) (x:=R.d.s) G rfl ?_;have g:=sp.len;rw[hd] at g;exact az (by rw[g];rfl) trivial
 rintro _ _ rfl;refine⟨Ext B,.refl _ _,?_⟩;refine ab.bW (c:=aq) (i:=8) (x:=av R.e.pb) (cs:=λ_=>jG p {R with next:=R.next,turns:=R.turns+1}) (λD H=>d.row.ext H) (λ_ _=>rfl) ?_;refine oS λC V I n=>⟨n,?_⟩;have J:=d.row.ext n;refine ab.st J (i:=7) (by simp[jG]) rfl λD L N W=>?_;refine ab.st L (i:=8) (by simp[jG]) rfl λE O P Y=>?_;have j:=h.ar.ar.lt;have o:∀b,F b->b≠R.rb:=λb f e=>(h.rel.off _ (.inl rfl)).1 (e▸f);have k:Mod (λb=>b=R.rb) C E:=N.trans P;have S:=h.rel.lt _ (.inl rfl);have w:=(h.rel.off _ (.inl rfl)).2;have a:Mod (λb=>b=R.rb) A E:=(t.trans n.mod).trans k;have rel:aW H0 E F p M (R.fg B.size):=by
  refine aW.fg (A:=A) h.rel hd j h.ar.ext.size (by omega) O (I.mod k (by omega)) a
 have ar:aM H0 E F p dp s M Q U most m:=h.ar.aside ⟨by have:=h.ar.ext.size;have:=a.size;omega,λb f _=>(a.same b (by have:=h.ar.ext.size;omega) (by omega)).trans (h.ar.ext.same b f id)⟩ λb f=>a.same b (j b f) (o b f);refine ab.ld (c:=aq) (i:=7) (x:=av R.e.pb) rel.row rfl ?_;refine wi (q:=R.e) rel (by simp[ak.parts,ak.fg]) ?_;refine z B.size E ⟨ar,rel,h.lQ⟩ ⟨a.mono λb _ u=>.inr (.inl u),λb u=>?_⟩;rcases u with u|u
 ·exact .inl (.inl u)
 ·rcases R.l6 u with v|v
  ·exact .inl (.inr v)
  ·exact .inr (by omega)
end
section
variable {H0 A B:aa}{F F':Nat->Prop}{p dp Q U most m c:Nat}{s s':Pl}{M M':bd}{R:ak}{l:Sl}{ll:List Int}
theorem Ints.take {k:IntKind}{l:Sl}{x:List Int}(h:Ints k A l x){i:Nat}(hi:i<=x.length):Ints k A ⟨bF l.a l.c 0 1,i - 0,l.c - 0⟩ (x.take i):=by
 rw[iE];refine⟨by rw[Qw];show i - 0=_;omega,?_⟩;rw[List.map_take];exact h.reads.take i
theorem vO {l:Sl}{x:List Int}{v:Int}{K:Int->aa->Prop}(h:Ints .i64 A l x)(r:x.length<=1000000)(g:∀i,i<x.length->x.getD i 0=v->(∀j,j<i->x.getD j 0≠v)->K (i:Int) A)(k:v∉x->K (-1) A):Ja.sp l v A K:=by
 refine Ja.of ?_;unfold Ja.vc;have t:=h.len;refine ay x.length (λi z B=>z=(i:Int)/\A=B/\∀j,j<i->x.getD j 0≠v) ⟨rfl,rfl,λj f=>by omega⟩ ?_;rintro i _ _ next hi ⟨rfl,rfl,b⟩ d
 refine ao (λn=>?_) (λn=>?_)
 ·have a:i<x.length:=by
   have:(i:Int)<(l.n:Int):=by simpa using n
   omega
  refine bM h (i:=(i:Int)) (j:=i) rfl a λad _=>?_;refine ao (λhe=>?_) (λhe=>?_)
  ·have he:v=x.getD i 0:=by simpa using he
   exact g i a he.symm b
  ·have he:v≠x.getD i 0:=by simpa using he
   refine d a _ _ ⟨aH i (by omega),rfl,λj f=>?_⟩;by_cases e:j=i
   ·subst e;exact λq=>he q.symm
   ·exact b j (by omega)
 ·have o:i=x.length:=by
   have:¬(i:Int)<(l.n:Int):=by simpa using n
   omega
  subst o;refine k λu=>?_;obtain⟨j,f⟩:=Qr.1 u;have a:=(Qk.1 f).1;exact b j a (by simp[QM,f])
theorem pU {l:Sl}{x:List Int}{v:Int}{K:Bool->aa->Prop}(h:Ints .i64 A l x)(d:x.length<=1000000)(a:K (decide (v∈x)) A):JD.sp l v A K:=by
 refine JD.of ?_;unfold JD.vc;refine vO h d (λi hi e _=>?_) (λb=>?_)
 ·have hm:v∈x:=by
   rw[<-e,QM,Qg hi];exact Qn hi
  rw[decide_eq_true hm] at a;rw[decide_eq_true (show (i:Int)>=0 by omega)];exact a
 ·rw[decide_eq_false b] at a;rw[decide_eq_false (by decide)];exact a
def jw (cl o:List Int):Bool:=(o.take cl.length).all λc=>decide (c∈cl)
theorem Mq {cols:Sl}{cl:List Int}{K:(Int×Bool)->aa->Prop}(h:aW H0 A F p M R)(G:Ints .i64 A cols cl)(w:∀o∈R.ords,cl.length<=o.length)(W:cl.length<=1000)(H:R.ords.length<=16)
  (y:∀i (hi:i<R.ords.length),jw cl R.ords[i]=true->(∀j (f:j<i),jw cl (R.ords[j]'(by omega))=false)->K ((i:Int),true) A) (C:(∀o∈R.ords,jw cl o=false)->K (0,false) A):Ld.sp (av R.rb) cols A K:=by
 refine Ld.of ?_;unfold Ld.vc;simp only[aw,av,add_add,SQ];refine ab.ld (c:=au) (i:=3) (x:=R.os) h.row rfl ?_;have J:=h.ords.len;have L:=G.len;refine ay R.ords.length (λi z B=>z=(i:Int)/\A=B/\∀j (f:j<R.ords.length),j<i->jw cl R.ords[j]=false) ⟨rfl,rfl,λj _ f=>by omega⟩ ?_;rintro i _ _ next hi ⟨rfl,rfl,n⟩ q
 refine ao (λt=>?_) (λt=>?_)
 ·have a:i<R.ords.length:=by
   have:(i:Int)<(R.os.n:Int):=by simpa using t
   omega
  refine h.ords.ld a rfl λad r _ _ hr I=>?_;have hm:=w _ (Qn a);have N:=hr.len;refine⟨⟨by omega,by omega⟩,?_⟩;have O:=hr.take (i:=cl.length) hm;have P:((cols.n:Int).toNat) - 0=cl.length - 0:=by omega
  rw[P];have hlen:(R.ords[i].take cl.length).length=cl.length:=by rw[Qw];omega
  refine ay cl.length (λk z B=>z=(k:Int)/\A=B/\((R.ords[i].take cl.length).take k).all (λc=>decide (c∈cl))=true) ⟨rfl,rfl,by simp⟩ ?_;rintro k _ _ D hk ⟨rfl,rfl,b⟩ g;refine ao (λd=>?_) (λd=>?_)
  ·have E:k<cl.length:=by
    have:(k:Int)<((cl.length - 0:Nat):Int):=by simpa using d
    omega
   refine bM O (i:=(k:Int)) (j:=k) rfl (by omega) λS _=>?_;have T:(R.ords[i].take cl.length).take (k+1)=(R.ords[i].take cl.length).take k++[(R.ords[i].take cl.length).getD k 0]:=by
    rw[RC,Qg (by omega)];simp[QM,Qg (show k<(R.ords[i].take cl.length).length by omega)]
   refine pU G (by omega) ?_;refine ao (λu=>?_) (λu=>?_)
   ·have u:(R.ords[i].take cl.length).getD k 0∉cl:=by simpa using u
    refine q a _ _ ⟨aH i (by omega),rfl,λj f V=>?_⟩;by_cases e:j=i
    ·subst e;unfold jw;rw[List.all_eq_false];refine⟨(R.ords[j].take cl.length).getD k 0,?_,by simpa using u⟩;rw[QM,Qg (by omega)];exact Qn _
    ·exact n j f (by omega)
   ·have u:(R.ords[i].take cl.length).getD k 0∈cl:=by simpa using u
    refine g E _ _ ⟨aH k (by omega),rfl,?_⟩;rw[T,List.all_append,b];simp only[List.all_cons,List.all_nil,Bool.and_true,Bool.true_and];exact decide_eq_true u
  ·have v:k=cl.length:=by
    have:¬(k:Int)<((cl.length - 0:Nat):Int):=by simpa using d
    omega
   subst v;rw[Tg,Yu] at b;exact y i a b λj f=>n j (by omega) f
 ·have v:i=R.ords.length:=by
   have:¬(i:Int)<(R.os.n:Int):=by simpa using t
   omega
  subst v;refine C λo H=>?_;obtain⟨j,f⟩:=Qr.1 H;have a:=(Qk.1 f).1;have:=n j a a;rw[Qg a] at f;rw[<-Qq f];exact this
end
structure TC where
 t:Tx
 cb:Nat
 lo:Sl
 ll:List Int
 strict:Bool
structure bc where
 cb:Nat
 order:Nat
 low:Sl
 lowL:List Int
 cols:Sl
 colsL:List Int
 words:Sl
 wordsL:List Int
 fr:Sl
 tcs:List TC
 bH:Sl
 hs:List (Sl×Option (List Int))
 turns:Nat
 begun:Bool
 ext:Nat->Prop
def kG (rb order:Nat)(low cols words fr bH:Sl)(turns:Nat)(bad begun:Bool):Array Value:=#[.pointer (some ⟨rb,0,none⟩),.int .i64 order,low.v,cols.v,words.v,fr.v,bH.v,.int .i64 turns,.bool bad,.bool begun]
def bc.su (C:bc)(b:Nat):Prop:=b=C.cb\/(∃t∈C.tcs,b=t.cb)\/al C.bH b\/C.ext b
def bc.Z (C:bc)(F:Nat->Prop)(b:Nat):Prop:=F b\/C.su b
def bc.th (C:bc)(b:Nat):Prop:=b=C.cb\/(∃t∈C.tcs,b=t.cb)\/al C.bH b
def bc.Z0 (C:bc)(F:Nat->Prop)(b:Nat):Prop:=F b\/C.th b
theorem bc.qu {C:bc}{b:Nat}(u:C.th b):C.su b:=by
 rcases u with u|u|u
 ·exact .inl u
 ·exact .inr (.inl u)
 ·exact .inr (.inr (.inl u))
theorem bc.Ev {C:bc}{b:Nat}(u:C.su b):C.th b\/C.ext b:=by
 rcases u with u|u|u|u
 ·exact .inl (.inl u)
 ·exact .inl (.inr (.inl u))
 ·exact .inl (.inr (.inr u))
 ·exact .inr u
theorem Step.full {R:ak}{C a:bc}{F F':Nat->Prop}{A B:aa}(S:Step (R.X (C.Z0 F)) (R.X (a.Z0 F')) A B)(e:a.ext=C.ext):Step (R.X (C.Z F)) (R.X (a.Z F')) A B:=S.fK (λb u=>by
  rcases u with (u|u)|u
  ·exact .inl (.inl u)
  ·exact .inl (.inr (bc.qu u))
  ·exact .inr u) λb u=>by
  rcases u with (u|u)|u
  ·exact .inr (.inl (.inl u))
  ·rcases bc.Ev u with v|v
   ·exact .inr (.inl (.inr v))
   ·exact .inl (.inl (.inr (.inr (.inr (.inr (e▸v))))))
  ·exact .inr (.inr u)
def uE (Y:Nat->Prop)(A:aa)(h:Sl×Option (List Int)):Prop:=(h.2=none->h.1.a=none)/\∀y,h.2=some y->h.1.a≠none/\Ints .u64 A h.1 y/\iL Y A h.1
structure cz (H0 A:aa)(F:Nat->Prop)(p:Nat)(M:bd)(R:ak)(C:bc):Prop where
 rel:aW H0 A (C.Z F) p M R
 row:ab A C.cb II (kG R.rb C.order C.low C.cols C.words C.fr C.bH C.turns false C.begun)
 low:Ints .u64 A C.low C.lowL/\iL (R.X (C.Z F)) A C.low
 cols:Ints .i64 A C.cols C.colsL/\iL (R.X (C.Z F)) A C.cols
 words:Ints .u64 A C.words C.wordsL/\iL (R.X (C.Z F)) A C.words
 fr:ja (R.X (C.Z F)) A C.fr (C.tcs.map λt=>cG t.cb)
 tc:∀t∈C.tcs,t.t∈R.all/\jZ A F t.t.k t.cb t.lo t.ll t.strict/\iL (R.X (C.Z F)) A t.lo
 hd:aA A 0 cv 1 C.bH (C.hs.map λh=>h.1.v)
 hr:∀h∈C.hs,uE (R.X (C.Z F)) A h
 cbs:(C.tcs.map (·.cb)).Nodup
 off:∀b,C.su b->¬F b/\H0.size<=b
 ext:∀b,C.ext b->b<A.size
 sep:∀b,C.ext b->¬C.th b
section
variable {H0 A B D:aa}{F F' X:Nat->Prop}{p dp Q U most m c k cb:Nat}{s s':Pl}{M M':bd}{R:ak}{l lo:Sl}{ll:List Int}{strict:Bool}
theorem jZ.mod (h:jZ A F k cb lo ll strict)(d:Mod X A B)(h1:¬X cb)(e:∀b,al lo b->¬X b):jZ B F k cb lo ll strict:=
 ⟨h.row.mod d h1,h.ints.mod d λad a=>e _ ⟨ad,a,rfl⟩,λad a=>⟨QP (h.off ad a).1 d.size,(h.off ad a).2⟩,h.cb⟩
theorem rz {K:Option Addr->aa->Prop}(g:Ints .u64 A l ll)(hlen:ll.length<=17592186044416)(a:∀b,F b->b<A.size)(h:k<A.size)
  (i:∀B cb lo,Ext A B->jZ B F k cb lo ll false->A.size<=cb->cb<B.size->(∀b,al lo b->A.size<=b/\b≠cb)->K (av cb) B):Im.sp (av k) l A K:=by
 refine Im.of ?_;unfold Im.vc;refine az rfl ?_;refine kD g hlen λcl H1 o1 d f1=>?_;refine aj λj z2 r2 e2=>?_;have hz:=d.size;refine i j H1.size cl (d.trans e2) ⟨r2,(o1.ext e2).ints,λad e=>?_,λu=>by have:=a _ u;omega,by omega⟩ (by omega) (by omega) λb f=>⟨f1 b f,by have:=(o1.block b f).2;omega⟩;have h1:=(o1.block _ ⟨ad,e,rfl⟩).2;have n:=f1 _ ⟨ad,e,rfl⟩;exact⟨by omega,λu=>by
  rcases u with u|u|u
  ·have:=a _ u;omega
  ·omega
  ·omega⟩
theorem aW.fresh (h:aW H0 A F p M R)(e:Ext A B)(d:∀b,X b->A.size<=b):aW H0 B (λb=>F b\/X b) p M R:=
 h.aside ⟨e.mod,λb u=>by
  rcases u with (u|u)|u
  ·exact .inl (.inl u)
  ·exact .inr (d b u)
  ·exact .inl (.inr u)⟩ (λb a=>⟨e.same b (h.lt b a) id,λu=>u.elim (h.off b a).1 λv=>by have:=d b v;have:=h.lt b a;omega⟩) (λ_ _=>rfl) h.free
theorem jW.old {X:Nat->Prop}{os:Sl}{ls:List (List Int)}(h:jW X A os ls)(e:Ext A B):jW (λb=>A.size<=b) B os ls:=
 jW.step (X:=λb=>A.size<=b) (A:=A) ⟨h.len,λad d=>⟨(h.off ad d).1,by have:=(h.off ad d).1;omega⟩,λi hi=>by
  obtain⟨ad,r,g,j,f,n,o⟩:=h.at' i hi;exact⟨ad,r,g,j,λa d=>⟨(f a d).1,by have:=(f a d).1;omega⟩,n,o⟩⟩ ⟨e.mod,λ_ u=>.inl u⟩
def iM (cl wl:List Int)(x:Int):Int:=wl.getD (cl.findIdx (·==x)) 0
theorem ME:El Qf LN NO 8 (.pointer none):=re (zb:=xF) vX rfl (by kernel_rfl)
set_option maxHeartbeats 4000000 in
theorem sY {V:Nat->Prop}{n:Int}{cols words:Sl}{cl wl:List Int}{K:Option Addr->aa->Prop}(h:gN H0 A F p dp s M Q U most m c R)(hE:∀b,V b->b<A.size/\¬F b/\H0.size<=b)(cB:aW H0 A (λb=>F b\/V b) p M R)(hn:R.asked n≠[])(hF:R.Fit)(ho:R.ords.length<=16)(h1:1<=R.ords.length)(bE:∀o∈R.ords,o.length=R.W)
  (hc:Ints .i64 A cols cl) (fA:cols.n<=cols.c) (hw:Ints .u64 A words wl) (fD:wl.length=cl.length) (ev:∀x∈cl,0<=x/\x<(R.W:Int)) (ew:cl.Nodup) (cF:cl.length<=R.W) (ey:∀q∈R.asked n,q.ts=[]\/q.ts.length=R.ords.length)
  (hK:∀C B,cz H0 B F p M R C->Ext A B->(∀b,C.su b->A.size<=b\/V b)->C.ext=V->C.colsL=cl->C.wordsL=wl->C.turns=R.turns->C.begun=false->C.hs=[]->C.bH=Sl.mk none 0 0->C.order<R.ords.length->
   (jw cl (R.ords.getD C.order [])=true/\(∀j,j<C.order->jw cl (R.ords.getD j [])=false)/\C.lowL=((R.ords.getD C.order []).take cl.length).map (iM cl wl)\/(∀o∈R.ords,jw cl o=false)/\C.order=0/\C.lowL=[])->
   C.tcs.map (·.t)=(R.asked n).filterMap (λq=>q.ts[C.order]?)->(∀t∈C.tcs,t.ll=C.lowL/\t.strict=false)->K (av C.cb) B):Fe.sp (av R.rb) n cols words A K:=by
 refine Fe.of ?_;unfold Fe.vc;refine az rfl ⟨Ext A,.refl _ _,?_⟩;have hW:=hF.W;refine dE hc (by omega) λcc H1 o1 e1 f1=>⟨e1,?_⟩;refine kD (hw.ext e1) (by omega) λP H2 o2 e2 f2=>⟨e1.trans e2,?_⟩;simp only[aw,av];refine ab.bW (c:=ai .i64) (i:=10) (x:=(R.turns:Int)) (cs:=λ_=>jG p R) (λD hD=>h.rel.row.ext hD) (λ_ _=>rfl) ?_;refine aj λH3 z3 r3 e3=>?_;obtain⟨cb,eA⟩:∃cb,cb=H2.size:=⟨_,rfl⟩;rw[<-eA] at r3 ⊢;have c0:=(e1.trans e2).trans e3;have fF:=h.OU;have z1:=e1.size;have z2:=e2.size;refine Fm (X:=λb=>b=cb) (h.rel.grow c0) (λb u=>by omega) λps D c3 b4 eD=>?_;have c4:=c0.trans eD;have zD:=eD.size;have eF:=c3.len;rw[QI] at eF;have c5:=R.mM n;have ga:(R.asked n).length<=1000000:=by unfold ak.asked;split<;>(try split)<;>(try split)<;>simp
 generalize R.asked n=qs at*;have rD:=r3.ext eD;have rel:∀{B:aa},Mod (λb=>b=cb) D B->Ext A B:=λ{B} mm=>⟨by have:=mm.size;omega,λb d _=>by rw[mm.same b (by omega) (by omega)];exact c4.same b d id⟩;have gb:=hc.len;have gf:=hw.len;refine⟨λ_ B=>ab B cb II (kG R.rb 0 (Sl.mk none 0 0) cc P (Sl.mk none 0 0) (Sl.mk none 0 0) R.turns false false)/\Mod (λb=>b=cb) D B,?_,?_⟩
 ·refine az ?_ ?_
  ·have:ps.a.isNone=false:=by
    cases hp:ps.a.isNone with
    |true=>exact absurd (b4.1 hp) hn
    |false=>rfl
   rw[this];simp;omega
  ·simp only[aw,add_add,SQ];refine ab.ld (c:=ai .i64) (i:=2) (x:=(R.W:Int)) (h.rel.grow c4).row rfl ?_;have:decide ((cols.n:Int)>(R.W:Int))=false:=by simp;omega
   rw[this];exact ab.st rD (i:=8) (by simp) rfl λB rB mB zB=>⟨rB,mB⟩
 rintro _ B0 ⟨r0,m0⟩;refine ay cl.length (λi z B=>z=(i:Int)/\ab B cb II (kG R.rb 0 (Sl.mk none 0 0) cc P (Sl.mk none 0 0) (Sl.mk none 0 0) R.turns false false)/\Mod (λb=>b=cb) D B) ⟨rfl,r0,m0⟩ ?_;rintro i _ B next hi ⟨rfl,rB,mB⟩ L
 have eB:=rel mB;refine ao (λS=>?_) (λS=>?_)
 ·have I:i<cl.length:=by
   have:(i:Int)<(cols.n:Int):=by simpa using S
   omega
  refine bM (hc.ext eB) (i:=(i:Int)) (j:=i) rfl I λad _=>?_;have hx:cl.getD i 0=cl[i]:=by simp[QM,Qg I]
  obtain⟨x0,x1⟩:=ev _ (Qn I);rw[hx];refine ab.ld (c:=aC) (i:=8) (x:=false) rB rfl ?_;refine az (by simp;omega) ?_;simp only[aw,add_add,SQ];refine ab.ld (c:=ai .i64) (i:=2) (x:=(R.W:Int)) (h.rel.grow eB).row rfl ?_;refine az (by simp;omega) ⟨⟨by omega,by omega⟩,?_⟩;rw[QD];refine pU ((hc.ext eB).take (by omega)) (by rw[Qw];omega) ?_;have a1:cl[i]∉cl.take i:=λu=>by
   obtain⟨j,hj⟩:=Qr.1 u;have eG:=(Qk.1 hj).1;rw[Qw] at eG;rw[Rb,if_pos (by omega)] at hj;have:=(RM (l:=cl) (i:=j) (j:=i) (by omega) ew).1 (by rw[hj,Qg I]);omega
  rw[decide_eq_false a1];refine ab.st rB (i:=8) (by simp[kG]) rfl λC rC mC zC=>?_;exact L I _ _ ⟨aH i (by omega),rC,mB.trans mC⟩
 clear L next hi S
 refine ab.ld (c:=aC) (i:=8) (x:=false) rB rfl ?_;refine az rfl ?_;have T:=h.rel.grow eB
 -- behind the order
 have tail:∀o:Nat,o<R.ords.length->∀(E:aa) (low:Sl) (lowL:List Int),ab E cb II (kG R.rb o low cc P (Sl.mk none 0 0) (Sl.mk none 0 0) R.turns false false)->Mod (λb=>b=cb) D E->Ints .u64 E low lowL->lowL.length<=1000->(∀b,al low b->D.size<=b/\b<E.size)->
   (jw cl (R.ords.getD o [])=true/\(∀j,j<o->jw cl (R.ords.getD j [])=false)/\lowL=((R.ords.getD o []).take cl.length).map (iM cl wl)\/(∀x∈R.ords,jw cl x=false)/\o=0/\lowL=[])->
   aF Int (0:Int) E λW ae N=>br (decide (ae<(ps.n:Int))) (ah ps.a λeH=>(0<=ae/\ae<(ps.n:Int))/\Go.Proofs.YtkehfflpbpdokaaGreatDoor.ld aq N (eH.add (ae.toNat*1)) λ(t:Option Addr)=>ah t λeI=>Go.Proofs.YtkehfflpbpdokaaGreatDoor.ld au N (eI.add 1) λ(c6:Sl)=>br (decide ((c6.n:Int)>(0:Int))) (∃a6:aa->Prop,a6 N/\bW au a6 (QS ⟨cb,0,none⟩ 5) λ(c7:Sl)=>ah t λc8=>Go.Proofs.YtkehfflpbpdokaaGreatDoor.ld au N (c8.add 1) λ(b0:Sl)=>ah b0.a λc9=>(0<=(o:Int)/\(o:Int)<(b0.n:Int))/\Go.Proofs.YtkehfflpbpdokaaGreatDoor.ld aq N (c9.add ((o:Int).toNat*1)) λ(dk:Option Addr)=>bW au a6 (QS ⟨cb,0,none⟩ 2) λ(dt:Sl)=>Im.sp dk dt N λ(eL:Option Addr) dT=>a6 dT/\aB dT #[(.pointer eL)] NO λeP ea=>a6 ea/\bI au Qf (Qo #[LN,LN] LN #[c7.v,(.slice (some eP) 1 1)]) ea λ(eR:Sl) eT=>st eT (QS ⟨cb,0,none⟩ 5) eR.v λeW=>W (Qe.wrap (ae+(1:Int))) eW) (W (Qe.wrap (ae+(1:Int))) N)) (K (some ⟨cb,0,none⟩) N):=by
  intro o e0 E low lowL rE mE eb gg ec b5;have eE:=rel mE;have zE:=mE.size;refine ay qs.length (λi z B=>z=(i:Int)/\∃(fr:Sl) (tcs:List TC),ab B cb II (kG R.rb o low cc P fr (Sl.mk none 0 0) R.turns false false)/\Mod (λb=>b=cb) E B/\aA B 0 NO 1 fr (tcs.map λt:TC=>cG t.cb)/\(∀b,al fr b->E.size<=b)/\tcs.map (·.t)=(qs.take i).filterMap (λq=>q.ts[o]?)/\
   (∀t∈tcs,jZ B F t.t.k t.cb t.lo lowL false/\t.ll=lowL/\t.strict=false/\E.size<=t.cb/\(∀b,al t.lo b->E.size<=b)/\(∀b,al fr b->b≠t.cb/\¬al t.lo b)/\∀u∈tcs,¬al t.lo u.cb)/\(tcs.map (·.cb)).Nodup) ⟨rfl,Sl.mk none 0 0,[],rE,.refl _ _,aA.nil _ _ _ _,λb u=>(by obtain⟨ad,f,_⟩:=u;cases f),rfl,λt g=>(by cases g),Ti⟩ ?_
  rintro i _ B next hi ⟨rfl,fr,tcs,rB,mB,oB,fB,hmap,y,a7⟩ L
  have bs:=mE.trans mB;have eB:=rel bs;have zB:=mB.size;have T:=h.rel.grow eB;have e4:∀b,F b->b<B.size:=λb u=>by have:=h.ar.ar.lt b u;have:=eB.size;omega
  have b6:∀t∈tcs,t.cb<B.size/\∀b,al t.lo b->b<B.size:=λt g=>by
   have ed:=(y t g).1;exact⟨aI ed.row,λb ⟨ad,f,e⟩=>e▸(ed.off ad f).1⟩
  have bA:∀b,al fr b->b<B.size:=λb d=>(oB.block b d).2;have a8:Ints .u64 B low lowL:=eb.mod mB λad f u=>by have:=(ec _ ⟨ad,f,rfl⟩).1;omega
  refine ao (λS=>?_) (λS=>?_)
  ·have I:i<qs.length:=by
    have:(i:Int)<(ps.n:Int):=by simpa using S
    omega
   have e5:Step (λb=>b=cb) (λb=>b=cb) D B:=⟨bs,λ_ u=>.inl u⟩;refine ja.ld (c:=aq) (x:=av qs[i].pb) (i:=i) (c3.step e5) (by rw[QC,Qg I];rfl) rfl λad _=>?_;have ee:=c5 _ (Qn I);obtain⟨rp,sp⟩:=T.pt _ ee;have Y:=sp.len;unfold oN at Y;rw[QI] at Y;have eg:qs.take (i+1)=qs.take i++[qs[i]]:=by rw[RC,Qg I];rfl
   simp only[aw,av];refine ab.ld (c:=au) (i:=1) (x:=qs[i].s) rp rfl ?_;refine ao (λd=>?_) (λd=>?_)
   ·have fo:((qs[i].s.n:Nat):Int)>0:=by simpa using d
    have hlen:qs[i].ts.length=R.ords.length:=(ey _ (Qn I)).resolve_left λe=>by rw[e] at Y;simp at Y;omega
    have ei:o<qs[i].ts.length:=by omega
    have ej:qs[i].ts[o]?=some qs[i].ts[o]:=Qg ei;have e6:qs[i].ts[o]∈R.all:=ak.dj ee _ (Qn ei);refine⟨Ext B,.refl _ _,?_⟩;refine ab.bW (c:=au) (i:=5) (x:=fr) (cs:=λ_=>kG R.rb o low cc P fr (Sl.mk none 0 0) R.turns false false) (λD hD=>rB.ext hD) (λ_ _=>rfl) ?_;refine ab.ld (c:=au) (i:=1) (x:=qs[i].s) rp rfl ?_;refine ja.ld (c:=aq) (x:=av qs[i].ts[o].k) (i:=o) sp (xq ej) rfl λe7 _=>?_;refine ab.bW (c:=au) (i:=2) (x:=low) (cs:=λ_=>kG R.rb o low cc P fr (Sl.mk none 0 0) R.turns false false) (λD hD=>rB.ext hD) (λ_ _=>rfl) ?_;refine rz a8 (by omega) e4 (T.tr _ e6).lt λC tb lo eC b1 fv fx af=>⟨eC,?_⟩;refine⟨eC.trans (Mod.push (λ_=>False) C (.cells #[.pointer (av tb)] NO)),?_⟩;have zC:=eC.size;have gj:fr.n=tcs.length:=by have:=oB.1;simp at this;omega
    have e8:tcs.length<=qs.length:=by
     have:=congrArg Uc hmap;rw[QI] at this;have h2:=Xb (λq:aP=>q.ts[o]?) (qs.take i);rw[Qw] at h2;omega
    have key:=ME.push (ty:=LN) (H:=C) (base:=0) (s:=fr) (xs:=tcs.map λt:TC=>cG t.cb) (v:=.pointer (av tb)) (oB.ext eC) rfl (by omega) (by omega) (QN _)
     (K:=λs' G=>Go.Proofs.YtkehfflpbpdokaaGreatDoor.st G (QS ⟨cb,0,none⟩ 5) s'.v λG'=>next (Qe.wrap ((i:Int)+(1:Int))) G')
    refine key λbB G n' oG mG bG _=>?_;have zG:=mG.size;have rG:ab G cb II (kG R.rb o low cc P fr (Sl.mk none 0 0) R.turns false false):=(rB.ext eC).mod mG λu=>by have:=fB _ u;omega
    refine ab.st rG (i:=5) (by simp[kG]) (by cases bB;rfl) λJ rJ mJ zJ=>?_;have fG:∀b,al bB b->E.size<=b:=λb d=>by
     rcases bG b d with v|v
     ·exact fB b v
     ·omega
    have ek:∀b,al bB b->al fr b\/C.size<=b:=bG;have b7:Mod (λb=>al fr b\/b=cb) C J:=(mG.mono λb _ u=>.inl u).trans (mJ.mono λb _ u=>.inr u);refine L I _ _ ⟨aH i (by omega),bB,tcs++[⟨qs[i].ts[o],tb,lo,lowL,false⟩],rJ,?_,?_,fG,?_,?_,?_⟩
    ·refine⟨by omega,λb d ba=>?_⟩;rw[b7.same b (by omega) λu=>u.elim (λv=>by have:=fB b v;omega) ba,eC.same b (by omega) id];exact mB.same b d ba
    ·rw[Q4];exact oG.mod mJ λb d u=>by have:=fG b d;omega
    ·rw[Q4,hmap,eg,X9];simp[ej]
    ·intro t g;rcases Qj.1 g with v|v
     ·obtain⟨q1,q2,q3,q4,q5,q6,q7⟩:=y t v;obtain⟨l1,l2⟩:=b6 t v;refine⟨(q1.mod eC id λ_ _=>id).mod b7 (λu=>u.elim (λw=>(q6 _ w).1 rfl) λw=>by omega) (λb d u=>u.elim (λw=>(q6 _ w).2 d) λw=>by have:=q5 b d;omega),q2,q3,q4,q5,λb d=>?_,λu hu=>?_⟩
      ·rcases ek b d with w|w
       ·exact q6 b w
       ·exact⟨by omega,λu=>by have:=l2 b u;omega⟩
      ·rcases Qj.1 hu with w|w
       ·exact q7 u w
       ·have:u=⟨qs[i].ts[o],tb,lo,lowL,false⟩:=by simpa using w
        subst this;intro x;have:=l2 _ x;simp at this;omega
     ·have:t=⟨qs[i].ts[o],tb,lo,lowL,false⟩:=by simpa using v
      subst this;refine⟨b1.mod b7 (λu=>u.elim (λw=>by have:=bA _ w;omega) λw=>by omega) (λb d u=>u.elim (λw=>by have:=bA _ w;have:=(af b d).1;omega) λw=>by have:=(af b d).1;omega),rfl,rfl,by show E.size<=tb;omega,λb d=>by have:=(af b d).1;omega,λb d=>?_,λu hu=>?_⟩
      ·rcases ek b d with w|w
       ·have:=bA b w;exact⟨by show b≠tb;omega,λu=>by have:=(af b u).1;omega⟩
       ·have e9:∀x,al lo x->x<C.size:=λx ⟨ad,f,e⟩=>e▸(b1.off ad f).1;exact⟨by show b≠tb;omega,λu=>by have:=e9 b u;omega⟩
      ·rcases Qj.1 hu with w|w
       ·intro x;have h1:=(af _ x).1;have h2:=(b6 u w).1;omega
       ·have:u=⟨qs[i].ts[o],tb,lo,lowL,false⟩:=by simpa using w
        subst this;exact λx=>(af _ x).2 rfl
    ·rw[Q4,QY];refine⟨a7,by simp,λa f b d e=>?_⟩;obtain⟨t,g,rfl⟩:=QB.1 f;have:=(b6 t g).1;simp at d;omega
   ·have hz:¬((qs[i].s.n:Nat):Int)>0:=by simpa using d
    have eo:qs[i].ts=[]:=QW (by omega);refine L I _ _ ⟨aH i (by omega),fr,tcs,rB,mB,oB,fB,?_,y,a7⟩;rw[hmap,eg,X9];simp[eo]
  ·have b8:i=qs.length:=by
    have:¬(i:Int)<(ps.n:Int):=by simpa using S
    omega
   subst b8;rw[Sc] at hmap;have own:∀b,bc.su ⟨cb,o,low,lowL,cc,cl,P,wl,fr,tcs,Sl.mk none 0 0,[],R.turns,false,V⟩ b->b=cb\/(∃t∈tcs,b=t.cb)\/V b:=by
    rintro b (u|u|⟨ad,f,_⟩|u)
    ·exact .inl u
    ·exact .inr (.inl u)
    ·cases f
    ·exact .inr (.inr u)
   have ep:∀b,bc.su ⟨cb,o,low,lowL,cc,cl,P,wl,fr,tcs,Sl.mk none 0 0,[],R.turns,false,V⟩ b->A.size<=b\/V b:=λb d=>by
    rcases own b d with u|⟨t,g,u⟩|u
    ·left;omega
    ·left;have:=(y t g).2.2.2.1;omega
    ·exact .inr u
   have O:∀b,A.size<=b->b≠cb->(∀t∈tcs,b≠t.cb)->¬R.X (bc.Z ⟨cb,o,low,lowL,cc,cl,P,wl,fr,tcs,Sl.mk none 0 0,[],R.turns,false,V⟩ F) b:=by
    rintro b gm fa fb ((u|u)|u)
    ·have:=h.ar.ar.lt b u;omega
    ·rcases own b u with v|⟨t,g,v⟩|v
     ·exact fa v
     ·exact fb t g v
     ·have:=(hE b v).1;omega
    ·have:=h.rel.lt b u;omega
   have c1:∀b,al cc b->A.size<=b/\b<H1.size:=λb d=>⟨f1 b d,(o1.block b d).2⟩;have c2:∀b,al P b->H1.size<=b/\b<H2.size:=λb d=>⟨f2 b d,(o2.block b d).2⟩;have gn:=h.ar.ext.size;have hZ:aW H0 B (bc.Z ⟨cb,o,low,lowL,cc,cl,P,wl,fr,tcs,Sl.mk none 0 0,[],R.turns,false,V⟩ F) p M R:=by
    refine(cB.fresh (X:=λb=>b=cb\/∃t∈tcs,b=t.cb) eB λb u=>?_).congr λb=>⟨λu=>?_,λu=>?_⟩
    ·rcases u with u|⟨t,g,u⟩
     ·omega
     ·have:=(y t g).2.2.2.1;omega
    ·rcases u with (u|u)|u|u
     ·exact .inl u
     ·exact .inr (.inr (.inr (.inr u)))
     ·exact .inr (.inl u)
     ·exact .inr (.inr (.inl u))
    ·rcases u with u|u
     ·exact .inl (.inl u)
     ·rcases own b u with v|v|v
      ·exact .inr (.inl v)
      ·exact .inr (.inr v)
      ·exact .inl (.inr v)
   refine hK ⟨cb,o,low,lowL,cc,cl,P,wl,fr,tcs,Sl.mk none 0 0,[],R.turns,false,V⟩ B ⟨hZ,rB,⟨a8,λad f=>?_⟩,⟨?_,λad f=>?_⟩,⟨?_,λad f=>?_⟩,⟨?_,λad f=>?_,oB.reads⟩,λt g=>?_,aA.nil _ _ _ _,λx hx=>(by cases hx),a7,λb d=>?_,λb d=>by have:=(hE b d).1;have:=eB.size;omega,λb d u=>?_⟩ eB ep rfl rfl rfl rfl rfl rfl rfl e0 b5 hmap λt g=>⟨(y t g).2.1,(y t g).2.2.1⟩
   ·have h1:=ec _ ⟨ad,f,rfl⟩;exact⟨by omega,O _ (by omega) (by omega) λt g e=>by have:=(y t g).2.2.2.1;omega⟩
   ·exact((((o1.ext e2).ext e3).ext eD).mod bs λb d u=>by have:=(c1 b d).2;omega).ints
   ·have h1:=c1 _ ⟨ad,f,rfl⟩;exact⟨by omega,O _ (by omega) (by omega) λt g e=>by have:=(y t g).2.2.2.1;omega⟩
   ·exact(((o2.ext e3).ext eD).mod bs λb d u=>by have:=(c2 b d).2;omega).ints
   ·have h1:=c2 _ ⟨ad,f,rfl⟩;exact⟨by omega,O _ (by omega) (by omega) λt g e=>by have:=(y t g).2.2.2.1;omega⟩
   ·have:=oB.1;simp at this ⊢;omega
   ·have h1:=fB _ ⟨ad,f,rfl⟩;exact⟨bA _ ⟨ad,f,rfl⟩,O _ (by omega) (by omega) λt g e=>((y t g).2.2.2.2.2.1 _ ⟨ad,f,rfl⟩).1 e⟩
   ·obtain⟨q1,q2,q3,q4,q5,q6,q7⟩:=y t g;refine⟨?_,by rw[q2,q3];exact q1,λad f=>?_⟩
    ·have:t.t∈tcs.map (·.t):=Ru g;rw[hmap] at this;obtain⟨q,hq,e⟩:=UA.1 this;exact ak.dj (c5 q hq) _ (Qi e)
    ·have h1:=q5 _ ⟨ad,f,rfl⟩;exact⟨(q1.off ad f).1,O _ (by omega) (by omega) λu hu e=>q7 u hu ⟨ad,f,e⟩⟩
   ·rcases own b d with u|⟨t,g,u⟩|u
    ·exact⟨λv=>by have:=h.ar.ar.lt b v;omega,by omega⟩
    ·have:=(y t g).2.2.2.1;exact⟨λv=>by have:=h.ar.ar.lt b v;omega,by omega⟩
    ·exact(hE b u).2
   ·have d:=(hE b d).1;rcases u with u|⟨t,g,u⟩|⟨ad,f,_⟩
    ·have u:b=cb:=u;omega
    ·have:=(y t g).2.2.2.1;omega
    ·cases f
 -- which order fits
 refine Mq T (hc.ext eB) (λo ho=>by rw[bE o ho];exact cF) (by omega) ho (λi hi Z a1=>?_) (λa1=>?_)
 ·refine ab.st rB (i:=1) (by simp[kG]) rfl λE0 b9 cm ff=>?_;have er:R.ords.getD i []=R.ords[i]:=by simp[QM,Qg hi]
  have hlen:=bE _ (Qn hi);refine⟨λ_ E=>∃low,ab E cb II (kG R.rb i low cc P (Sl.mk none 0 0) (Sl.mk none 0 0) R.turns false false)/\Mod (λb=>b=cb) D E/\Ints .u64 E low ((R.ords[i].take cl.length).map (iM cl wl))/\(∀b,al low b->D.size<=b/\b<E.size),?_,?_⟩
  ·refine aT rfl ?_;simp only[aw,add_add,SQ];have bC:=mB.trans cm;have et:=h.rel.grow (rel bC);refine ab.ld (c:=au) (i:=3) (x:=R.os) et.row rfl ?_;have hf:=mB.size;refine(h.rel.ords.old (rel bC)).ld hi rfl λad r _ ra hr fy=>?_;have hg:=hr.len;refine⟨⟨by omega,by omega⟩,?_⟩;have en:((cols.n:Int).toNat) - 0=cl.length - 0:=by omega
   rw[en];have e8:(R.ords[i].take cl.length).length=cl.length:=by rw[Qw];omega
   refine ay cl.length (λk z E=>z=(k:Int)/\∃low,ab E cb II (kG R.rb i low cc P (Sl.mk none 0 0) (Sl.mk none 0 0) R.turns false false)/\Mod (λb=>b=cb) E0 E/\aA E 0 gM 1 low ((((R.ords[i].take cl.length).take k).map (iM cl wl)).map (Ql .u64))/\(∀b,al low b->E0.size<=b)) ⟨rfl,Sl.mk none 0 0,b9,.refl _ _,aA.nil _ _ _ _,λb u=>(by obtain⟨ad,f,_⟩:=u;cases f)⟩ ?_;rintro k _ E cA hk ⟨rfl,low,rE,mE,oE,fE⟩ bD;have zE:=mE.size;have b3:=bC.trans mE;have eE:=rel b3;have fi:Ints .i64 E r R.ords[i]:=hr.mod mE λad f u=>by
    have h2:¬A.size<=ad.block:=(ra ad f).2;omega
   refine ao (λbg=>?_) (λbg=>?_)
   ·have fj:k<cl.length:=by
     have:(k:Int)<((cl.length - 0:Nat):Int):=by simpa using bg
     omega
    refine bM (fi.take (i:=cl.length) (by omega)) (i:=(k:Int)) (j:=k) rfl (by omega) λe7 _=>?_;refine⟨Ext E,.refl _ _,?_⟩;refine ab.bW (c:=au) (i:=2) (x:=low) (cs:=λ_=>kG R.rb i low cc P (Sl.mk none 0 0) (Sl.mk none 0 0) R.turns false false) (λD hD=>rE.ext hD) (λ_ _=>rfl) ?_;have hv:(R.ords[i].take cl.length).getD k 0∈cl:=by
     unfold jw at Z;rw[Rk] at Z;refine of_decide_eq_true (Z _ ?_);rw[QM,Qg (by omega)];exact Qn _
    refine vO (hc.ext eE) (by omega) (λj hj he eu=>⟨.refl _ _,?_⟩) (λu=>absurd hv u);refine bM (hw.ext eE) (i:=(j:Int)) (j:=j) rfl (by omega) λhh _=>?_;have fl:wl.getD j 0=iM cl wl ((R.ords[i].take cl.length).getD k 0):=by
     unfold iM;have:cl.findIdx (·==(R.ords[i].take cl.length).getD k 0)=j:=by
      rw[List.findIdx_eq hj];refine⟨?_,λa f=>?_⟩
      ·have:cl.getD j 0=cl[j]:=by simp[QM,Qg hj]
       rw[this] at he;simp[he]
      ·have h1:=eu a f;have:cl.getD a 0=cl[a]:=by simp[QM,Qg (show a<cl.length by omega)]
       rw[this] at h1;simpa using h1
     rw[this]
    rw[fl];refine⟨Mod.push (λ_=>False) E (.cells #[.int .u64 (iM cl wl ((R.ords[i].take cl.length).getD k 0))] gM),?_⟩;have hl:low.n=k:=by have:=oE.1;simp at this;omega
    have key:=jB.push (ty:=cv) (H:=E) (base:=0) (s:=low) (v:=.int .u64 (iM cl wl ((R.ords[i].take cl.length).getD k 0))) oE rfl (by omega) (by omega) (QN _)
     (K:=λs' G=>Go.Proofs.YtkehfflpbpdokaaGreatDoor.st G (QS ⟨cb,0,none⟩ 2) s'.v λG'=>cA (Qe.wrap ((k:Int)+(1:Int))) G')
    refine key λbl G n' oG mG bG _=>?_;have zG:=mG.size;have rG:=rE.mod mG λu=>by have:=fE _ u;omega
    refine ab.st rG (i:=2) (by simp[kG]) (by cases bl;rfl) λJ rJ mJ zJ=>?_;have fG:∀b,al bl b->E0.size<=b:=λb d=>by
     rcases bG b d with v|v
     ·exact fE b v
     ·omega
    refine bD fj _ _ ⟨aH k (by omega),bl,rJ,?_,?_,fG⟩
    ·refine⟨by omega,λb d ba=>?_⟩;rw[mJ.same b (by omega) ba,mG.same b (by omega) λu=>by have:=fE b u;omega];exact mE.same b d ba
    ·have e1:(R.ords[i].take cl.length).take (k+1)=(R.ords[i].take cl.length).take k++[(R.ords[i].take cl.length).getD k 0]:=by
      rw[RC,Qg (by omega)];simp[QM,Qg (show k<(R.ords[i].take cl.length).length by omega)]
     rw[e1,Q4,Q4];exact oG.mod mJ λb d u=>by have:=fG b d;omega
   ·have b8:k=cl.length:=by
     have:¬(k:Int)<((cl.length - 0:Nat):Int):=by simpa using bg
     omega
    subst b8;rw[Tg,Yu] at oE;exact⟨low,rE,b3,oE.ints,λb d=>⟨by have:=fE b d;have:=bC.size;omega,(oE.block b d).2⟩⟩
  ·rintro _ E ⟨low,rE,mE,il,lb⟩;refine tail i hi E low _ rE mE il (by rw[QI,Qw];omega) lb (.inl ⟨by rw[er];exact Z,λj hj=>?_,by rw[er]⟩);have:=a1 j hj;simpa[QM,Qg (show j<R.ords.length by omega)] using this
 ·refine ab.st rB (i:=1) (by simp[kG]) rfl λE0 b9 cm ff=>?_;refine⟨λ_ E=>E0=E,az rfl rfl,?_⟩;rintro _ _ rfl;exact tail 0 (by omega) E0 (Sl.mk none 0 0) [] b9 (mB.trans cm) ⟨rfl,Reads.nil _ _⟩ (by simp) (λb u=>by obtain⟨ad,f,_⟩:=u;cases f) (.inr ⟨a1,rfl,rfl⟩)
end
theorem CM {R:ak}(a:(R.all.map (·.k)).Nodup){t:Tx}(n:t∈R.all):R.up t.k t.L=R:=by
 have key:∀l:List Tx,(∀x∈l,x∈R.all)->l.map (Tx.up t.k t.L)=l:=λl o=>by
  have:l.map (Tx.up t.k t.L)=l.map id:=Rx λx b=>by
   unfold Tx.up;split
   ·rename_i e;obtain⟨i,hi⟩:=Qr.1 (o x b);obtain⟨j,d⟩:=Qr.1 n;have f:=(Qk.1 hi).1;have g:=(RM (l:=R.all.map (·.k)) (i:=i) (j:=j) (by simpa using f) a).1 (by rw[QC,QC,hi,d];simp[e]);subst g;rw[hi] at d;have:x=t:=Qq d;subst this;rfl
   ·rfl
  rw[this,XK]
 have h:∀q∈R.parts,q.up t.k t.L=q:=λq r=>by
  unfold aP.up;rw[key _ (ak.dj r)]
 unfold ak.up;rw[h R.f (by simp[ak.parts]),h R.d (by simp[ak.parts]),h R.e (by simp[ak.parts]),key R.ex λx b=>by unfold ak.all;simp[b]]
def TC.rest (t:TC):List (List Int):=t.t.L.filter (pq t.ll t.strict)
def lu (lowL:List Int)(t t':TC)(h':Option (List Int)):Prop:=
 t'.t=t.t/\t'.cb=t.cb/\((t.rest.head?=none/\t'.ll=t.ll/\t'.strict=t.strict/\h'=none)\/∃y,t.rest.head?=some y/\t'.ll=y/\t'.strict=true/\h'=if fR y lowL then some y else none)
def bc.with (C:bc)(tcs:List TC)(hs:List (Sl×Option (List Int))):bc:=⟨C.cb,C.order,C.low,C.lowL,C.cols,C.colsL,C.words,C.wordsL,C.fr,tcs,C.bH,hs,C.turns,C.begun,C.ext⟩
section
variable {H0 A B D:aa}{F F' X:Nat->Prop}{p dp Q U most m c:Nat}{s s':Pl}{M M':bd}{R:ak}{C:bc}{ll:List Int}
theorem cz.lt (h:cz H0 A F p M R C):∀b,C.su b->b<A.size:=by
 rintro b (rfl|⟨t,d,rfl⟩|a|a)
 ·exact aI h.row
 ·exact aI (h.tc t d).2.1.row
 ·exact(h.hd.block b a).2
 ·exact h.ext b a
theorem uE.step {Y b:Nat->Prop}{x:Sl×Option (List Int)}(h:uE Y A x)(S:Step Y b A B):uE b B x:=
 ⟨h.1,λy a=>⟨(h.2 y a).1,(h.2 y a).2.2.ints (h.2 y a).2.1 S,(h.2 y a).2.2.step S⟩⟩
theorem cz.Pj (h:cz H0 A F p M R C){t:TC}(a:t∈C.tcs):C.cb≠t.cb:=λe=>by
 have h1:=(h.tc t a).2.1.row;rw[<-e] at h1;exact absurd (aR h1 h.row) (by decide)
theorem cz.O6 (h:cz H0 A F p M R C){t:TC}(a:t∈C.tcs):¬al C.bH t.cb:=λu=>by
 obtain⟨cur,e⟩:=h.hd.obj _ u;exact absurd (aR e (h.tc t a).2.1.row) (by decide)
theorem cz.Pq (h:cz H0 A F p M R C):¬al C.bH C.cb:=λu=>by
 obtain⟨cur,e⟩:=h.hd.obj _ u;exact absurd (aR e h.row) (by decide)
theorem JO {C:bc}{i:Nat}{t t':TC}{hs:List (Sl×Option (List Int))}(hi:C.tcs[i]?=some t)(he:t'.cb=t.cb):(C.tcs.set i t').map (·.cb)=C.tcs.map (·.cb)/\(∀b,(C.with (C.tcs.set i t') hs).su b↔C.su b)/\∀b,(C.with (C.tcs.set i t') hs).th b↔C.th b:=by
 have hm:(C.tcs.set i t').map (·.cb)=C.tcs.map (·.cb):=by
  apply SU;intro j;rw[QC,QC,Rc];by_cases e:i=j
  ·subst e;have:=(Qk.1 hi).1;rw[if_pos rfl,if_pos this,hi];simp[he]
  ·rw[if_neg e]
 have key:∀{b:Nat} (l:List TC),(∃t∈l,b=t.cb)↔b∈l.map (·.cb):=λl=>by
  rw[QB];exact⟨λ⟨q,a,c⟩=>⟨q,a,c.symm⟩,λ⟨q,a,c⟩=>⟨q,a,c.symm⟩⟩
 refine⟨hm,λb=>?_,λb=>?_⟩
 ·unfold bc.su bc.with;simp only;rw[key,key,hm]
 ·unfold bc.th bc.with;simp only;rw[key,key,hm]
theorem cz.KV {i:Nat}{t t':TC}(h:cz H0 A F p M R C)(hi:C.tcs[i]?=some t)(T:t'.t=t.t)(I:t'.cb=t.cb)(S:Step (λb=>F b\/b=t.t.k\/b=t.cb) (λb=>F' b\/b=t.t.k\/b=t.cb) A B)(hk:¬F' t.t.k)(hT:dg B p M t.t.k t.t.n R.W t.t.L)(z:jZ B F' t.t.k t.cb t'.lo t'.ll t'.strict)(O:t'.lo=t.lo\/∀b,al t'.lo b->A.size<=b):
  cz H0 B F' p M R (C.with (C.tcs.set i t') C.hs)/\Step (R.X (C.Z0 F)) (R.X ((C.with (C.tcs.set i t') C.hs).Z0 F')) A B:=by
 have f:t∈C.tcs:=Qi hi;obtain⟨o,V,J⟩:=h.tc t f;obtain⟨hmap,a,g⟩:=JO (hs:=C.hs) hi I;have E:R.O t.t.k:=.inr (.inr ⟨_,o,rfl⟩);have r:=(h.rel.off _ E).1;have K:C.su t.cb:=.inr (.inl ⟨t,f,rfl⟩);have w:∀b,C.su b->¬F' b:=λb d u=>by
  rcases S.own b (.inl u) with (v|v|v)|v
  ·exact(h.off b d).1 v
  ·subst v;exact r (.inr d)
  ·subst v;exact z.cb.1 u
  ·have:=h.lt b d;omega
 have n:Step (R.X (C.Z F)) (R.X ((C.with (C.tcs.set i t') C.hs).Z F')) A B:=S.fK (λb u=>by
  rcases u with u|u|u
  ·exact .inl (.inl u)
  ·exact .inr (u▸E)
  ·exact .inl (.inr (u▸K))) λb u=>by
  rcases u with (u|u)|u
  ·exact .inr (.inl u)
  ·exact .inl (.inl (.inr ((a b).1 u)))
  ·exact .inl (.inr u)
 have S0:Step (R.X (C.Z0 F)) (R.X ((C.with (C.tcs.set i t') C.hs).Z0 F')) A B:=S.fK (λb u=>by
  rcases u with u|u|u
  ·exact .inl (.inl u)
  ·exact .inr (u▸E)
  ·exact .inl (.inr (.inr (.inl ⟨t,f,u⟩)))) λb u=>by
  rcases u with (u|u)|u
  ·exact .inr (.inl u)
  ·exact .inl (.inl (.inr ((g b).1 u)))
  ·exact .inl (.inr u)
 have rel:=h.rel.Cg (F':=(C.with (C.tcs.set i t') C.hs).Z F') (M':=M) o (S.fK (λb u=>by
  rcases u with u|u|u
  ·exact .inl (.inl u)
  ·exact .inr u
  ·exact .inl (.inr (u▸K))) λb u=>by
  rcases u with (u|u)|u
  ·exact .inr (.inl u)
  ·exact .inl (.inl (.inr ((a b).1 u)))
  ·exact .inl (.inr u)) (λu=>by
  rcases u with u|u
  ·exact hk u
  ·exact r (.inr ((a _).1 u))) hT (λ_ _=>rfl)
 rw[CM h.rel.ks o] at rel;have y:∀b,C.su b->b≠t.cb->B[b]?=A[b]?:=λb d e=>S.mod.same b (h.lt b d) λu=>by
  rcases u with u|u|u
  ·exact(h.off b d).1 u
  ·subst u;exact r (.inr d)
  ·exact e u
 have L:=h.Pj f;refine⟨⟨rel,(y _ (.inl rfl) L).trans h.row,⟨h.low.2.ints h.low.1 n,h.low.2.step n⟩,⟨h.cols.2.ints h.cols.1 n,h.cols.2.step n⟩,⟨h.words.2.ints h.words.1 n,h.words.2.step n⟩,?_,λu hu=>?_,?_,λx hx=>(h.hr x hx).step n,by rw[show (C.with (C.tcs.set i t') C.hs).tcs=C.tcs.set i t' from rfl,hmap];exact h.cbs,λb d=>⟨w b ((a b).1 d),(h.off b ((a b).1 d)).2⟩,λb d=>QP (h.ext b d) S.mod.size,λb d u=>h.sep b d ((g b).1 u)⟩,S0⟩
 ·have e:∀l:List TC,(l.map λt=>cG t.cb)=(l.map (·.cb)).map cG:=λl=>by rw[RE];rfl
  have:=h.fr.step n;rw[e] at this ⊢;rw[show (C.with (C.tcs.set i t') C.hs).tcs=C.tcs.set i t' from rfl,hmap];exact this
 ·have hu:u∈C.tcs.set i t':=hu;obtain⟨j,H⟩:=Qr.1 hu;rw[Rc] at H;by_cases e:i=j
  ·subst e;rw[if_pos rfl,if_pos (Qk.1 hi).1] at H;have:u=t':=(Qq H).symm;subst this;refine⟨T▸o,by rw[T,I];exact z,?_⟩;rcases O with e|e
   ·rw[e];exact J.step n
   ·intro ad W;have h1:=e _ ⟨ad,W,rfl⟩;obtain⟨o1,o2⟩:=z.off ad W;refine⟨o1,λx=>?_⟩;rcases x with (x|x)|x
    ·exact o2 (.inl x)
    ·have:=h.lt _ ((a _).1 x);omega
    ·have:=h.rel.lt _ x;omega
  ·rw[if_neg e] at H;have N:u∈C.tcs:=Qi H;obtain⟨Y,a2,a3⟩:=h.tc u N;have P:u.cb≠t.cb:=λq=>e ((RM (l:=C.tcs.map (·.cb)) (i:=i) (j:=j) (by simpa using (Qk.1 hi).1) h.cbs).1 (by rw[QC,QC,hi,H];simp[q]));have G:C.su u.cb:=.inr (.inl ⟨u,N,rfl⟩);have a4:=a3.step n;refine⟨Y,⟨(y _ G P).trans a2.row,a3.ints a2.ints n,a4.mono λb _ x=>?_,w _ G,a2.cb.2⟩,a4⟩;rcases x with x|x|x
   ·exact .inl (.inl x)
   ·exact .inr (x▸.inr (.inr ⟨_,Y,rfl⟩))
   ·exact .inl (.inr ((a b).2 (x▸G)))
 ·exact h.hd.mod S.mod λb d u=>by
   rcases u with u|u|u
   ·exact(h.off b (.inr (.inr (.inl d)))).1 u
   ·subst u;exact r (.inr (.inr (.inr (.inl d))))
   ·subst u;exact h.O6 f d
theorem cz.head {i:Nat}{x:Sl×Option (List Int)}(h:cz H0 A F p M R C)(j:aA B 0 cv 1 C.bH ((C.hs.set i x).map λh=>h.1.v))(d:Mod (al C.bH) A B)(n:uE (R.X (C.Z F)) B x):
  cz H0 B F p M R (C.with C.tcs (C.hs.set i x))/\Step (R.X (C.Z0 F)) (R.X ((C.with C.tcs (C.hs.set i x)).Z0 F)) A B:=by
 have f:Step (C.Z F) (C.Z F) A B:=⟨d.mono λb _ u=>.inr (.inr (.inr (.inl u))),λ_ u=>.inl u⟩;have a:Step (R.X (C.Z F)) (R.X (C.Z F)) A B:=Step.rel f;refine⟨⟨h.rel.ar f,h.row.mod d h.Pq,⟨h.low.2.ints h.low.1 a,h.low.2.step a⟩,⟨h.cols.2.ints h.cols.1 a,h.cols.2.step a⟩,⟨h.words.2.ints h.words.1 a,h.words.2.step a⟩,h.fr.step a,λu hu=>?_,j,λy e=>?_,h.cbs,h.off,λb o=>QP (h.ext b o) d.size,h.sep⟩,Step.rel (R:=R) (F:=C.Z0 F) (F':=C.Z0 F) ⟨d.mono λb _ u=>.inr (.inr (.inr u)),λ_ u=>.inl u⟩⟩
 ·obtain⟨q,a2,a3⟩:=h.tc u hu;refine⟨q,⟨a2.row.mod d (h.O6 hu),a3.ints a2.ints a,λad g=>⟨QP (a2.off ad g).1 d.size,(a2.off ad g).2⟩,a2.cb⟩,a3.step a⟩
 ·have e:y∈C.hs.set i x:=e;rcases Sz e with u|u
  ·exact(h.hr y u).step a
  ·rw[u];exact n
end
section
variable {H0 A B D:aa}{F F' X:Nat->Prop}{p dp Q U most m c:Nat}{s s':Pl}{M M':bd}{R:ak}{C:bc}{ll:List Int}
theorem cz.grow (h:cz H0 A F p M R C)(e:Ext A B):cz H0 B F p M R C:=by
 have a:Step (R.X (C.Z F)) (R.X (C.Z F)) A B:=Step.bX e;refine⟨h.rel.grow e,h.row.ext e,⟨h.low.1.ext e,h.low.2.step a⟩,⟨h.cols.1.ext e,h.cols.2.step a⟩,⟨h.words.1.ext e,h.words.2.step a⟩,h.fr.step a,λu hu=>?_,h.hd.ext e,λy d=>(h.hr y d).step a,h.cbs,h.off,λb f=>QP (h.ext b f) e.size,h.sep⟩;obtain⟨g,a2,a3⟩:=h.tc u hu;exact⟨g,a2.mod e id λ_ _=>id,a3.step a⟩
theorem aM.bH (h:aM H0 A F p dp s M Q U most m)(e:cz H0 A F p M R C)(d:Mod (al C.bH) A B):aM H0 B F p dp s M Q U most m:=
 h.aside ⟨QZ h.ext.size d.size,λb a _=>(d.same b (QP a h.ext.size) λu=>by have:=(e.off b (.inr (.inr (.inl u)))).2;omega).trans (h.ext.same b a id)⟩ λb a=>d.same b (h.ar.lt b a) λu=>(e.off b (.inr (.inr (.inl u)))).1 a
theorem xh (h:cz H0 A F p M R C):C.bH.n=C.hs.length:=by
 have:=h.hd.1;rw[QI] at this;omega
set_option maxHeartbeats 2000000 in
theorem CW {i:Nat}{t:TC}{K:Int->aa->Prop}(hP:aM H0 A F p dp s M Q U most m)(h:cz H0 A F p M R C)(hg:Gl H0)(hF:R.Fit)(hQ:Q<=1048576)(hm:m+1000000<=30000000000)(hi:C.tcs[i]?=some t)(bA:C.hs.length=C.tcs.length)
  (hK:∀F' s' t' h' B,aM H0 B F' p dp s' M Q U most (m+1000000)->cz H0 B F' p M R (C.with (C.tcs.set i t') (C.hs.set i h'))->lu C.lowL t t' h'.2->Step (R.X (C.Z0 F)) (R.X ((C.with (C.tcs.set i t') (C.hs.set i h')).Z0 F')) A B->K 0 B):Ip.sp (av C.cb) (i:Int) A K:=by
 refine Ip.of ?_;unfold Ip.vc;simp only[aw,av];refine ab.ld (c:=au) (i:=5) (x:=C.fr) h.row rfl ?_;have bB:=(Qk.1 hi).1;refine ja.ld (c:=aq) (x:=av t.cb) (i:=i) h.fr (by rw[QC,hi];rfl) rfl λad _=>?_;have P:t∈C.tcs:=Qi hi;obtain⟨n,ae,bC⟩:=h.tc t P;have af:R.O t.t.k:=.inr (.inr ⟨_,n,rfl⟩);have S:=h.rel.off _ af;have a1:C.su t.cb:=.inr (.inl ⟨t,P,rfl⟩);have hT:=h.rel.tr _ n;have d:mU (.slice none 0 0)=true:=rfl;refine hT.next hP hg ⟨λu=>S.1 (.inl u),S.2⟩ (h.off _ a1).2 (hF.nm h.rel n) hF.W (hF.rows _ n) hQ hm ae (λa6 T s1 B p1 T1 S1 k1 c1=>?_) (λy H T s1 B sl o p1 T1 S1 k1 c1 o1 f1=>?_)
 ·obtain⟨f,SY⟩:=h.KV (t':=t) hi rfl rfl S1 k1 T1 c1 (.inl rfl);refine ab.ld (c:=au) (i:=6) (x:=C.bH) f.row rfl ?_;have N:=xh f;have N:C.bH.n=C.hs.length:=N;refine aA.st f.hd (by omega) (by show (i:Int)<(C.bH.n:Int);omega) d λD V O zD=>?_;have I:aA D 0 cv 1 C.bH ((C.hs.set i (Sl.mk none 0 0,none)).map λh=>h.1.v):=by
   rw[Tq];rw[QD] at V;exact V
  obtain⟨a,q⟩:=f.head (i:=i) (x:=(Sl.mk none 0 0,none)) I O ⟨λ_=>rfl,λy H=>by cases H⟩;refine az rfl ?_;exact hK T s1 t (Sl.mk none 0 0,none) D (p1.bH f O) a ⟨rfl,rfl,.inl ⟨a6,rfl,rfl,rfl⟩⟩ (SY.trans q)
 ·obtain⟨f,SY⟩:=h.KV (t':=⟨t.t,t.cb,o,y,true⟩) hi rfl rfl S1 k1 T1 c1 (.inr f1.2);refine ab.ld (c:=au) (i:=6) (x:=C.bH) f.row rfl ?_;have N:=xh f;have N:C.bH.n=C.hs.length:=N;have bD:=S1.mod.size;refine aA.st f.hd (by omega) (by show (i:Int)<(C.bH.n:Int);omega) d λD V O zD=>?_;have I:aA D 0 cv 1 C.bH ((C.hs.set i (Sl.mk none 0 0,none)).map λh=>h.1.v):=by
   rw[Tq];rw[QD] at V;exact V
  obtain⟨a,q⟩:=f.head (i:=i) (x:=(Sl.mk none 0 0,none)) I O ⟨λ_=>rfl,λy H=>by cases H⟩;have pD:=p1.bH f O;refine aT rfl ?_;refine ab.ld (c:=au) (i:=2) (x:=C.low) a.row rfl ?_;have a7:y∈t.t.L:=by
   have:y∈t.t.L.filter (pq t.ll t.strict):=Ya H;exact(QL.1 this).1
  have bE:=(hT.rows y a7).1;have hW:=hF.W;have r:aA D 0 gM 1 sl (y.map (Ql .u64)):=o1.mod O λb w g=>by
   have h1:=(f1.1 b w).1;have h2:=h.lt b (.inr (.inr (.inl g)));omega
  refine xt r.ints a.low.1 r.cap (by omega) ?_;refine ao (λw=>?_) (λw=>?_)
  ·refine⟨Ext D,.refl _ _,?_⟩;refine ab.bW (c:=au) (i:=6) (x:=C.bH) (cs:=λ_=>kG R.rb C.order C.low C.cols C.words C.fr C.bH C.turns false C.begun) (λG hG=>a.row.ext hG) (λ_ _=>rfl) ?_;have bG:=r.ints.len;rw[show Qe.wrap ((sl.n:Int)+1)=((y.length+1:Nat):Int) by rw[wrap64 (by omega) (by omega)];omega];refine jB.make (base:=0) (by omega) (by omega) (by omega) (by omega) (QN _) λa8 E n2 o2 e2 b2 ba=>⟨e2,?_⟩;have b0:=e2.size;refine jB.append (base:=0) (s:=a8) (x:=sl) (xs:=[]) (ws:=y.map (Ql .u64)) o2 (by simp;omega) (r.ext e2).ints.reads (iy _ _) (by simp at n2;omega) (by simp at n2;omega) (QN _) λj G n3 o3 m3 b3 W=>?_;have eG:Ext D G:=((Ext.mod e2).trans m3).ext b2;refine⟨eG,?_⟩;have L:=a.grow eG;have b1:C.bH.n=(C.hs.set i (Sl.mk none 0 0,none)).length:=by rw[UI];exact N
   refine aA.st L.hd (by omega) (by show (i:Int)<(C.bH.n:Int);omega) (by cases j;rfl) λJ oJ mJ zJ=>?_;have f3:∀b,al j b->D.size<=b:=λb w=>by
    rcases b3 b w with v|v
    ·exact b2 b v
    ·omega
   have bg:aA J 0 cv 1 C.bH (((C.hs.set i (Sl.mk none 0 0,none)).set i (j,some y)).map λh=>h.1.v):=by
    rw[Tq];rw[QD] at oJ;exact oJ
   have Y:=a.lt;have i3:Ints .u64 J j y:=by
    have:aA J 0 gM 1 j (y.map (Ql .u64)):=by
     have:=o3.mod mJ λb w g=>by
      have h1:=f3 b w;have h2:=Y b (.inr (.inr (.inl g)));omega
     simpa using this
    exact this.ints
   obtain⟨bl,bs⟩:=L.head (i:=i) (x:=(j,some y)) bg mJ ⟨λu=>(by cases u),λz hz=>by
    have:z=y:=(Qq hz).symm;subst this;refine⟨λu=>ba (W.1 u).1,i3,λad ha=>⟨?_,λu=>?_⟩⟩
    ·have:=(o3.block _ ⟨ad,ha,rfl⟩).2;omega
    ·have h1:=f3 _ ⟨ad,ha,rfl⟩;rcases u with (u|u)|u
     ·have:=pD.ar.lt _ u;omega
     ·have:=a.lt _ u;omega
     ·have:=a.rel.lt _ u;omega⟩
   have e:(C.with (C.tcs.set i ⟨t.t,t.cb,o,y,true⟩) ((C.hs.set i (Sl.mk none 0 0,none)).set i (j,some y)))=C.with (C.tcs.set i ⟨t.t,t.cb,o,y,true⟩) (C.hs.set i (j,some y)):=by rw[List.set_set]
   have Z:cz H0 J T p M R (C.with (C.tcs.set i ⟨t.t,t.cb,o,y,true⟩) (C.hs.set i (j,some y))):=e▸bl;refine hK T s1 _ (j,some y) J ((pD.grow eG).bH L mJ) Z ⟨rfl,rfl,.inr ⟨y,H,rfl,rfl,?_⟩⟩ (((SY.trans q).trans (Step.bX eG)).trans bs);exact(if_pos (show fR y C.lowL=true from w)).symm
  ·refine hK T s1 _ (Sl.mk none 0 0,none) D pD a ⟨rfl,rfl,.inr ⟨y,H,rfl,rfl,?_⟩⟩ (SY.trans q);have g:fR y C.lowL=false:=w;exact(if_neg (by rw[g];simp)).symm
end
def bc.start (C:bc)(bH:Sl)(hs:List (Sl×Option (List Int))):bc:=⟨C.cb,C.order,C.low,C.lowL,C.cols,C.colsL,C.words,C.wordsL,C.fr,C.tcs,bH,hs,C.turns,true,C.ext⟩
structure jq (C C1:bc):Prop where
 begun:C1.begun=true
 cb:C1.cb=C.cb
 order:C1.order=C.order
 lowL:C1.lowL=C.lowL
 colsL:C1.colsL=C.colsL
 wordsL:C1.wordsL=C.wordsL
 turns:C1.turns=C.turns
 ext:C1.ext=C.ext
 len:C1.hs.length=C1.tcs.length
 old:C.begun=true->C1=C
 new:C.begun=false->C1.tcs.length=C.tcs.length/\∀(i:Nat) (t:TC),C.tcs[i]?=some t->∃(t':TC) (h':Sl×Option (List Int)),C1.tcs[i]?=some t'/\C1.hs[i]?=some h'/\lu C.lowL t t' h'.2
section
variable {H0 A B D:aa}{F F' X:Nat->Prop}{p dp Q U most m c:Nat}{s s':Pl}{M M':bd}{R:ak}{C:bc}{ll:List Int}
theorem cz.begin {sl:Sl}{n:Nat}(h:cz H0 A F p M R C)(z:C.bH=Sl.mk none 0 0)(j:∀b,F b->b<A.size)(hz:H0.size<=A.size)(E:aA B 0 cv 1 sl (QE n (Yb none 0 0)))(f:∀b,al sl b->A.size<=b)(g:Mod (λb=>b=C.cb) A B)
  (r:ab B C.cb II (kG R.rb C.order C.low C.cols C.words C.fr sl C.turns false true)):cz H0 B F p M R (C.start sl (QE n (Sl.mk none 0 0,none)))/\Step (R.X (C.Z0 F)) (R.X ((C.start sl (QE n (Sl.mk none 0 0,none))).Z0 F)) A B:=by
 have own:∀b,(C.start sl (QE n (Sl.mk none 0 0,none))).su b↔C.su b\/al sl b:=by
  intro b;unfold bc.su bc.start;simp only;have:¬al C.bH b:=by rw[z];rintro⟨ad,i,_⟩;cases i
  constructor
  ·rintro(u|u|u|u)
   ·exact .inl (.inl u)
   ·exact .inl (.inr (.inl u))
   ·exact .inr u
   ·exact .inl (.inr (.inr (.inr u)))
  ·rintro((u|u|u|u)|u)
   ·exact .inl u
   ·exact .inr (.inl u)
   ·exact absurd u this
   ·exact .inr (.inr (.inr u))
   ·exact .inr (.inr (.inl u))
 have o:(C.start sl (QE n (Sl.mk none 0 0,none))).Z F=λb=>C.Z F b\/al sl b:=by
  funext b;refine propext ?_;unfold bc.Z;rw[own b];exact⟨λu=>u.elim (λv=>.inl (.inl v)) λv=>v.elim (λw=>.inl (.inr w)) .inr,λu=>u.elim (λv=>v.elim .inl λw=>.inr (.inl w)) λw=>.inr (.inr w)⟩
 have t:Step (C.Z F) ((C.start sl (QE n (Sl.mk none 0 0,none))).Z F) A B:=by
  rw[o];exact⟨g.mono λb _ u=>.inr (.inl u),λb u=>u.imp id (f b)⟩
 have a:=Step.rel (R:=R) t;have G:Step (R.X (C.Z0 F)) (R.X ((C.start sl (QE n (Sl.mk none 0 0,none))).Z0 F)) A B:=Step.rel (R:=R) ⟨g.mono λb _ u=>.inr (.inl u),λb u=>by
  rcases u with u|u|u|u
  ·exact .inl (.inl u)
  ·exact .inl (.inr (.inl u))
  ·exact .inl (.inr (.inr (.inl u)))
  ·exact .inr (f b u)⟩
 refine⟨⟨h.rel.ar t,r,⟨h.low.2.ints h.low.1 a,h.low.2.step a⟩,⟨h.cols.2.ints h.cols.1 a,h.cols.2.step a⟩,⟨h.words.2.ints h.words.1 a,h.words.2.step a⟩,h.fr.step a,λu hu=>?_,?_,λx q=>?_,h.cbs,λb d=>?_,λb d=>QP (h.ext b d) g.size,λb d u=>?_⟩,G⟩
 ·obtain⟨H,a2,a3⟩:=h.tc u hu;exact⟨H,⟨a2.row.mod g (λe=>h.Pj hu e.symm),a3.ints a2.ints a,λad i=>⟨QP (a2.off ad i).1 g.size,(a2.off ad i).2⟩,a2.cb⟩,a3.step a⟩
 ·have:(C.start sl (QE n (Sl.mk none 0 0,none))).hs.map (λh=>h.1.v)=QE n (Yb none 0 0):=by
   show (QE n ((Sl.mk none 0 0:Sl),(none:Option (List Int)))).map _=_;rw[UE]
  rw[this];exact E
 ·have q:x∈QE n ((Sl.mk none 0 0:Sl),(none:Option (List Int))):=q;rw[Vi q];exact⟨λ_=>rfl,λy I=>by cases I⟩
 ·rcases (own b).1 d with u|u
  ·exact h.off b u
  ·exact⟨λv=>by have:=j b v;have:=f b u;omega,by have:=f b u;omega⟩
 ·rcases u with u|u|u
  ·exact h.sep b d (.inl u)
  ·exact h.sep b d (.inr (.inl u))
  ·have:=h.ext b d;have:=f b u;omega
def OD (hs:List (Sl×Option (List Int)))(n:Nat)(b:Int):Prop:=
 (b=-1/\∀i,i<n->∀x,hs[i]?=some x->x.2=none)\/∃(j:Nat) (r:Sl) (y:List Int),b=(j:Int)/\j<n/\hs[j]?=some (r,some y)/\∀i,i<n->∀x l,hs[i]?=some x->x.2=some l->¬aL l y<0
theorem ja.Oe {Y:Nat->Prop}{e:TypeId}{sl:Sl}{vs:List Value}(a:aA A 0 e 1 sl vs)(f:∀b,al sl b->¬Y b):ja Y A sl vs:=
 ⟨by have:=a.1;omega,λad d=>⟨(a.block _ ⟨ad,d,rfl⟩).2,f _ ⟨ad,d,rfl⟩⟩,a.reads⟩
set_option maxHeartbeats 2000000 in
theorem sv {K:(Sl×Int)->aa->Prop}(hP:aM H0 A F p dp s M Q U most m)(h:cz H0 A F p M R C)(hg:Gl H0)(hF:R.Fit)(hQ:Q<=1048576)(hm:m+1000000<=30000000000)(bg:C.hs.length=C.tcs.length)(Y:C.hs.length<=1000)
  (ae:∀x∈C.hs,∀y,x.2=some y->y.length<=1000)
  (bl:(∀x∈C.hs,x.2=none)->K (Sl.mk none 0 0,0) A)
  (bs:∀i y t r F' s' t' h' B,C.tcs[i]?=some t->C.hs[i]?=some (r,some y)->(∀x∈C.hs,∀l,x.2=some l->¬aL l y<0)->aM H0 B F' p dp s' M Q U most (m+1000000)->cz H0 B F' p M R (C.with (C.tcs.set i t') (C.hs.set i h'))->lu C.lowL t t' h'.2->Ints .u64 B r y->iL (R.X ((C.with (C.tcs.set i t') (C.hs.set i h')).Z F')) B r->r.a≠none->Step (R.X (C.Z0 F)) (R.X ((C.with (C.tcs.set i t') (C.hs.set i h')).Z0 F')) A B->K (r,0) B):
  ah (av C.cb) λbA=>Go.Proofs.YtkehfflpbpdokaaGreatDoor.ld au A (bA.add 6) λ(O:Sl)=>aF (Int×Int) ((-1:Int),(0:Int)) A λn d J=>br (decide (d.2<(O.n:Int))) (ah O.a λbB=>(0<=d.2/\d.2<(O.n:Int))/\Go.Proofs.YtkehfflpbpdokaaGreatDoor.ld au J (bB.add (d.2.toNat*1)) λ(l:Sl)=>br ((!l.a.isNone)==true) (br (decide (d.1<(0:Int))) (n (d.2,Qe.wrap (d.2+(1:Int))) J) (ah (av C.cb) λbC=>Go.Proofs.YtkehfflpbpdokaaGreatDoor.ld au J (bC.add 6) λ(af:Sl)=>ah af.a λbD=>(0<=d.1/\d.1<(af.n:Int))/\Go.Proofs.YtkehfflpbpdokaaGreatDoor.ld au J (bD.add (d.1.toNat*1)) λ(bE:Sl)=>tN.sp l bE J λ(r:Int) H8=>br (decide (r<(0:Int))) (n (d.2,Qe.wrap (d.2+(1:Int))) H8) (n (d.1,Qe.wrap (d.2+(1:Int))) H8))) (n (d.1,Qe.wrap (d.2+(1:Int))) J)) (br (decide (d.1<(0:Int))) (K ((Sl.mk none 0 0),(0:Int)) J) (ah (av C.cb) λbG=>Go.Proofs.YtkehfflpbpdokaaGreatDoor.ld au J (bG.add 6) λ(a1:Sl)=>ah a1.a λa6=>(0<=d.1/\d.1<(a1.n:Int))/\Go.Proofs.YtkehfflpbpdokaaGreatDoor.ld au J (a6.add (d.1.toNat*1)) λ(b0:Sl)=>Ip.sp (av C.cb) d.1 J λ(b1:Int) H9=>K (b0,b1) H9)):=by
 simp only[aw,av];refine ab.ld (c:=au) (i:=6) (x:=C.bH) h.row rfl ?_;have hn:=xh h;have P:ja (λ_=>False) A C.bH (C.hs.map λh=>h.1.v):=ja.Oe h.hd λ_ _=>id;have at':∀{i:Nat} {x:Sl×Option (List Int)},C.hs[i]?=some x->(C.hs.map λh=>h.1.v)[i]?=some (au.enc x.1):=λ{i x} e=>by rw[QC,e];rfl
 refine ay C.hs.length (λi z B=>z.2=(i:Int)/\A=B/\OD C.hs i z.1) ⟨rfl,rfl,.inl ⟨rfl,λi hi=>by omega⟩⟩ ?_;rintro i ⟨b,_⟩ _ next hi ⟨rfl,rfl,hb⟩ w
 dsimp only at hb ⊢;refine ao (λS=>?_) (λS=>?_)
 ·have H:i<C.hs.length:=by
   have:(i:Int)<(C.bH.n:Int):=by simpa using S
   omega
  obtain⟨⟨r,o⟩,G⟩:∃x,C.hs[i]?=some x:=⟨_,Qg H⟩;refine ja.ld (c:=au) (x:=r) (i:=i) P (at' G) rfl λad _=>?_;have a7:=Qi G;have a8:=h.hr _ a7;cases o with
  |none=>
    have b3:r.a=none:=a8.1 rfl;refine az (by rw[b3];rfl) ?_;refine w H _ _ ⟨aH i (by omega),rfl,?_⟩;rcases hb with ⟨e,I⟩|⟨j,r2,y,e,hj,E,u⟩
    ·refine .inl ⟨e,λa L x f=>?_⟩;by_cases q:a=i
     ·subst q;rw[G] at f;rw[<-Qq f]
     ·exact I a (by omega) x f
    ·refine .inr ⟨j,r2,y,e,by omega,E,λa L x l f Y=>?_⟩;by_cases q:a=i
     ·subst q;rw[G] at f;rw[<-Qq f] at Y;cases Y
     ·exact u a (by omega) x l f Y
  |some l=>
    obtain⟨q1,q2,q3⟩:=a8.2 l rfl;have b4:r.a.isNone=false:=by
     cases b5:r.a with
     |none=>exact absurd b5 q1
     |some _=>rfl
    refine aT (by rw[b4];rfl) ?_;rcases hb with ⟨e,I⟩|⟨j,r2,y,e,hj,E,u⟩
    ·subst e;refine aT rfl ?_;refine w H _ _ ⟨aH i (by omega),rfl,.inr ⟨i,r,l,rfl,by omega,G,λa L x T f g=>?_⟩⟩;by_cases q:a=i
     ·subst q;rw[G] at f;rw[<-Qq f] at g;have:l=T:=Qq g;subst this;exact bQ l
     ·rw[I a (by omega) x f] at g;cases g
    ·subst e;refine az (by simp) ?_;refine ab.ld (c:=au) (i:=6) (x:=C.bH) h.row rfl ?_;refine ja.ld (c:=au) (x:=r2) (i:=j) P (at' E) rfl λb6 _=>?_;have V:=Qi E;obtain⟨w1,w2,w3⟩:=(h.hr _ V).2 y rfl;refine dK q2 w2 (by have:=ae _ a7 l rfl;omega) ?_;refine ao (λW=>?_) (λW=>?_)
     ·have W:aL l y<0:=of_decide_eq_true W;refine w H _ _ ⟨aH i (by omega),rfl,.inr ⟨i,r,l,rfl,by omega,G,λa L x T f g N=>?_⟩⟩;by_cases q:a=i
      ·subst q;rw[G] at f;rw[<-Qq f] at g;have:l=T:=Qq g;subst this;exact bQ l N
      ·exact u a (by omega) x T f g (bp N W)
     ·have W:¬aL l y<0:=of_decide_eq_false W;refine w H _ _ ⟨aH i (by omega),rfl,.inr ⟨j,r2,y,rfl,by omega,E,λa L x T f g=>?_⟩⟩;by_cases q:a=i
      ·subst q;rw[G] at f;rw[<-Qq f] at g;have:l=T:=Qq g;subst this;exact W
      ·exact u a (by omega) x T f g
 ·have b7:i=C.hs.length:=by
   have:¬(i:Int)<(C.bH.n:Int):=by simpa using S
   omega
  subst b7;rcases hb with ⟨e,I⟩|⟨j,r2,y,e,hj,E,u⟩
  ·subst e;refine aT rfl (bl λx G=>?_);obtain⟨a,L⟩:=Qr.1 G;exact I a (Qk.1 L).1 x L
  ·subst e;refine az (by simp) ?_;refine ab.ld (c:=au) (i:=6) (x:=C.bH) h.row rfl ?_;refine ja.ld (c:=au) (x:=r2) (i:=j) P (at' E) rfl λb6 _=>?_;have V:=Qi E;obtain⟨w1,w2,w3⟩:=(h.hr _ V).2 y rfl;have ba:C.tcs[j]?=some C.tcs[j]:=Qg (by omega);refine CW hP h hg hF hQ hm ba bg λF' s' t' h' B p1 c1 pt S1=>?_;refine bs j y C.tcs[j] r2 F' s' t' h' B ba E (λx G l Y=>?_) p1 c1 pt (w3.ints w2 (S1.full rfl)) (w3.step (S1.full rfl)) w1 S1;obtain⟨a,L⟩:=Qr.1 G;exact u a (Qk.1 L).1 x l L Y
end
section
variable {H0 A B D:aa}{F F' X:Nat->Prop}{p dp Q U most m c:Nat}{s s':Pl}{M M':bd}{R:ak}{C:bc}{ll:List Int}
structure NX (C C1:bc)(i:Nat):Prop where
 same:∃tcs hs,C1=C.with tcs hs/\tcs.length=C.tcs.length/\hs.length=C.tcs.length
 done:∀(j:Nat) (t:TC),j<i->C.tcs[j]?=some t->∃(t':TC) (h':Sl×Option (List Int)),C1.tcs[j]?=some t'/\C1.hs[j]?=some h'/\lu C.lowL t t' h'.2
 left:∀(j:Nat),i<=j->C1.tcs[j]?=C.tcs[j]?
set_option maxHeartbeats 2000000 in
theorem zy {w:Nat}{K:(Sl×Int)->aa->Prop}(N:aM H0 A F p dp s M Q U most m)(h:cz H0 A F p M R C)(hg:Gl H0)(hF:R.Fit)(hQ:Q<=1048576)(hw:w=1000000)(hm:m+w*(C.tcs.length+1)<=30000000000)(ht:C.tcs.length<=1000)
  (a6:(C.begun=true/\C.hs.length=C.tcs.length)\/(C.begun=false/\C.bH=Sl.mk none 0 0)) (T:∀x∈C.hs,∀y,x.2=some y->y.length<=1000)
  (a7:∀C1 F' s' B,jq C C1->(∀x∈C1.hs,x.2=none)->aM H0 B F' p dp s' M Q U most (m+w*(C.tcs.length+1))->cz H0 B F' p M R C1->Step (R.X (C.Z0 F)) (R.X (C1.Z0 F')) A B->K (Sl.mk none 0 0,0) B)
  (a8:∀C1 i y t r F' s' t' h' B,jq C C1->C1.tcs[i]?=some t->C1.hs[i]?=some (r,some y)->(∀x∈C1.hs,∀l,x.2=some l->¬aL l y<0)->aM H0 B F' p dp s' M Q U most (m+w*(C.tcs.length+1))->cz H0 B F' p M R (C1.with (C1.tcs.set i t') (C1.hs.set i h'))->lu C1.lowL t t' h'.2->Ints .u64 B r y->iL (R.X ((C1.with (C1.tcs.set i t') (C1.hs.set i h')).Z F')) B r->r.a≠none->Step (R.X (C.Z0 F)) (R.X ((C1.with (C1.tcs.set i t') (C1.hs.set i h')).Z0 F')) A B->K (r,0) B):KX.sp (av C.cb) A K:=by
 have bE:w*(C.tcs.length+1)=w*C.tcs.length+w:=Vl _ _;refine KX.of ?_;unfold KX.vc
 -- where the ways meet
 refine⟨λ_ B=>∃C1 F' s',jq C C1/\aM H0 B F' p dp s' M Q U most (m+w*C.tcs.length)/\cz H0 B F' p M R C1/\Step (R.X (C.Z0 F)) (R.X (C1.Z0 F')) A B/\C1.tcs.length=C.tcs.length/\(∀x∈C1.hs,∀y,x.2=some y->y.length<=1000),?_,?_⟩
 ·refine aY _ rfl ?_;refine ab.ld (c:=aC) (i:=9) (x:=C.begun) h.row rfl ?_;rcases a6 with ⟨a,hlen⟩|⟨a,ba⟩
  ·refine az (by rw[a];rfl) ?_;exact⟨C,F,s,⟨a,rfl,rfl,rfl,rfl,rfl,rfl,rfl,hlen,λ_=>rfl,λu=>by rw[a] at u;cases u⟩,N.later (by omega),h,Step.refl _ _,rfl,T⟩
  ·refine aT (by rw[a];rfl) ?_;simp only[aw,av];refine ab.st h.row (i:=9) (by simp[kG]) rfl λA1 r1 m1 z1=>?_;refine ab.ld (c:=au) (i:=5) (x:=C.fr) r1 rfl ?_;have bg:=h.fr.len;rw[QI] at bg;refine wE.make (base:=0) (by omega) (by omega) (by omega) (by omega) (QN _) λsl A2 n2 o2 e2 b2 _=>?_;refine ab.st (r1.ext e2) (i:=6) (by simp[kG]) (by cases sl;rfl) λA3 r3 m3 z3=>?_;refine ab.ld (c:=au) (i:=5) (x:=C.fr) r3 rfl ?_;have V:=N.ar.lt;have bG:=h.lt _ (.inl rfl);have bl:=h.off _ (.inl rfl);have z2:=e2.size;have m13:Mod (λb=>b=C.cb) A A3:=(m1.trans e2.mod).trans m3;have o3:aA A3 0 cv 1 sl (QE C.tcs.length (Yb none 0 0)):=by
    have:=o2.mod m3 λb a u=>by have:=b2 b a;omega
    rw[show ((C.fr.n:Int)).toNat=C.tcs.length by omega] at this;exact this
   obtain⟨cm,SY⟩:=h.begin ba V N.ext.size o3 (λb a=>by have:=b2 b a;omega) m13 r3;have p3:aM H0 A3 F p dp s M Q U most m:=N.aside ⟨by have:=N.ext.size;omega,λb a _=>(m13.same b (by have:=N.ext.size;omega) (by omega)).trans (N.ext.same b a id)⟩ λb a=>m13.same b (V b a) λu=>bl.1 (u▸a);refine ay C.tcs.length (λi z B=>z=(i:Int)/\∃C1 F' s',NX (C.start sl (QE C.tcs.length (Sl.mk none 0 0,none))) C1 i/\aM H0 B F' p dp s' M Q U most (m+w*i)/\cz H0 B F' p M R C1/\Step (R.X (C.Z0 F)) (R.X (C1.Z0 F')) A B/\(∀x∈C1.hs,∀y,x.2=some y->y.length<=1000)) ⟨rfl,_,F,s,⟨⟨C.tcs,_,rfl,rfl,by rw[List.length_replicate];rfl⟩,λj t W=>(by omega),λ_ _=>rfl⟩,p3,cm,SY,λx O y H=>?_⟩ ?_
   ·have O:x∈QE C.tcs.length ((Sl.mk none 0 0:Sl),(none:Option (List Int))):=O;rw[Vi O] at H;cases H
   rintro i _ B next hi ⟨rfl,C1,F1,s1,⟨⟨tcs,hs,d,L,l2⟩,n,o⟩,p1,c1,Y,I⟩ P
   have L:tcs.length=C.tcs.length:=L;have l2:hs.length=C.tcs.length:=l2;refine ao (λS=>?_) (λS=>?_)
   ·have g:i<C.tcs.length:=by
     have:(i:Int)<(C.fr.n:Int):=by simpa using S
     omega
    have J:C1.tcs[i]?=some C.tcs[i]:=by
     rw[o i (Qm _)];exact Qg g
    have bs:C1.cb=C.cb:=by rw[d];rfl
    have ae:C1.lowL=C.lowL:=by rw[d];rfl
    have f:C1.tcs=tcs:=by rw[d];rfl
    have v:C1.hs=hs:=by rw[d];rfl
    rw[<-bs];have b0:w*(i+1)=w*i+w:=Vl _ _;have b1:w*(i+1)<=w*C.tcs.length:=Sk _ g;refine CW p1 c1 hg hF hQ (by omega) J (by rw[f,v,L,l2]) λF2 s2 t' h' D p2 c2 pt S2=>?_;refine az rfl ?_;have bA:C.tcs[i]∈C1.tcs:=Qi J;refine P g _ _ ⟨aH i (by omega),_,F2,s2,⟨⟨C1.tcs.set i t',C1.hs.set i h',by rw[d];rfl,by rw[UI,f];exact L,by rw[UI,v];exact l2⟩,λj t W E=>?_,λj W=>?_⟩,p2.later (by omega),c2,Y.trans S2,λx O y H=>?_⟩
    ·by_cases e:j=i
     ·subst e;have:t=C.tcs[j]:=by
       have E:C.tcs[j]?=some t:=E;rw[Qg g] at E;exact(Qq E).symm
      subst this;refine⟨t',h',?_,?_,by rw[ae] at pt;exact pt⟩
      ·show (C1.tcs.set j t')[j]?=_;rw[Rc,if_pos rfl,if_pos (by rw[f,L];exact g)]
      ·show (C1.hs.set j h')[j]?=_;rw[Rc,if_pos rfl,if_pos (by rw[v,l2];exact g)]
     ·obtain⟨t2,h2,a1,a2,a3⟩:=n j t (by omega) E;refine⟨t2,h2,?_,?_,a3⟩
      ·show (C1.tcs.set i t')[j]?=_;rw[Rc,if_neg (by omega)];exact a1
      ·show (C1.hs.set i h')[j]?=_;rw[Rc,if_neg (by omega)];exact a2
    ·show (C1.tcs.set i t')[j]?=_;rw[Rc,if_neg (by omega)];exact o j (by omega)
    ·have O:x∈C1.hs.set i h':=O;rcases Sz O with u|u
     ·exact I x u y H
     ·subst u;obtain⟨_,_,q|⟨z,q1,q2,q3,q4⟩⟩:=pt
      ·rw[q.2.2.2] at H;cases H
      ·rw[q4] at H;split at H
       ·have:z=y:=Qq H;subst this;have hz:z∈C.tcs[i].t.L:=(QL.1 (Ya q1)).1;have:=((c1.rel.tr _ (c1.tc _ bA).1).rows z hz).1;have:=hF.W;omega
       ·cases H
   ·have bB:i=C.tcs.length:=by
     have:¬(i:Int)<(C.fr.n:Int):=by simpa using S
     omega
    subst bB;have f:C1.tcs=tcs:=by rw[d];rfl
    have v:C1.hs=hs:=by rw[d];rfl
    refine⟨C1,F1,s1,⟨by rw[d];rfl,by rw[d];rfl,by rw[d];rfl,by rw[d];rfl,by rw[d];rfl,by rw[d];rfl,by rw[d];rfl,by rw[d];rfl,by rw[f,v,L,l2],λu=>(by rw[a] at u;cases u),λ_=>⟨by rw[f,L],λj t W=>n j t (Qk.1 W).1 W⟩⟩,p1,c1,Y,by rw[f,L],I⟩
 ·rintro _ B ⟨C1,F1,s1,G,p1,c1,Y,b3,I⟩;have key:=sv (K:=K) p1 c1 hg hF hQ (by omega) G.len (by rw[G.len];omega) I
   (λbC=>a7 C1 F1 s1 B G bC (p1.later (by omega)) c1 Y)
   (λi y t r F' s' t' h' D J bD af p2 c2 pt ir ro rn S2=>a8 C1 i y t r F' s' t' h' D G J bD af (p2.later (by omega)) c2 pt ir ro rn (Y.trans S2))
  rw[G.cb] at key;exact key
end
def eS (W:Nat)(o l:List Int):Nat->List Int
 |0=>QE W 0
 |i+1=>(eS W o l i).set (o.getD i 0).toNat (l.getD i 0)
section
variable {H0 A B D:aa}{F F' X:Nat->Prop}{p dp Q U most m c:Nat}{s s':Pl}{M M':bd}{R:ak}{C:bc}{ll:List Int}{l:Sl}
theorem Ay {i:Nat}{K:Sl->aa->Prop}(h:aW H0 A F p M R)(w:Ints .u64 A l ll)(hi:i<R.ords.length)(hW:R.W<=16)(ho:R.ords[i].length=R.W)(G:ll.length=R.W)(H:∀x∈R.ords[i],0<=x/\x<(R.W:Int))
  (I:∀out B,aA B 0 gM 1 out ((eS R.W R.ords[i] ll R.W).map (Ql .u64))->Ext A B->(∀b,al out b->A.size<=b)->K out B):LG.sp (some ⟨R.rb,0,none⟩) l (i:Int) A K:=by
 refine LG.of ?_;unfold LG.vc;simp only[aw];refine ab.ld (c:=ai .i64) (i:=2) (x:=(R.W:Int)) h.row rfl ?_;refine jB.make (base:=0) (by omega) (by omega) (by omega) (by omega) (QN _) λout J L o1 g o _=>?_;have h1:=h.grow g;refine ab.ld (c:=au) (i:=3) (x:=R.os) h1.row rfl ?_;refine(h.ords.old g).ld hi rfl λad r _ N hr _=>?_;have O:=hr.len;have P:=w.len;have S:out.n=R.W:=by rw[L];omega
 refine ay R.W (λk z B=>z=(k:Int)/\aA B 0 gM 1 out ((eS R.W R.ords[i] ll k).map (Ql .u64))/\Mod (al out) J B) ⟨rfl,by
  have e:(eS R.W R.ords[i] ll 0).map (Ql .u64)=QE ((R.W:Int).toNat) (Ql .u64 0):=by
   show (QE R.W (0:Int)).map _=_;rw[UE,QD]
  rw[e];exact o1,.refl _ _⟩ ?_
 rintro k _ B next hk ⟨rfl,y,n⟩ d
 have zB:=n.size;have z1:=g.size;have E:Ext A B:=((Ext.mod g).trans n).ext o;refine ao (λf=>?_) (λf=>?_)
 ·have q:k<R.W:=by
   have:(k:Int)<(r.n:Int):=by simpa using f
   omega
  have t:Ints .i64 B r R.ords[i]:=hr.mod n λa T u=>by
   have V:¬A.size<=a.block:=(N a T).2;exact V (o _ u)
  refine bM t (i:=(k:Int)) (j:=k) rfl (by omega) λW _=>?_;refine bM (w.ext E) (i:=(k:Int)) (j:=k) rfl (by omega) λY _=>?_;have Z:R.ords[i].getD k 0∈R.ords[i]:=by
   rw[QM,Qg (by omega)];exact Qn _
  obtain⟨x0,x1⟩:=H _ Z;refine aA.st y x0 (by omega) rfl λD oD mD zD=>?_;refine d q _ _ ⟨aH k (by omega),?_,n.trans mD⟩;have e:(eS R.W R.ords[i] ll (k+1)).map (Ql .u64)=((eS R.W R.ords[i] ll k).map (Ql .u64)).set (R.ords[i].getD k 0).toNat (.int .u64 (ll.getD k 0)):=by
   show ((eS R.W R.ords[i] ll k).set _ _).map _=_;rw[Tq]
  rw[e];exact oD
 ·have v:k=R.W:=by
   have:¬(k:Int)<(r.n:Int):=by simpa using f
   omega
  subst v;exact I out B y E o
set_option maxHeartbeats 2000000 in
theorem Bm {w:Nat}{K:(Sl×Bool×Int)->aa->Prop}(hP:aM H0 A F p dp s M Q U most m)(h:cz H0 A F p M R C)(hg:Gl H0)(hF:R.Fit)(hQ:Q<=1048576)(hw:w=1000000)(hm:m+w*(C.tcs.length+1)<=30000000000)(ht:C.tcs.length<=1000)(J:C.turns=R.turns)(L:C.order<R.ords.length)(g:R.ords[C.order].length=R.W)(j:∀x∈R.ords[C.order],0<=x/\x<(R.W:Int))(N:C.colsL.length<=1000)
  (O:(C.begun=true/\C.hs.length=C.tcs.length)\/(C.begun=false/\C.bH=Sl.mk none 0 0)) (n:∀x∈C.hs,∀y,x.2=some y->y.length<=1000)
  (o:∀C1,jq C C1->∀x∈C1.hs,∀y,x.2=some y->y.length=R.W/\bk (eS R.W R.ords[C.order] y R.W) C.colsL=C.wordsL)
  (P:∀C1 F' s' B,jq C C1->(∀x∈C1.hs,x.2=none)->aM H0 B F' p dp s' M Q U most (m+w*(C.tcs.length+1))->cz H0 B F' p M R C1->Step (R.X (C.Z0 F)) (R.X (C1.Z0 F')) A B->K (Sl.mk none 0 0,false,0) B)
  (S:∀C1 i y t r F' s' t' h' out B,jq C C1->C1.tcs[i]?=some t->C1.hs[i]?=some (r,some y)->(∀x∈C1.hs,∀l,x.2=some l->¬aL l y<0)->aM H0 B F' p dp s' M Q U most (m+w*(C.tcs.length+1))->cz H0 B F' p M R (C1.with (C1.tcs.set i t') (C1.hs.set i h'))->lu C1.lowL t t' h'.2->aA B 0 gM 1 out ((eS R.W R.ords[C.order] y R.W).map (Ql .u64))->(∀b,al out b->A.size<=b/\¬R.X ((C1.with (C1.tcs.set i t') (C1.hs.set i h')).Z F') b)->Step (R.X (C.Z0 F)) (R.X ((C1.with (C1.tcs.set i t') (C1.hs.set i h')).Z0 F')) A B->K (out,true,0) B):vD.sp (av C.cb) A K:=by
 refine vD.of ?_;unfold vD.vc;refine az rfl ?_;simp only[aw,av];refine ab.ld (c:=aq) (i:=0) (x:=av R.rb) h.row rfl ?_;refine kg h.rel.row ?_;refine az rfl ?_;refine ab.ld (c:=aC) (i:=8) (x:=false) h.row rfl ?_;refine az rfl ?_;refine ab.ld (c:=ai .i64) (i:=7) (x:=(C.turns:Int)) h.row rfl ?_;refine ab.ld (c:=aq) (i:=0) (x:=av R.rb) h.row rfl ?_;simp only[aw,av];refine ab.ld (c:=ai .i64) (i:=10) (x:=(R.turns:Int)) h.rel.row rfl ?_;refine az (by rw[J];simp) ?_;refine ay 0 (λ_ _ B=>A=B) rfl ?_;rintro _ _ _ next _ rfl _
 refine zy hP h hg hF hQ hw hm ht O n (λC1 T s1 B a V p1 c1 H=>?_) (λC1 i y t r T s1 t' h' B a W q v p1 c1 pt ir ro rn H=>?_)
 ·refine az rfl ?_;refine aT rfl ?_;have d:=c1.row;rw[a.cb] at d;refine ab.ld (c:=aq) (i:=0) (x:=av R.rb) d rfl ?_;refine aY _ rfl ?_;refine pz ?_;exact P C1 T s1 B a V p1 c1 H
 ·refine az rfl ?_;have Y:r.a.isNone=false:=by
   cases ae:r.a with
   |none=>exact absurd ae rn
   |some _=>rfl
  refine az Y ?_;obtain⟨y1,y2⟩:=o C1 a _ (Qi q) y rfl;have d:=c1.row;have af:(C1.with (C1.tcs.set i t') (C1.hs.set i h')).cb=C.cb:=a.cb;rw[af] at d;refine ab.ld (c:=aq) (i:=0) (x:=av R.rb) d rfl ?_;refine aY _ rfl ?_;refine ab.ld (c:=ai .i64) (i:=1) (x:=(C.order:Int)) d (by show some (Ql .i64 (C1.order:Int))=_;rw[a.order]) ?_;refine Ay c1.rel ir L hF.W g y1 j λout D oD eD fD=>?_;have c2:=c1.grow eD;have z:=d.ext eD;refine ab.ld (c:=au) (i:=3) (x:=C1.cols) z rfl ?_;have f:Ints .i64 D C1.cols C.colsL:=a.colsL▸c2.cols.1;refine fZ oD.ints f (by omega) λtr E oE I=>?_;have c3:=c2.grow I;refine ab.ld (c:=au) (i:=4) (x:=C1.words) (z.ext I) rfl ?_;have e:Ints .u64 E C1.words C.wordsL:=a.wordsL▸c3.words.1;rw[y2] at oE;have a1:C.wordsL.length<=1000:=by
   rw[<-y2];unfold bk;split
   ·rw[QI];exact N
   ·simp
  refine jy oE.ints e (by omega) ?_;refine aT (by simp) ?_;have G:=eD.trans I;have pE:=p1.grow G;have a6:=H.mod.size;refine S C1 i y t r T s1 t' h' out E a W q v pE c3 pt (oD.ext I) (λb hb=>⟨by have:=fD b hb;omega,λu=>?_⟩) (H.trans (Step.bX G));have a7:=fD b hb;rcases u with (u|u)|u
  ·have:=p1.ar.lt b u;omega
  ·have:=c1.lt b u;omega
  ·have:=c1.rel.lt b u;omega
end
end Go.Proofs.YtkehfflpbpdokaaGreatDoor
namespace Go.Proofs.YtkehfflpbpdokaaGreatDoor
theorem wC {L:List (List Int)}{low y:List Int}{strict:Bool}(h:dG L)(b:(L.filter (pq low strict)).head?=some y):L.filter (pq y true)=(L.filter (pq low strict)).tail:=by
 obtain⟨t,d⟩:∃t,L.filter (pq low strict)=y::t:=by
  cases e:L.filter (pq low strict) with
  |nil=>rw[e] at b;cases b
  |cons a t=>rw[e] at b;cases b;exact⟨t,rfl⟩
 have g:dG (y::t):=d▸h.sublist SD;obtain⟨i,a2⟩:=Rf.1 g;have hm:∀x,x∈y::t↔x∈L/\pq low strict x=true:=λx=>by rw[<-d,QL]
 rw[d];refine tw (h.sublist SD) a2 λx=>?_;have hyp:=((hm y).1 Qp).2;constructor
 ·intro u;obtain⟨j,n⟩:=QL.1 u;have f:aL y x<0:=of_decide_eq_true n;rcases Qs.1 ((hm x).2 ⟨j,Oh _ _ f hyp⟩) with v|v
  ·subst v;exact absurd f (bQ _)
  ·exact v
 ·intro u;exact QL.2 ⟨((hm x).1 (Qu _ u)).1,decide_eq_true (p:=aL y x<0) (i x u)⟩
def lU (p:List Int)(l:List (List Int)):List (List Int):=l.takeWhile λy=>fR y p
def Ds (p:List Int)(t:TC):List (List Int):=lU p t.rest
def KC (p:List Int)(t:TC)(h:Option (List Int)):List (List Int):=match h with|none=>[]|some y=>y::lU p t.rest
theorem sG (p:List Int)(l:List (List Int)):(lU p l).Sublist l:=List.takeWhile_sublist _
theorem lu.rem {p:List Int}{t t':TC}{h':Option (List Int)}(h:lu p t t' h')(d:dG t.t.L):KC p t' h'=Ds p t:=by
 obtain⟨e,_,⟨h1,_,_,rfl⟩|⟨y,h1,f,g,rfl⟩⟩:=h
 ·have:t.rest=[]:=by cases hr:t.rest with
   |nil=>rfl
   |cons a l=>rw[hr] at h1;cases h1
  unfold Ds;rw[this];rfl
 ·have e2:t'.rest=t.rest.tail:=by
   unfold TC.rest;rw[e,f,g];exact wC d h1
  obtain⟨l,b⟩:∃l,t.rest=y::l:=by
   cases hr:t.rest with
   |nil=>rw[hr] at h1;cases h1
   |cons a l=>rw[hr] at h1;cases h1;exact⟨l,rfl⟩
  rw[b] at e2;unfold Ds lU;rw[b,Si];split
  ·show y::lU p t'.rest=_;rw[e2];rfl
  ·rfl
def bc.rem (C:bc):List (List (List Int)):=if C.begun then Zo (λt h=>KC C.lowL t h.2) C.tcs C.hs else C.tcs.map (Ds C.lowL)
def bc.iu (C:bc):Prop:=∀t∈C.tcs,dG t.t.L
theorem jq.rem {C C1:bc}(h:jq C C1)(b:C.iu):C1.rem=C.rem:=by
 cases a:C.begun with
 |true=>rw[h.old a]
 |false=>
   obtain⟨f,d⟩:=h.new a;unfold bc.rem;rw[h.begun,a,if_pos rfl,if_neg (by simp),h.lowL];apply SU;intro i;rw[Tc,QC];cases hi:C.tcs[i]? with
   |none=>
     have:C1.tcs[i]?=none:=by rw[WX] at hi ⊢;omega
     rw[this];rfl
   |some t=>
     obtain⟨t',h',e,a2,a3⟩:=d i t hi;rw[e,a2];show some _=some _;rw[a3.rem (b t (Qi hi))]
theorem jq.iu {C C1:bc}(h:jq C C1)(a:C.iu):C1.iu:=by
 cases b:C.begun with
 |true=>rw[h.old b];exact a
 |false=>
   obtain⟨g,e⟩:=h.new b;intro t f;obtain⟨i,hi⟩:=Qr.1 f;have j:=(Qk.1 hi).1;obtain⟨t',h',d,a2,a3⟩:=e i C.tcs[i] (Qg (by omega));rw[hi] at d;cases d;rw[a3.1];exact a _ (Qn _)
theorem bc.G7 {C:bc}(b:C.begun=true)(d:∀x∈C.hs,x.2=none):∀l∈C.rem,l=[]:=by
 intro l a;unfold bc.rem at a;rw[b,if_pos rfl] at a;obtain⟨i,hi⟩:=Qr.1 a;rw[Tc] at hi;split at hi
 ·rename_i t x _ e;cases hi;rw[d x (Qi e)];rfl
 ·cases hi
inductive fM:List (List (List Int))->List (List Int)->List (List (List Int))->Prop
 |nil (X:List (List (List Int))):fM X [] X
 |cons {X X':List (List (List Int))} {i:Nat} {y:List Int} {ys es:List (List Int)}:X[i]?=some (y::ys)->(∀l∈X,∀z,l.head?=some z->¬aL z y<0)->fM (X.set i ys) es X'->fM X (y::es) X'
theorem fM.trans {X Y Z:List (List (List Int))}{a b:List (List Int)}(h:fM X a Y)(k:fM Y b Z):fM X (a++b) Z:=by
 induction h with
 |nil=>exact k
 |cons h1 d _ e=>exact .cons h1 d (e k)
theorem mc {X:List (List (List Int))}{i:Nat}{y:List Int}{ys:List (List Int)}(h:X[i]?=some (y::ys)):(y::(X.set i ys).flatten).Perm X.flatten:=by
 induction X generalizing i with
 |nil=>cases h
 |cons x X a=>
   cases i with
   |zero=>
     cases h;exact Vp _
   |succ i=>
     show (y::(x++(X.set i ys).flatten)).Perm (x++X.flatten);exact List.perm_middle.symm.trans (List.Perm.append_left x (a h))
theorem fM.perm {X X':List (List (List Int))}{es:List (List Int)}(h:fM X es X'):(es++X'.flatten).Perm X.flatten:=by
 induction h with
 |nil=>exact Vp _
 |cons h1 _ _ a=>exact(List.Perm.cons _ a).trans (mc h1)
theorem fM.iu {X X':List (List (List Int))}{es:List (List Int)}(h:fM X es X')(a:∀l∈X,dG l):∀l∈X',dG l:=by
 induction h with
 |nil=>exact a
 |cons h1 _ _ b=>
   refine b λl d=>?_;rcases Sz d with q|q
   ·exact a l q
   ·subst q;exact(Rf.1 (a _ (Qi h1))).2
theorem fM.up {X X':List (List (List Int))}{es:List (List Int)}(h:fM X es X')(g:∀l∈X,dG l)(x:X.flatten.Nodup):dG es:=by
 induction h with
 |nil=>exact Tj
 |cons h1 E k G=>
   rename_i X X' i y ys es;have v:=mc h1;have j:=v.nodup_iff.2 x;obtain⟨H,I⟩:=Rp.1 j;have n:∀l∈X.set i ys,dG l:=λl f=>by
    rcases Sz f with q|q
    ·exact g l q
    ·subst q;exact(Rf.1 (g _ (Qi h1))).2
   refine Rf.2 ⟨λz hz=>?_,G n I⟩;have b:z∈(X.set i ys).flatten:=k.perm.mem_iff.1 (Qj.2 (.inl hz));have o:z∈X.flatten:=v.mem_iff.1 (Qu _ b);obtain⟨l,f,d⟩:=TM.1 o;have r:z≠y:=λe=>H (e▸b);have hle:¬gO z y:=by
    cases l with
    |nil=>cases d
    |cons a t=>
      have w:=E _ f a rfl;rcases Qs.1 d with q|q
      ·subst q;exact w
      ·have:=(Rf.1 (g _ f)).1 z q;exact λu=>w (bp this u)
   rcases iw y z with q|q|q
   ·exact q
   ·exact absurd q.symm r
   ·exact absurd q hle
theorem bc.O4 {C:bc}{i:Nat}{t t':TC}{y:List Int}{r:Sl}{h':Sl×Option (List Int)}(g:C.begun=true)(E:C.iu)(n:C.tcs[i]?=some t)(v:C.hs[i]?=some (r,some y))(b:∀x∈C.hs,∀l,x.2=some l->¬aL l y<0)(G:lu C.lowL t t' h'.2):fM C.rem [y] (C.with (C.tcs.set i t') (C.hs.set i h')).rem:=by
 have e:(C.with (C.tcs.set i t') (C.hs.set i h')).rem=C.rem.set i (Ds C.lowL t):=by
  show (if C.begun then _ else _)=_;unfold bc.rem;rw[g,if_pos rfl,if_pos rfl];show Zo (λt h=>KC C.lowL t h.2) (C.tcs.set i t') (C.hs.set i h')=_;apply SU;intro j;have o:=(Qk.1 n).1;have d:=(Qk.1 v).1;rw[Tc,Rc,Rc,Rc,Tc];by_cases q:i=j
  ·subst q;rw[if_pos rfl,if_pos rfl,if_pos rfl,if_pos o,if_pos d,if_pos (by rw[List.length_zipWith];omega)];show some _=some _;rw[G.rem (E t (Qi n))]
  ·rw[if_neg q,if_neg q,if_neg q]
 rw[e];refine .cons (i:=i) (y:=y) (ys:=Ds C.lowL t) ?_ (λl u z hz=>?_) (.nil _)
 ·unfold bc.rem;rw[g,if_pos rfl,Tc,n,v];rfl
 ·unfold bc.rem at u;rw[g,if_pos rfl] at u;obtain⟨j,f⟩:=Qr.1 u;rw[Tc] at f;split at f
  ·rename_i t1 x _ H;cases f;cases a:x.2 with
   |none=>rw[a] at hz;cases hz
   |some w=>
     rw[a] at hz;cases hz;exact b x (Qi H) _ a
  ·cases f
open Go.MapKept
structure qf (C C2:bc):Prop where
 cb:C2.cb=C.cb
 order:C2.order=C.order
 lowL:C2.lowL=C.lowL
 colsL:C2.colsL=C.colsL
 wordsL:C2.wordsL=C.wordsL
 turns:C2.turns=C.turns
 ext:C2.ext=C.ext
 len:C2.tcs.length=C.tcs.length
 st:(C2.begun=true/\C2.hs.length=C2.tcs.length)\/(C2.begun=false/\C2.bH=Sl.mk none 0 0)
 iu:C2.iu
theorem qf.trans {C C1 C2:bc}(h:qf C C1)(k:qf C1 C2):qf C C2:=
 ⟨k.cb.trans h.cb,k.order.trans h.order,k.lowL.trans h.lowL,k.colsL.trans h.colsL,k.wordsL.trans h.wordsL,k.turns.trans h.turns,k.ext.trans h.ext,k.len.trans h.len,k.st,k.iu⟩
theorem jq.OP {C C1:bc}(h:jq C C1):C1.tcs.length=C.tcs.length:=by
 cases a:C.begun with
 |true=>rw[h.old a]
 |false=>exact(h.new a).1
theorem jq.late {C C1:bc}(h:jq C C1)(a:C.iu):qf C C1:=
 ⟨h.cb,h.order,h.lowL,h.colsL,h.wordsL,h.turns,h.ext,h.OP,.inl ⟨h.begun,h.len⟩,h.iu a⟩
theorem qf.set {C C1:bc}{i:Nat}{t t':TC}{h':Sl×Option (List Int)}(k:qf C C1)(a:C1.begun=true)(b:C1.hs.length=C1.tcs.length)(d:C1.tcs[i]?=some t)(he:t'.t=t.t):qf C (C1.with (C1.tcs.set i t') (C1.hs.set i h')):=by
 refine⟨k.cb,k.order,k.lowL,k.colsL,k.wordsL,k.turns,k.ext,?_,.inl ⟨a,?_⟩,λx e=>?_⟩
 ·show (C1.tcs.set i t').length=_;rw[UI];exact k.len
 ·show (C1.hs.set i h').length=(C1.tcs.set i t').length;rw[UI,UI];exact b
 ·rcases Sz e with q|q
  ·exact k.iu x q
  ·subst q;rw[he];exact k.iu t (Qi d)
theorem bc.head_mem {C:bc}(a:C.begun=true)(f:C.hs.length=C.tcs.length){x:Sl×Option (List Int)}{y:List Int}(b:x∈C.hs)(d:x.2=some y):∃l∈C.rem,y∈l:=by
 obtain⟨i,hi⟩:=Qr.1 b;have e:=(Qk.1 hi).1;refine⟨KC C.lowL C.tcs[i] x.2,?_,by rw[d];exact Qp⟩;unfold bc.rem;rw[a,if_pos rfl];refine Qi (i:=i) ?_;rw[Tc,Qg (show i<C.tcs.length by omega),hi]
theorem fM.lens {X X':List (List (List Int))}{es:List (List Int)}(h:fM X es X'):es.length+X'.flatten.length=X.flatten.length:=by
 have:=h.perm.length_eq
 rwa [Qt] at this
theorem fM.mem {X X':List (List (List Int))}{es:List (List Int)}(h:fM X es X'){y:List Int}:(∃l∈X',y∈l)->∃l∈X,y∈l:=by
 intro u;have h1:y∈X'.flatten:=TM.2 u;exact TM.1 (h.perm.mem_iff.1 (Qj.2 (.inr h1)))
def IE (R:ak)(C:bc)(y:List Int):Prop:=bk (eS R.W (R.ords.getD C.order []) y R.W) C.colsL=C.wordsL
section
variable {H0 A B D:aa}{F F' X:Nat->Prop}{p dp Q U most m c:Nat}{s s':Pl}{M M':bd}{R:ak}{C:bc}{ll:List Int}{l:Sl}
set_option maxHeartbeats 4000000 in
theorem Aq {w W1:Nat}{K:(Sl×Bool×Int)->aa->Prop}(hP:aM H0 A F p dp s M Q U most m)(h:cz H0 A F p M R C)(hg:Gl H0)(hF:R.Fit)(hQ:Q<=1048576)(hw:w=1000000)(a8:W1=w*(C.tcs.length+1))(hm:m+W1*(C.rem.flatten.length+1)<=30000000000)(ht:C.tcs.length<=1000)(ba:C.turns=R.turns)(P:C.order<R.ords.length)(S:(R.ords.getD C.order []).length=R.W)(T:∀x∈R.ords.getD C.order [],0<=x/\x<(R.W:Int))(bg:C.colsL.length<=1000)(bG:C.wordsL.length<=1000)
  (bl:(C.begun=true/\C.hs.length=C.tcs.length)\/(C.begun=false/\C.bH=Sl.mk none 0 0)) (V:C.iu) (n:∀l∈C.rem,∀y∈l,y.length=R.W)
  (bs:∀C2 es F' s' B,qf C C2->fM C.rem es C2.rem->(∀l∈C2.rem,l=[])->(∀y∈es,¬IE R C y)->aM H0 B F' p dp s' M Q U most (m+W1*(es.length+1))->cz H0 B F' p M R C2->Step (R.X (C.Z0 F)) (R.X (C2.Z0 F')) A B->K (Sl.mk none 0 0,false,0) B)
  (bA:∀C2 es y out F' s' B,qf C C2->fM C.rem (es++[y]) C2.rem->(∀z∈es,¬IE R C z)->IE R C y->aM H0 B F' p dp s' M Q U most (m+W1*(es.length+1))->cz H0 B F' p M R C2->aA B 0 gM 1 out ((eS R.W (R.ords.getD C.order []) y R.W).map (Ql .u64))->(∀b,al out b->A.size<=b/\¬R.X (C2.Z F') b)->Step (R.X (C.Z0 F)) (R.X (C2.Z0 F')) A B->K (out,true,0) B):vD.sp (av C.cb) A K:=by
 refine vD.of ?_;unfold vD.vc;refine az rfl ?_;simp only[aw,av];refine ab.ld (c:=aq) (i:=0) (x:=av R.rb) h.row rfl ?_;refine kg h.rel.row ?_;refine az rfl ?_;refine ab.ld (c:=aC) (i:=8) (x:=false) h.row rfl ?_;refine az rfl ?_;refine ab.ld (c:=ai .i64) (i:=7) (x:=(C.turns:Int)) h.row rfl ?_;refine ab.ld (c:=aq) (i:=0) (x:=av R.rb) h.row rfl ?_;simp only[aw,av];refine ab.ld (c:=ai .i64) (i:=10) (x:=(R.turns:Int)) h.rel.row rfl ?_;refine az (by rw[ba];simp) ?_;have e:R.ords.getD C.order []=R.ords[C.order]:=by simp[QM,Qg P]
 have bE:=hF.W;refine ay C.rem.flatten.length (λk _ B=>∃C2 es F' s',es.length=k/\qf C C2/\fM C.rem es C2.rem/\(∀y∈es,¬IE R C y)/\aM H0 B F' p dp s' M Q U most (m+W1*k)/\cz H0 B F' p M R C2/\Step (R.X (C.Z0 F)) (R.X (C2.Z0 F')) A B) ⟨C,[],F,s,rfl,⟨rfl,rfl,rfl,rfl,rfl,rfl,rfl,rfl,bl,V⟩,.nil _,(λy hy=>by cases hy),hP.later (Nat.le_add_right _ _),h,Step.refl _ _⟩ ?_;rintro k _ A1 next hk ⟨C0,es,F0,s0,g,f,tk,o,p0,c0,S0⟩ v
 have hmul:W1*(k+1)=W1*k+W1:=Vl _ _;have b0:W1*(k+1)<=W1*(C.rem.flatten.length+1):=Sk _ (by omega);have eW:w*(C0.tcs.length+1)=W1:=by rw[f.len,a8]
 have G:∀x∈C0.hs,∀y,x.2=some y->y.length<=1000:=by
  intro x hx y hy;rcases f.st with ⟨b1,b2⟩|⟨b1,b2⟩
  ·obtain⟨l,hl,H⟩:=tk.mem (bc.head_mem b1 b2 hx hy);have:=n l hl y H;omega
  ·have h1:=c0.hd.1;have:C0.hs=[]:=by
    rw[QI,b2] at h1;exact QW (by simpa using h1)
   rw[this] at hx;cases hx
 rw[<-f.cb];refine zy p0 c0 hg hF hQ hw (by omega) (by rw[f.len];exact ht) f.st G (λC1 W s1 B a I p1 c1 S1=>?_) (λC1 i y t r W s1 t' h' B a Y Z ae p1 c1 pt ir ro rn S1=>?_)
 ·refine az rfl ?_;refine aT rfl ?_;have d:=c1.row;rw[a.cb] at d;refine ab.ld (c:=aq) (i:=0) (x:=av R.rb) d rfl ?_;refine aY _ rfl ?_;refine pz ?_;refine bs C1 es W s1 B (f.trans (a.late f.iu)) (by rw[a.rem f.iu];exact tk) (bc.G7 a.begun I) o (p1.later (by rw[g];omega)) c1 (S0.trans S1)
 ·refine az rfl ?_;have bB:r.a.isNone=false:=by
   cases bC:r.a with
   |none=>exact absurd bC rn
   |some _=>rfl
  refine az bB ?_;have kb:=f.trans (a.late f.iu);have k2:qf C (C1.with (C1.tcs.set i t') (C1.hs.set i h')):=kb.set a.begun a.len Y pt.1;have af:fM C.rem es C1.rem:=by rw[a.rem f.iu];exact tk
  have J:fM C.rem (es++[y]) (C1.with (C1.tcs.set i t') (C1.hs.set i h')).rem:=af.trans (bc.O4 a.begun kb.iu Y Z ae pt);have y1:y.length=R.W:=by
   obtain⟨l,hl,H⟩:=af.mem (bc.head_mem a.begun a.len (Qi Z) rfl);exact n l hl y H
  have L:k<C.rem.flatten.length:=by
   have:=J.lens;rw[Qt,g,RF] at this;omega
  have d:=c1.row;have bD:(C1.with (C1.tcs.set i t') (C1.hs.set i h')).cb=C0.cb:=a.cb;rw[bD] at d;refine ab.ld (c:=aq) (i:=0) (x:=av R.rb) d rfl ?_;refine aY _ rfl ?_;refine ab.ld (c:=ai .i64) (i:=1) (x:=(C.order:Int)) d (by show some (Ql .i64 (C1.order:Int))=_;rw[kb.order]) ?_;refine Ay c1.rel ir P hF.W (by rw[<-e];exact S) y1 (by rw[<-e];exact T) λout D oD eD fD=>?_;rw[<-e] at oD;have c2:=c1.grow eD;have a1:=d.ext eD;refine ab.ld (c:=au) (i:=3) (x:=C1.cols) a1 rfl ?_;have N:Ints .i64 D C1.cols C.colsL:=kb.colsL▸c2.cols.1;refine fZ oD.ints N (by omega) λtr E oE eE=>?_;have c3:=c2.grow eE;refine ab.ld (c:=au) (i:=4) (x:=C1.words) (a1.ext eE) rfl ?_;have j:Ints .u64 E C1.words C.wordsL:=kb.wordsL▸c3.words.1;have b3:(bk (eS R.W (R.ords.getD C.order []) y R.W) C.colsL).length<=1000:=by
   unfold bk;split
   ·rw[QI];exact bg
   ·simp
  refine jy oE.ints j (by omega) ?_;have a6:=eD.trans eE;have pE:=p1.grow a6;have b4:=S1.mod.size;have b5:=S0.mod.size;have SE:=(S0.trans S1).trans (Step.bX a6);have a7:aM H0 E W p dp s1 M Q U most (m+W1*(k+1)):=pE.later (by omega);refine ao (λO=>?_) (λO=>?_)
  ·have O:bk (eS R.W (R.ords.getD C.order []) y R.W) C.colsL=C.wordsL:=of_decide_eq_true O;refine bA _ es y out W s1 E k2 J o O (by rw[g];exact a7) c3 (oD.ext eE) (λb hb=>⟨by have:=fD b hb;omega,λu=>?_⟩) SE;have b6:=fD b hb;rcases u with (u|u)|u
   ·have:=p1.ar.lt b u;omega
   ·have:=c1.lt b u;omega
   ·have:=c1.rel.lt b u;omega
  ·have O:¬bk (eS R.W (R.ords.getD C.order []) y R.W) C.colsL=C.wordsL:=of_decide_eq_false O;refine v L _ _ ⟨_,es++[y],W,s1,by simp[g],k2,J,λz hz=>?_,a7,c3,SE⟩;rcases Qj.1 hz with q|q
   ·exact o z q
   ·rw[QV.1 q];exact O
end
end Go.Proofs.YtkehfflpbpdokaaGreatDoor
namespace Go.Proofs.YtkehfflpbpdokaaGreatDoor
def fH (l:List (List Int)):List (List Int):=l.mergeSort λa b=>decide (¬aL b a<0)
theorem bR (l:List (List Int)):(fH l).Perm l:=Sj _ _
theorem le_trans' {a b c:List Int}(h1:¬gO b a)(d:¬gO c b):¬gO c a:=by
 intro u;rcases iw a b with q|q|q
 ·exact d (bp u q)
 ·subst q;exact d u
 ·exact h1 q
theorem kE {l:List (List Int)}(h:l.Nodup):dG (fH l):=by
 have h1:=TH (le:=λa b:List Int=>decide (¬aL b a<0)) (λa b c h1 d=>decide_eq_true (show ¬aL c a<0 from le_trans' (of_decide_eq_true h1:¬aL b a<0) (of_decide_eq_true d:¬aL c b<0))) (λa b=>by
  simp only[Rm,decide_eq_true_eq];rcases iw a b with q|q|q
  ·exact .inl λu=>bQ _ (bp q u)
  ·subst q;exact .inl (bQ _)
  ·exact .inr λu=>bQ _ (bp q u)) l
 have d:(fH l).Nodup:=(bR l).nodup_iff.2 h;refine UO (λ{a b} e=>?_) (aaG h1 d);obtain⟨g1,g2⟩:=e;have g1:¬gO b a:=(of_decide_eq_true g1:¬aL b a<0);rcases iw a b with q|q|q
 ·exact q
 ·exact absurd q g2
 ·exact absurd q g1
theorem fM.under {X X':List (List (List Int))}{es:List (List Int)}(h:fM X es X')(g:∀l∈X,dG l)(x:X.flatten.Nodup):∀z∈es,∀u∈X'.flatten,gO z u:=by
 induction h with
 |nil=>intro z hz;cases hz
 |cons h1 E k G=>
   rename_i X X' i y ys es;have r:=mc h1;have j:=r.nodup_iff.2 x;obtain⟨H,I⟩:=Rp.1 j;have n:∀l∈X.set i ys,dG l:=λl f=>by
    rcases Sz f with q|q
    ·exact g l q
    ·subst q;exact(Rf.1 (g _ (Qi h1))).2
   intro z hz u hu;rcases Qs.1 hz with e|hz
   ·subst e;have b:u∈(X.set i ys).flatten:=k.perm.mem_iff.1 (Qj.2 (.inr hu));have hu2:u∈X.flatten:=r.mem_iff.1 (Qu _ b);obtain⟨l,f,d⟩:=TM.1 hu2;have o:u≠z:=λe=>H (e▸b);have hle:¬gO u z:=by
     cases l with
     |nil=>cases d
     |cons a t=>
       have v:=E _ f a rfl;rcases Qs.1 d with q|q
       ·subst q;exact v
       ·have:=(Rf.1 (g _ f)).1 u q;exact λw=>v (bp this w)
    rcases iw z u with q|q|q
    ·exact q
    ·exact absurd q.symm o
    ·exact absurd q hle
   ·exact G n I z hz u hu
theorem fM.Pf {X X':List (List (List Int))}{es:List (List Int)}(h:fM X es X')(f:∀l∈X,dG l)(d:X.flatten.Nodup):fH X.flatten=es++fH X'.flatten:=by
 have g:=h.perm;have e:(es++X'.flatten).Nodup:=g.nodup_iff.2 d;obtain⟨_,i,_⟩:=QY.1 e;refine tw (kE d) ?_ λy=>?_
 ·refine List.pairwise_append.2 ⟨h.up f d,kE i,λa h1 b j=>h.under f d a h1 b ((bR _).mem_iff.1 j)⟩
 ·rw[(bR _).mem_iff,<-g.mem_iff,Qj,Qj,(bR _).mem_iff]
theorem fM.nodup {X X':List (List (List Int))}{es:List (List Int)}(h:fM X es X')(a:X.flatten.Nodup):X'.flatten.Nodup:=
 (QY.1 (h.perm.nodup_iff.2 a)).2.1
def bc.left (R:ak)(C:bc):List (List Int):=((fH C.rem.flatten).filter λy=>decide (bk (eS R.W (R.ords.getD C.order []) y R.W) C.colsL=C.wordsL)).map λy=>eS R.W (R.ords.getD C.order []) y R.W
theorem bc.DQ {R:ak}{C C2:bc}{es:List (List Int)}(h:fM C.rem es C2.rem)(b:∀l∈C.rem,dG l)(d:C.rem.flatten.Nodup)(he:∀l∈C2.rem,l=[])(a:∀y∈es,¬IE R C y):C.left R=[]:=by
 unfold bc.left;rw[h.Pf b d,Xo.2 he];have:fH []=[]:=List.perm_nil.1 (bR []);rw[this,RA,UL.2 λy e=>?_]
 ·rfl
 ·have:=a y e;unfold IE at this;simpa using this
theorem bc.D7 {R:ak}{C C2:bc}{es:List (List Int)}{y:List Int}(h:fM C.rem (es++[y]) C2.rem)(d:∀l∈C.rem,dG l)(e:C.rem.flatten.Nodup)(a:∀z∈es,¬IE R C z)(b:IE R C y)(f:C2.order=C.order)(g:C2.colsL=C.colsL)(hw:C2.wordsL=C.wordsL):C.left R=eS R.W (R.ords.getD C.order []) y R.W::C2.left R:=by
 unfold bc.left;rw[h.Pf d e,f,g,hw,Rg,RU,UL.2 λz hz=>?_,RB,List.singleton_append,List.filter_cons,if_pos (by unfold IE at b;exact decide_eq_true b)]
 ·rfl
 ·have:=a z hz;unfold IE at this;simpa using this
open Go.MapKept
def bc.rh (C:bc)(E:Nat->Prop):bc:=⟨C.cb,C.order,C.low,C.lowL,C.cols,C.colsL,C.words,C.wordsL,C.fr,C.tcs,C.bH,C.hs,C.turns,C.begun,E⟩
section
variable {H0 A B D:aa}{F F' X V:Nat->Prop}{p dp Q U most m c:Nat}{s s':Pl}{M M':bd}{R:ak}{C:bc}{ll:List Int}{l:Sl}
theorem cz.Nk (h:cz H0 A F p M R C)(n:∀b,F b->b<A.size)(hz:H0.size<=A.size)(e:Mod C.ext A B)(f:∀b,X b->A.size<=b/\b<B.size):cz H0 B F p M R (C.rh λb=>C.ext b\/X b):=by
 have o1:∀b,(C.rh λb=>C.ext b\/X b).su b->C.su b\/X b:=λb u=>by
  rcases u with u|u|u|u|u
  ·exact .inl (.inl u)
  ·exact .inl (.inr (.inl u))
  ·exact .inl (.inr (.inr (.inl u)))
  ·exact .inl (.inr (.inr (.inr u)))
  ·exact .inr u
 have i:Step (C.Z F) ((C.rh λb=>C.ext b\/X b).Z F) A B:=⟨e.mono λb _ u=>.inr (.inr (.inr (.inr u))),λb u=>by
  rcases u with u|u
  ·exact .inl (.inl u)
  ·exact(o1 b u).imp .inr λv=>(f b v).1⟩
 have a:Step (R.X (C.Z F)) (R.X ((C.rh λb=>C.ext b\/X b).Z F)) A B:=Step.rel i;have g:∀b,C.th b->b<A.size:=λb u=>h.lt b (bc.qu u);refine⟨h.rel.ar i,h.row.mod e λu=>h.sep _ u (.inl rfl),⟨h.low.2.ints h.low.1 a,h.low.2.step a⟩,⟨h.cols.2.ints h.cols.1 a,h.cols.2.step a⟩,⟨h.words.2.ints h.words.1 a,h.words.2.step a⟩,h.fr.step a,λu hu=>?_,h.hd.mod e λb d u=>h.sep b u (.inr (.inr d)),λy o=>(h.hr y o).step a,h.cbs,λb d=>?_,λb d=>?_,λb d u=>?_⟩
 ·obtain⟨q,a2,a3⟩:=h.tc u hu;exact⟨q,⟨a2.row.mod e λv=>h.sep _ v (.inr (.inl ⟨u,hu,rfl⟩)),a3.ints a2.ints a,λad j=>⟨QP (a2.off ad j).1 e.size,(a2.off ad j).2⟩,a2.cb⟩,a3.step a⟩
 ·rcases o1 b d with v|v
  ·exact h.off b v
  ·have:=(f b v).1;exact⟨λu=>by have:=n b u;omega,by omega⟩
 ·rcases d with v|v
  ·exact QP (h.ext b v) e.size
  ·exact(f b v).2
 ·have u:C.th b:=u;rcases d with v|v
  ·exact h.sep b v u
  ·have:=g b u;have:=(f b v).1;omega
theorem aM.Jj (a:aM H0 A F p dp s M Q U most m)(h:cz H0 A F p M R C)(e:Mod C.ext A B):aM H0 B F p dp s M Q U most m:=
 a.aside ⟨QZ a.ext.size e.size,λb d _=>(e.same b (QP d a.ext.size) λu=>by have:=(h.off b (.inr (.inr (.inr u)))).2;omega).trans (a.ext.same b d id)⟩ λb d=>e.same b (a.ar.lt b d) λu=>(h.off b (.inr (.inr (.inr u)))).1 d
end
section
variable {H0 A B D:aa}{F F' X V:Nat->Prop}{p dp Q U most m c:Nat}{s s':Pl}{M M':bd}{R:ak}{C:bc}{ll:List Int}{l:Sl}
end
theorem CH {α:Type}(g:α->Nat):∀{A B:List α},A.Nodup->(∀a∈A,a∈B)->(A.map g).sum<=(B.map g).sum
 |[],_,_,_=>QN _
 |a::A,B,h,hs=>by
   have f:=hs a Qp;obtain⟨C,D,rfl⟩:=List.append_of_mem f;obtain⟨h1,i⟩:=Rp.1 h;have:=CH g (A:=A) (B:=C++D) i λb e=>by
    have d:=hs b (Qu _ e);rcases Qj.1 d with u|u
    ·exact Qj.2 (.inl u)
    ·rcases Qs.1 u with v|v
     ·subst v;exact absurd e h1
     ·exact Qj.2 (.inr v)
   simp only[Q4,RH,Xv,TX] at this ⊢;omega
def ET (M:bd)(a:ByteArray):Nat:=match M a with|some x=>x.N|none=>0
section
variable {H0 A B:aa}{F F':Nat->Prop}{p dp Q U U' most m:Nat}{s s':Pl}{M M':bd}{n:ByteArray}{x:St}
theorem bh.sum (h:bh s M Q U){ns:List ByteArray}(hs:∀n x,M n=some x->n∈ns):U<=(ns.map (ET M)).sum:=by
 have o:(s.d.files.map (·.name)).Nodup:=by
  have:=h.nodup;have e:(s.d.files.map λf=>f.name.toList)=(s.d.files.map (·.name)).map ByteArray.toList:=by rw[RE];rfl
  rw[e] at this;exact UO (λ{a b} d e=>d (by rw[e])) (SH.1 this)
 have h1:=CH (ET M) o (B:=ns) λa q=>by
  obtain⟨f,g,rfl⟩:=QB.1 q;obtain⟨i,hi⟩:=Qr.1 g;obtain⟨y,j,_⟩:=h.file i f hi;exact hs _ _ j
 have r:U=((s.d.files.map (·.name)).map (ET M)).sum:=by
  rw[<-h.used,RE];unfold Dk.used;congr 1;refine Rx λf g=>?_;obtain⟨i,hi⟩:=Qr.1 g;obtain⟨y,j,b2,_⟩:=h.file i f hi;show f.aG.length=ET M f.name;unfold ET;rw[j,b2]
 omega
theorem aM.NJ {K:Int->aa->Prop}(h:aM H0 A F p dp s M Q U most m)(g:Gl H0)(i:M n=some x)
  (j:∀F' s' B,aM H0 B F' p dp s' (fS M n none) Q (U - x.N) most (m+2100)->Step F F' A B->K 0 B):Jl.sp (av p) n A K:=by
 obtain⟨d1,d2,d3,d4⟩:=h.calm.kr i;have dl:=s.Bl n;have hz:=h.ext.size;have lo:=h.lo;have hi:=h.hi;have q:=h.bt;refine KF (h.gl g) h.ar λF' B o S=>?_;rw[d1];refine j F' _ B ⟨⟨QZ hz S.mod.size,λb f _=>(S.mod.same b (by omega) λu=>by have:=h.old b u;omega).trans (h.ext.same b f id)⟩,o,λb f=>?_,d2,by omega,by omega,by omega,by have:=h.le;omega,λa y d=>?_,d3.trans h.most⟩ S
 ·rcases S.own b f with u|u
  ·exact h.old b u
  ·omega
 ·by_cases e:a=n
  ·subst e;rw[bo] at d;cases d
  ·rw[aU e] at d;exact h.room a y d
end
section
variable {H0 A B:aa}{F F' V V':Nat->Prop}{p dp Q U U' most m m' c:Nat}{s s':Pl}{M M':bd}{R R' T:ak}
theorem aW.beside (h:aW H0 A (λb=>F b\/V b) p M R)(h':aW H0 B F' p M' R')(S:Step (R.X F) (R'.X F') A B)(i:∀b,V b->b<A.size/\¬F b)(hs:∀q'∈R'.parts,(∃q∈R.parts,q'.s=q.s)\/∀b,al q'.s b->A.size<=b)(g:R'.os=R.os)(o:R'.ords=R.ords):aW H0 B (λb=>F' b\/V b) p M' R':=by
 have r:Step (R.X (λb=>F b\/V b)) (R'.X (λb=>F' b\/V b)) A B:=S.fK (λb u=>u.elim (λv=>.inl (.inl v)) .inr) λb u=>by
  rcases u with (u|u)|u
  ·exact .inr (.inl u)
  ·exact .inl (.inl (.inr u))
  ·exact .inr (.inr u)
 have off:∀b,R'.O b->¬V b:=λb f j=>by
  obtain⟨v1,v2⟩:=i b j;rcases S.own b (.inr f) with (u|u)|u
  ·exact v2 u
  ·exact(h.off b u).1 (.inr j)
  ·omega
 refine⟨h'.row,λq a=>⟨(h'.pt q a).1,(h'.pt q a).2.len,λad d=>⟨((h'.pt q a).2.off ad d).1,λu=>?_⟩,(h'.pt q a).2.reads⟩,?_,h'.tr,λb f=>⟨λu=>u.elim (h'.off b f).1 (off b f),(h'.off b f).2⟩,h'.pbs,h'.ks,h'.ns,h'.nms,h'.free⟩
 ·rcases u with (u|u)|u
  ·exact((h'.pt q a).2.off ad d).2 (.inl u)
  ·rcases hs q a with ⟨t,w,e⟩|e
   ·rw[e] at d;exact((h.pt t w).2.off ad d).2 (.inl (.inr u))
   ·have:=e ad.block ⟨ad,d,rfl⟩;have:=(i _ u).1;omega
  ·exact((h'.pt q a).2.off ad d).2 (.inr u)
 ·have y:=h.ords.step r;rw[g,o];exact y
end
structure EX (M:bd)(R:ak)(ns:List ByteArray)(base:Nat):Prop where
 all:∀a y,M a=some y->a∈ns\/∃j,a=eN R.name j
 off:∀a∈ns,∀j,a≠eN R.name j
 sum:(ns.map (ET M)).sum<=base
 few:ns.length<=1000
section
variable {H0 A B:aa}{F F' V V':Nat->Prop}{p dp Q U U' most m m' c w:Nat}{s s':Pl}{M M':bd}{R R' T:ak}{ns:List ByteArray}{base:Nat}
theorem EX.go (h:EX M R ns base)(d:R'.name=R.name)(f:∀a,(∀j,a≠eN R.name j)->M' a=M a):EX M' R' ns base:=by
 refine⟨λa y g=>?_,λa b j=>by rw[d];exact h.off a b j,?_,h.few⟩
 ·rw[d];by_cases q:∃j,a=eN R.name j
  ·exact .inr q
  ·rw[f a λj e=>q ⟨j,e⟩] at g;exact h.all a y g
 ·have:ns.map (ET M')=ns.map (ET M):=Rx λa b=>by
   unfold ET;rw[f a λj=>h.off a b j]
  rw[this];exact h.sum
theorem HR {α:Type}(g:α->Nat)(k:Nat):∀{l:List α},(∀a∈l,g a<=k)->(l.map g).sum<=l.length*k
 |[],_=>QN _
 |a::l,h=>by
   rw[RH,TX,QJ,RX];have:=h a Qp;have:=HR g k (l:=l) λb d=>h b (Qu _ d);omega
theorem EX.names (h:EX M R ns base)(hr:aW H0 A F p M R):∀a y,M a=some y->a∈ns++R.all.map (·.n):=by
 intro a y b;rcases h.all a y b with q|⟨j,q⟩
 ·exact Qj.2 (.inl q)
 ·subst q;refine Qj.2 (.inr ?_);apply Tb;intro d;rw[hr.free j λt f e=>d (QB.2 ⟨t,f,e⟩)] at b;cases b
theorem EX.used (h:EX M R ns base)(hr:aW H0 A F p M R)(b:bh s M Q U)(hw:∀t∈R.all,t.L.length<=w):U<=base+R.all.length*(2*w+2):=by
 have h1:=b.sum (h.names hr);rw[Q4,Xv,RE] at h1;have d:=HR (ET M∘λt:Tx=>t.n) (2*w+2) (l:=R.all) λt a=>by
  obtain⟨x,root,depth,P,_,e,on⟩:=(hr.tr t a).at_;show ET M t.n<=_;unfold ET;rw[e];have:=on.small.2;have:=hw t a;show x.N<=_;omega
 have:=h.sum;omega
theorem EX.lQ (h:EX M R ns base)(hr:aW H0 A F p M R)(a:R.all.length<=100):ov M 1100:=
 ⟨_,h.names hr,by have:=h.few;rw[Qt,QI];omega⟩
end
def ak.lost (R:ak):ak:={R with d:=⟨R.d.pb,Sl.mk none 0 0,[]⟩}
theorem ak.mY {R:ak}{t:Tx}:t∈R.lost.all↔t∈R.f.ts\/t∈R.e.ts\/t∈R.ex:=by
 unfold ak.all ak.lost;simp only[Qj,QT,false_or]
theorem ak.mW {R:ak}{t:Tx}(h:t∈R.lost.all):t∈R.all:=by
 unfold ak.all;simp only[Qj];rcases ak.mY.1 h with u|u|u
 ·exact .inl u
 ·exact .inr (.inr (.inl u))
 ·exact .inr (.inr (.inr u))
theorem ak.sM (R:ak):R.lost.all.Sublist R.all:=by
 unfold ak.all ak.lost;exact Yo (UN _) (Yo (List.nil_sublist _) (UN _))
theorem ak.yw {R:ak}{b:Nat}(h:R.lost.O b):R.O b:=by
 rcases h with u|⟨q,a,u⟩|⟨t,d,u⟩
 ·exact .inl u
 ·refine .inr (.inl ?_);unfold ak.parts ak.lost at a;unfold ak.parts;simp only[Qs,QT,or_false] at a;rcases a with rfl|rfl|rfl
  ·exact⟨R.f,by simp,u⟩
  ·exact⟨R.d,by simp,u⟩
  ·exact⟨R.e,by simp,u⟩
 ·exact .inr (.inr ⟨t,ak.mW d,u⟩)
section
variable {H0 A B:aa}{F F':Nat->Prop}{p dp Q U U' most m m' c W k:Nat}{s s':Pl}{M M':bd}{R R':ak}{n:ByteArray}{L:List (List Int)}
theorem aW.split (h:aW H0 A F p M R){t u:Tx}(d:t∈R.lost.all)(hu:u∈R.d.ts):t.k≠u.k/\t.n≠u.n:=by
 have gen:∀{α:Type} (f:Tx->α),(R.all.map f).Nodup->f t≠f u:=λf a e=>by
  unfold ak.all at a;simp only[Q4,QY,Qj] at a;obtain⟨_,⟨_,_,b⟩,h1⟩:=a;rcases ak.mY.1 d with v|v|v
  ·exact h1 _ (Ru v) _ (.inl (Ru hu)) e
  ·exact b _ (Ru hu) _ (.inl (Ru v)) e.symm
  ·exact b _ (Ru hu) _ (.inr (Ru v)) e.symm
 exact⟨gen _ h.ks,gen _ h.ns⟩
theorem aW.lost (h:aW H0 A F p M R)(r:ab B R.d.pb EY (iS R.rb (Sl.mk none 0 0)))(G:Mod (λb=>F b\/(∃t∈R.d.ts,b=t.k)\/b=R.d.pb) A B)(own:∀b,F' b->F b\/A.size<=b)
  (H:∀a,(∀t∈R.d.ts,a≠t.n)->M' a=M a) (J:∀t∈R.d.ts,M' t.n=none):aW H0 B F' p M' R.lost:=by
 have md:R.d∈R.parts:=by simp[ak.parts]
 have mf:R.f∈R.parts:=by simp[ak.parts]
 have K:R.e∈R.parts:=by simp[ak.parts]
 have g:∀t∈R.d.ts,t∈R.all:=ak.dj md;have I:Step (R.X F) (R.lost.X F') A B:=⟨G.mono λb _ u=>by
  rcases u with u|⟨t,d,u⟩|u
  ·exact .inl u
  ·exact .inr (.inr (.inr ⟨t,g t d,u⟩))
  ·exact .inr (.inr (.inl ⟨R.d,md,u⟩)),λb u=>by
  rcases u with u|u
  ·exact(own b u).imp .inl id
  ·exact .inl (.inr (ak.yw u))⟩
 have i:[R.f.pb,R.d.pb,R.e.pb].Nodup:=h.pbs;simp only[Rp,Qs,QT,or_false,not_or] at i;have same:∀b,R.O b->(∀t∈R.d.ts,b≠t.k)->b≠R.d.pb->B[b]?=A[b]?:=λb y h1 N=>G.same b (h.lt b y) λu=>by
  rcases u with u|⟨t,d,u⟩|u
  ·exact(h.off b y).1 u
  ·exact h1 t d u
  ·exact N u
 have part:∀q∈R.parts,q.pb≠R.d.pb->ab B q.pb EY (iS R.rb q.s)/\ja (R.lost.X F') B q.s (oN q.ts):=λq f E=>
  ⟨(same _ (.inr (.inl ⟨q,f,rfl⟩)) (λt d e=>h.ID (g t d) (h.pt q f).1 (by decide) e.symm) E).trans (h.pt q f).1,(h.pt q f).2.step I⟩
 refine⟨(same _ (.inl rfl) (λt d e=>h.ID (g t d) h.row (by decide) e.symm) λe=>h.Og md e.symm).trans h.row,λq f=>?_,h.ords.step I,λt d=>?_,λb y=>⟨λu=>?_,(h.off b (ak.yw y)).2⟩,h.pbs,(R.sM.map _).nodup h.ks,(R.sM.map _).nodup h.ns,λt d=>h.nms t (ak.mW d),λj z=>?_⟩
 ·unfold ak.parts ak.lost at f;simp only[Qs,QT,or_false] at f;rcases f with rfl|rfl|rfl
  ·exact part _ mf i.1.1
  ·exact⟨r,ja.nil _ _⟩
  ·exact part _ K λe=>i.2.1 e.symm
 ·have o:=ak.mW d;exact(h.tr t o).aE (same _ (.inr (.inr ⟨t,o,rfl⟩)) (λu hu=>(h.split d hu).1) λe=>h.ID o (h.pt _ md).1 (by decide) e) (H _ λu hu=>(h.split d hu).2)
 ·have hO:=ak.yw y;rcases own b u with v|v
  ·exact(h.off b hO).1 v
  ·have:=h.lt b hO;omega
 ·show M' (eN R.name j)=none;have z:∀t∈R.lost.all,t.n≠eN R.name j:=z;by_cases q:∃t∈R.d.ts,eN R.name j=t.n
  ·obtain⟨t,d,e⟩:=q;rw[e];exact J t d
  ·rw[H _ λt d e=>q ⟨t,d,e⟩];refine h.free j λt d e=>?_;unfold ak.all at d;simp only[Qj] at d;rcases d with v|v|v|v
   ·exact z t (ak.mY.2 (.inl v)) e
   ·exact q ⟨t,v,e.symm⟩
   ·exact z t (ak.mY.2 (.inr (.inl v))) e
   ·exact z t (ak.mY.2 (.inr (.inr v))) e
end
theorem uT {α β:Type}{f:α->β}{l:List α}(h:(l.map f).Nodup){i:Nat}{t:α}(hi:l[i]?=some t):∀u∈l.take i,f u≠f t:=by
 intro u hu e;obtain⟨j,a⟩:=Qr.1 hu;have b:=(Qk.1 a).1;rw[Qw] at b;rw[Rb,if_pos (by omega)] at a;have:=(RM (l:=l.map f) (i:=j) (j:=i) (by rw[QI];omega) h).1 (by rw[QC,QC,a,hi];simp[e]);omega
section
variable {H0 A B:aa}{F F':Nat->Prop}{p dp Q U U' most m m' c W k:Nat}{s s':Pl}{M M':bd}{R R':ak}{n:ByteArray}{L:List (List Int)}
theorem dg.drop {K:Int->aa->Prop}(h:dg A p M k n W L)(j:aM H0 A F p dp s M Q U most m)(o:Gl H0)(hk:¬F k/\H0.size<=k)
  (q:∀F' s' U' B,aM H0 B F' p dp s' (fS M n none) Q U' most (m+2100)->Mod (λb=>F b\/b=k) A B->(∀b,F' b->F b\/A.size<=b)->U'<=U->K 0 B):Lb.sp (av k) A K:=by
 obtain⟨x,root,depth,P,a,r,on⟩:=h.at_;refine Lb.of ?_;unfold Lb.vc;refine nj a ?_;refine az rfl ?_;simp only[aw,av];refine ab.ld (c:=aq) (i:=0) (x:=av p) a rfl ?_;refine ab.ld (c:=dN) (i:=1) (x:=n) a rfl ?_;refine j.NJ o r λF' s' B p1 S=>?_;have f:=aI a;have t:¬F' k:=λu=>(S.own k u).elim hk.1 λv=>by omega
 have g:aV B k p ⟨n,W,root,depth,L.length,0,false⟩:=(S.mod.same k f hk.1).trans a;refine aT rfl ?_;refine ab.st g (i:=7) (by simp[mS]) rfl λC y e z=>?_;refine vE ?_;refine q F' s' _ C (p1.aside ⟨QZ p1.ext.size e.size,λb d _=>(e.same b (QP d p1.ext.size) λu=>by have:=hk.2;omega).trans (p1.ext.same b d id)⟩ λb d=>e.same b (p1.ar.lt b d) λu=>t (u▸d)) ((S.mod.mono λb _ u=>.inl u).trans (e.mono λb _ u=>.inr u)) S.own (Nat.sub_le _ _)
theorem Fo {K:Int->aa->Prop}(h:gN H0 A F p dp s M Q U most m c R)(hg:Gl H0)(hd:R.d.ts.length<=100)
  (hK:∀F' s' M' U' B,aM H0 B F' p dp s' M' Q U' most (m+2100*R.d.ts.length)->aW H0 B F' p M' R.lost->Step (R.X F) (R.lost.X F') A B->(∀a,(∀t∈R.d.ts,a≠t.n)->M' a=M a)->U'<=U->K 0 B):Lq.sp (av R.d.pb) A K:=by
 have md:R.d∈R.parts:=by simp[ak.parts]
 have j:∀t∈R.d.ts,t∈R.all:=ak.dj md;obtain⟨rp,sp⟩:=h.rel.pt _ md;have N:=sp.len;unfold oN at N;rw[QI] at N;have sub:R.d.ts.Sublist R.all:=by
  unfold ak.all;exact(List.sublist_append_left _ _).trans (SC _ _)
 have nk:=(sub.map (·.k)).nodup h.rel.ks;have nn:=(sub.map (·.n)).nodup h.rel.ns;refine Lq.of ?_;unfold Lq.vc;simp only[aw,av];refine ab.ld (c:=au) (i:=1) (x:=R.d.s) rp rfl ?_;refine ay R.d.ts.length (λi z B=>z=(i:Int)/\∃E s1 G O,aM H0 B E p dp s1 G Q O most (m+2100*i)/\Mod (λb=>F b\/∃t∈R.d.ts.take i,b=t.k) A B/\(∀b,E b->F b\/A.size<=b)/\(∀a,(∀t∈R.d.ts.take i,a≠t.n)->G a=M a)/\(∀t∈R.d.ts.take i,G t.n=none)/\O<=U) ⟨rfl,F,s,M,U,h.ar,.refl _ _,λ_ u=>.inl u,λ_ _=>rfl,(λt d=>by simp at d),Qm _⟩ ?_;rintro i _ B next hi ⟨rfl,E,s1,G,O,p1,r,own,P,hN,hU⟩ H
 have y:∀b,R.O b->¬E b:=λb o u=>(own b u).elim (h.rel.off b o).1 λv=>by have:=h.rel.lt b o;omega
 have S1:Step (R.X F) (R.X E) A B:=⟨r.mono λb _ u=>u.elim .inl λ⟨t,d,e⟩=>.inr (.inr (.inr ⟨t,j t (List.mem_of_mem_take d),e⟩)),λb u=>u.elim (λv=>(own b v).imp .inl id) λv=>.inl (.inr v)⟩;refine ao (λI=>?_) (λI=>?_)
 ·have J:i<R.d.ts.length:=by
   have:(i:Int)<(R.d.s.n:Int):=by simpa using I
   omega
  have q:R.d.ts[i]?=some R.d.ts[i]:=Qg J;have S:=j _ (Qn J);refine ja.ld (c:=aq) (x:=av R.d.ts[i].k) (i:=i) (sp.step S1) (xq q) rfl λad _=>?_;have hO:R.O R.d.ts[i].k:=.inr (.inr ⟨_,S,rfl⟩);have af:=uT (f:=λt:Tx=>t.k) nk q;have Y:=uT (f:=λt:Tx=>t.n) nn q;have same:B[R.d.ts[i].k]?=A[R.d.ts[i].k]?:=r.same _ (h.rel.lt _ hO) λu=>u.elim (h.rel.off _ hO).1 λ⟨t,d,e⟩=>af t d e.symm;have Z:R.d.ts.take (i+1)=R.d.ts.take i++[R.d.ts[i]]:=by rw[RC,q];rfl
  have hT:=(h.rel.tr _ S).aE (M':=G) same (P _ λt d e=>Y t d e.symm);refine hT.drop p1 hg ⟨y _ hO,(h.rel.off _ hO).2⟩ λF2 s2 U2 D p2 m2 o2 a1=>?_;refine az rfl ?_;have zB:=r.size;refine H J _ _ ⟨aH i (by omega),F2,s2,_,U2,p2.later (by omega),?_,λb u=>?_,λa ha=>?_,λt d=>?_,QZ a1 hU⟩
  ·refine Mod.trans' (r.mono λb _ u=>u.imp id λ⟨t,d,e⟩=>⟨t,by rw[Z];exact Qj.2 (.inl d),e⟩) m2 λb o u=>?_;rcases u with u|u
   ·exact .inl ((own b u).resolve_right (by omega))
   ·exact .inr ⟨_,by rw[Z];exact Qj.2 (.inr (QV.2 rfl)),u⟩
  ·rcases o2 b u with v|v
   ·exact own b v
   ·exact .inr (by omega)
  ·rw[aU (ha _ (by rw[Z];exact Qj.2 (.inr (QV.2 rfl))))];exact P a λt d=>ha t (by rw[Z];exact Qj.2 (.inl d))
  ·rw[Z] at d;rcases Qj.1 d with v|v
   ·rw[aU (Y t v)];exact hN t v
   ·rw[QV.1 v,bo]
 ·have a6:i=R.d.ts.length:=by
   have:¬(i:Int)<(R.d.s.n:Int):=by simpa using I
   omega
  subst a6;rw[Sc] at r P hN;have g:R.O R.d.pb:=.inr (.inl ⟨_,md,rfl⟩);have a7:ab B R.d.pb EY (iS R.rb R.d.s):=(r.same _ (h.rel.lt _ g) λu=>u.elim (h.rel.off _ g).1 λ⟨t,d,e⟩=>h.rel.ID (j t d) rp (by decide) e.symm).trans rp;refine ab.st a7 (i:=1) (by simp[iS]) rfl λD rD mD zD=>?_;have zB:=r.size;have ae:Mod (λb=>F b\/(∃t∈R.d.ts,b=t.k)\/b=R.d.pb) A D:=(r.mono λb _ u=>u.imp id .inl).trans (mD.mono λb _ u=>.inr (.inr u));have rl:=h.rel.lost rD ae own P hN;have pD:aM H0 D E p dp s1 G Q O most (m+2100*R.d.ts.length):=p1.aside ⟨QZ p1.ext.size mD.size,λb o _=>(mD.same b (QP o p1.ext.size) λu=>by have:=(h.rel.off _ g).2;omega).trans (p1.ext.same b o id)⟩ λb o=>mD.same b (p1.ar.lt b o) λu=>y _ g (u▸o);refine hK E s1 G O D pD rl ⟨ae.mono λb _ u=>?_,λb u=>?_⟩ P hU
  ·rcases u with u|⟨t,d,u⟩|u
   ·exact .inl u
   ·exact .inr (.inr (.inr ⟨t,j t d,u⟩))
   ·exact .inr (by rw[u];exact g)
  ·rcases u with u|u
   ·exact(own b u).imp .inl id
   ·exact .inl (.inr (ak.yw u))
def ak.swap (R:ak)(nb:Nat):ak:=⟨R.rb,R.name,R.W,R.os,R.ords,R.f,R.e,⟨nb,Sl.mk none 0 0,[]⟩,R.ex,R.next,R.nb,R.turns⟩
theorem aW.swap {nb:Nat}(h:aW H0 A F p M R)(hd:R.d.ts=[])(z:∀b,F b->b<A.size)(hz:H0.size<=A.size)(E:A.size<=nb)(r:ab B R.rb Dj (jG p (R.swap nb)))(rn:ab B nb EY (iS R.rb (Sl.mk none 0 0)))(j:Mod (λb=>b=R.rb) A B):aW H0 B F p M (R.swap nb):=by
 have G:aW H0 A F p M R:=h;have a:(R.swap nb).all=R.all:=by
  unfold ak.all ak.swap;simp only[hd,RB]
 have hO:∀b,(R.swap nb).O b->R.O b\/b=nb:=λb u=>ak.l6 (R:=R) (nb:=nb) u;have o:Step (R.X F) ((R.swap nb).X F) A B:=⟨j.mono λb _ u=>.inr (.inl u),λb u=>by
  rcases u with u|u
  ·exact .inl (.inl u)
  ·rcases hO b u with v|v
   ·exact .inl (.inr v)
   ·exact .inr (by omega)⟩
 have same:∀b,R.O b->b≠R.rb->B[b]?=A[b]?:=λb i e=>j.same b (h.lt b i) e;have part:∀q∈R.parts,ab B q.pb EY (iS R.rb q.s)/\ja ((R.swap nb).X F) B q.s (oN q.ts):=λq d=>⟨(same _ (.inr (.inl ⟨q,d,rfl⟩)) (h.Og d)).trans (h.pt q d).1,(h.pt q d).2.step o⟩;have mf:R.f∈R.parts:=by simp[ak.parts]
 have y:R.e∈R.parts:=by simp[ak.parts]
 have lf:=h.lt _ (.inr (.inl ⟨_,mf,rfl⟩));have le:=h.lt _ (.inr (.inl ⟨_,y,rfl⟩));have f:[R.f.pb,R.d.pb,R.e.pb].Nodup:=h.pbs;simp only[Rp,Qs,QT,or_false,not_or] at f;refine⟨r,λq d=>?_,h.ords.step o,λt g=>?_,λb i=>?_,?_,by rw[a];exact h.ks,by rw[a];exact h.ns,by rw[a];exact h.nms,by rw[a];exact h.free⟩
 ·unfold ak.parts ak.swap at d;simp only[Qs,QT,or_false] at d;rcases d with rfl|rfl|rfl
  ·exact part _ mf
  ·exact part _ y
  ·exact⟨rn,ja.nil _ _⟩
 ·rw[a] at g;exact(h.tr t g).aE (same _ (.inr (.inr ⟨t,g,rfl⟩)) (h.ID g h.row (by decide))) rfl
 ·rcases hO b i with v|v
  ·exact h.off b v
  ·exact⟨λu=>by have:=z b u;omega,by omega⟩
 ·show [R.f.pb,R.e.pb,nb].Nodup;simp only[Rp,Qs,QT,or_false,not_or];exact⟨⟨f.1.2,by omega⟩,by omega,by simp,Ti⟩
theorem Ec {K:(Int×Int)->aa->Prop}(h:gN H0 B F p dp s M Q U most m c R)(hd:R.d.ts=[])
  (hK:∀nb D,gN H0 D F p dp s M Q U most m c (R.swap nb)->Step (R.X F) ((R.swap nb).X F) B D->B.size<=nb->K ((R.e.rows.length:Int),0) D):
  ∃G:aa->Prop,G B/\ah (av R.rb) λf=>bW aq G (f.add 8) λ(I:Option Addr)=>ah (av R.rb) λg=>Ff.sp (some (g.add 0)) B λ(J:Option Addr) j=>G j/\ah (av R.rb) λo=>st j (o.add 7) (.pointer I) λN=>ah (av R.rb) λr=>st N (r.add 8) (.pointer J) λt=>ah (av R.rb) λy=>Go.Proofs.YtkehfflpbpdokaaGreatDoor.ld aq t (y.add 7) λ(O:Option Addr)=>Kk.sp O t λ(P:Int) S=>K (P,(0:Int)) S:=by
 refine⟨Ext B,.refl _ _,?_⟩;simp only[aw,av];refine ab.bW (c:=aq) (i:=8) (x:=av R.e.pb) (cs:=λ_=>jG p R) (λD hD=>h.rel.row.ext hD) (λ_ _=>rfl) ?_;refine oS λC zC rC Y=>⟨Y,?_⟩;have r1:=h.rel.row.ext Y;refine ab.st r1 (i:=7) (by simp[jG]) rfl λD rD mD zD=>?_;refine ab.st rD (i:=8) (by simp[jG]) rfl λE rE mE zE=>?_;have z:=h.ar.ar.lt;have Z:∀b,F b->b≠R.rb:=λb d e=>(h.rel.off _ (.inl rfl)).1 (e▸d);have H:Mod (λb=>b=R.rb) C E:=mD.trans mE;have af:=h.rel.lt _ (.inl rfl);have ae:=(h.rel.off _ (.inl rfl)).2;have a:Mod (λb=>b=R.rb) B E:=Y.mod.trans H;have rel:aW H0 E F p M (R.swap B.size):=aW.swap (A:=B) h.rel hd z h.ar.ext.size (Qm _) rE (rC.mod H (by omega)) a;have ar:aM H0 E F p dp s M Q U most m:=h.ar.aside ⟨by have:=h.ar.ext.size;have:=a.size;omega,λb d _=>(a.same b (by have:=h.ar.ext.size;omega) (by omega)).trans (h.ar.ext.same b d id)⟩ λb d=>a.same b (z b d) (Z b d);refine ab.ld (c:=aq) (i:=7) (x:=av R.e.pb) rel.row rfl ?_;refine wi (q:=R.e) rel (by simp[ak.parts,ak.swap]) ?_;refine hK B.size E ⟨ar,rel,h.lQ⟩ ⟨a.mono λb _ u=>.inr (.inl u),λb u=>?_⟩ (Qm _);rcases u with u|u
 ·exact .inl (.inl u)
 ·rcases ak.l6 (R:=R) (nb:=B.size) u with v|v
  ·exact .inl (.inr v)
  ·exact .inr (by omega)
end
structure uo (ords rows:List (List Int))(q q':aP):Prop where
 pb:q'.pb=q.pb
 ts:q'.ts=[]\/q'.ts.length=ords.length
 mem:∀i,i<ords.length->∀y,y∈q'.aQ i↔y∈q.aQ i\/∃x∈rows,y=bk x (ords.getD i [])
 len:∀i,i<ords.length->(q'.aQ i).length<=(q.aQ i).length+rows.length
theorem uo.nil {ords:List (List Int)}{q:aP}(h:q.ts=[]\/q.ts.length=ords.length):uo ords [] q q:=
 ⟨rfl,h,λi _ y=>⟨.inl,λu=>u.elim id λ⟨x,a,_⟩=>by cases a⟩,λi _=>Qm _⟩
theorem uo.more {ords rows:List (List Int)}{y:List Int}{q b d:aP}(h:uo ords rows q b)(I:Ins ords y b d):uo ords (rows++[y]) q d:=by
 refine⟨I.pb.trans h.pb,.inr I.len,λi hi z=>?_,λi hi=>?_⟩
 ·rw[(I.rows i hi).1 z,h.mem i hi z];constructor
  ·rintro(u|u|⟨x,a,e⟩)
   ·exact .inr ⟨y,by simp,u⟩
   ·exact .inl u
   ·exact .inr ⟨x,Qj.2 (.inl a),e⟩
  ·rintro(u|⟨x,a,e⟩)
   ·exact .inr (.inl u)
   ·rcases Qj.1 a with v|v
    ·exact .inr (.inr ⟨x,v,e⟩)
    ·rw[QV.1 v] at e;exact .inl e
 ·have h1:=(I.rows i hi).2;have f:=h.len i hi;rw[Qt,RF];omega
structure ak.Small (R:ak)(w:Nat):Prop where
 parts:∀q∈R.parts,q.ts=[]\/q.ts.length=R.ords.length
 ex:R.ex=[]
 rows:∀t∈R.all,t.L.length<=w
theorem ak.Small.count {R:ak}{w:Nat}(h:R.Small w):R.all.length<=3*R.ords.length:=by
 have p:∀q∈R.parts,q.ts.length<=R.ords.length:=λq d=>by
  rcases h.parts q d with u|u
  ·rw[u];exact QN _
  ·omega
 have a:=p R.f (by simp[ak.parts]);have b:=p R.d (by simp[ak.parts]);have c:=p R.e (by simp[ak.parts]);unfold ak.all;rw[h.ex];simp only[Qt,R7];omega
theorem ak.Small.at_ {R:ak}{w:Nat}(h:R.Small w){q:aP}(a:q∈R.parts)(i:Nat):(q.aQ i).length<=w:=by
 unfold aP.aQ;cases hi:q.ts[i]? with
 |none=>exact QN _
 |some t=>exact h.rows t (ak.dj a t (Qi hi))
theorem Mz (r:List Int):pq [] false r=true:=by
 unfold pq;cases r<;>simp[aL]
section
variable {H0 A B:aa}{F F' Y Y':Nat->Prop}{p dp Q U U' most m m' c w k cb:Nat}{s s':Pl}{M M':bd}{R R':ak}{lo:Sl}{ll:List Int}{strict:Bool}{ns:List ByteArray}{base:Nat}
theorem jZ.go (h:jZ A F k cb lo ll strict)(S:Step Y Y' A B)(e:¬Y cb)(a:iL Y A lo)(f:∀b,F' b->Y' b)(g:¬F' cb):jZ B F' k cb lo ll strict:=by
 refine⟨h.row.mod S.mod e,a.ints h.ints S,λad d=>⟨((a.step S) ad d).1,λu=>?_⟩,⟨g,h.cb.2⟩⟩;rcases u with u|u|u
 ·exact((a.step S) ad d).2 (f _ u)
 ·exact(h.off ad d).2 (.inr (.inl u))
 ·exact(h.off ad d).2 (.inr (.inr u))
def ak.cV (R:ak)(q:aP)(ds:Sl)(a:List Tx)(nx:Nat):ak:=⟨R.rb,R.name,R.W,R.os,R.ords,q,⟨R.d.pb,ds,a⟩,R.e,R.ex,nx,nx,R.turns+1⟩
def ak.after (R:ak)(q:aP)(nx nb:Nat):ak:=⟨R.rb,R.name,R.W,R.os,R.ords,q,R.e,⟨nb,Sl.mk none 0 0,[]⟩,R.ex,nx,nx,R.turns+1⟩
theorem ak.Cb {q:aP}{nx:Nat}(b:R.Small w)(h:q.ts=[]\/q.ts.length=R.ords.length)(hw:∀i,i<R.ords.length->(q.aQ i).length<=w):(R.cV q R.d.s R.d.ts nx).Small w:=by
 have d:∀t∈q.ts,t.L.length<=w:=λt a=>by
  obtain⟨i,hi⟩:=Qr.1 a;have j:=(Qk.1 hi).1;have h1:q.ts.length=R.ords.length:=h.resolve_left λe=>by rw[e] at j;exact absurd j (Nat.not_lt_zero _)
  have f:=hw i (by omega);unfold aP.aQ at f;rw[hi] at f;exact f
 refine⟨λx g=>?_,b.ex,λt a=>?_⟩
 ·unfold ak.parts ak.cV at g;simp only[Qs,QT,or_false] at g;rcases g with rfl|rfl|rfl
  ·exact h
  ·exact b.parts R.d (by simp[ak.parts])
  ·exact b.parts R.e (by simp[ak.parts])
 ·unfold ak.all ak.cV at a;simp only[Qj] at a;rcases a with u|u
  ·exact d t u
  ·refine b.rows t ?_;unfold ak.all;simp only[Qj];exact .inr u
set_option maxHeartbeats 8000000 in
set_option maxRecDepth 100000 in
theorem yL {v:Nat}{K:(Int×Int)->aa->Prop}(h:gN H0 A F p dp s M Q U most m c R)(hg:Gl H0)(ee:Pw H0)(hv:v=2000000)(hF:R.Fit)(o:EX M R ns base)(sm:R.Small w)(hw:∀i,i<R.ords.length->(R.f.aQ i).length+R.d.rows.length<=w)(b1:w<=400)(hQ:Q<=1048576)(eF:base+3*R.ords.length*(2*w+2)+R.ords.length*(2*w+6)+w+4<Q)(ho:R.ords.length<=16)(h1:1<=R.ords.length)(eg:R.nb=R.next)(hn:R.next+(R.d.rows.length+1)*R.ords.length<=1000)(hm:m+v*(R.d.rows.length+2)<=30000000000)(eP:R.turns<=1000000)
  (ht:∀y,y.length=R.W->cO y->∀i (hi:i<R.ords.length),R.ords[i].length<=1000/\(bk y R.ords[i]).length=R.W/\cO (bk y R.ords[i]))
  (hK:∀F' s' M' U' q' nx nb B,gN H0 B F' p dp s' M' Q U' most (m+v*(R.d.rows.length+2)) 1100 (R.after q' nx nb)->uo R.ords R.d.rows R.f q'->(q'.s=R.f.s\/∀b,al q'.s b->A.size<=b)->nx<=R.next+R.d.rows.length*R.ords.length->Step (R.X F) ((R.after q' nx nb).X F') A B->(∀a,(∀i,a≠eN R.name i)->M' a=M a)->K ((R.e.rows.length:Int),0) B):Cy.sp (av R.rb) A K:=by
 refine Cy.of ?_;unfold Cy.vc;refine kg h.rel.row ?_;refine az rfl ?_;simp only[aw,av];refine ab.ld (c:=ai .i64) (i:=10) (x:=(R.turns:Int)) h.rel.row rfl ?_;refine ab.st h.rel.row (i:=10) (by simp[jG]) rfl λB rB mB zB=>?_;rw[aH R.turns (by omega)] at rB;have I:=h.rel.cell (nx:=R.next) (tu:=R.turns+1) rB mB;have eW:=h.rel.lt _ (.inl rfl);have ei:=h.rel.off _ (.inl rfl);have pB:aM H0 B F p dp s M Q U most m:=h.ar.aside ⟨by have:=h.ar.ext.size;omega,λb hb _=>(mB.same b (by have:=h.ar.ext.size;omega) (by omega)).trans (h.ar.ext.same b hb id)⟩ λb hb=>mB.same b (h.ar.ar.lt b hb) λu=>ei.1 (u▸hb);have S0:Step (R.X F) ((R.cV R.f R.d.s R.d.ts R.next).X F) A B:=⟨mB.mono λb _ u=>.inr (.inl u),λb u=>.inl u⟩;have e0:({R with next:=R.next,turns:=R.turns+1}:ak)=R.cV R.f R.d.s R.d.ts R.next:=by
  unfold ak.cV;rw[<-eg]
 rw[e0] at I;have cB:R.d.ts.length<=100:=by
  rcases sm.parts R.d (by simp[ak.parts]) with u|u
  ·rw[u];exact QN _
  ·omega
 have md:R.d∈(R.cV R.f R.d.s R.d.ts R.next).parts:=by simp[ak.parts,ak.cV]
 -- what holds behind the rows' way
 refine⟨λ_ C=>∃F' s' M' U' q' ds nx,gN H0 C F' p dp s' M' Q U' most (m+v*(R.d.rows.length+2)) 1100 (R.cV q' ds [] nx)/\uo R.ords R.d.rows R.f q'/\(q'.s=R.f.s\/∀b,al q'.s b->A.size<=b)/\nx<=R.next+R.d.rows.length*R.ords.length/\Step (R.X F) ((R.cV q' ds [] nx).X F') A C/\(∀a,(∀i,a≠eN R.name i)->M' a=M a),?_,?_⟩
 ·refine ab.ld (c:=aq) (i:=7) (x:=av R.d.pb) I.row rfl ?_;simp only[aw,av];obtain⟨rp,sp⟩:=I.pt _ md;refine ab.ld (c:=au) (i:=1) (x:=R.d.s) rp rfl ?_;have cF:=sp.len;unfold oN at cF;rw[QI] at cF;have c0:=o.lQ h.rel (QZ sm.count (by omega));refine ao (λb3=>?_) (λb3=>?_)
  ·have c4:0<R.d.ts.length:=by
    have:(R.d.s.n:Int)>0:=of_decide_eq_true b3;omega
   obtain⟨T,tl,eT⟩:∃T tl,R.d.ts=T::tl:=by
    cases q:R.d.ts with
    |nil=>rw[q] at c4;exact absurd c4 (Nat.lt_irrefl _)
    |cons T tl=>exact⟨T,tl,rfl⟩
   have eR:R.d.rows=T.L:=by unfold aP.rows;rw[eT]
   have e1:R.d.ts.length=R.ords.length:=(sm.parts R.d (by simp[ak.parts])).resolve_left λe=>by rw[e] at eT;cases eT
   refine ab.ld (c:=aq) (i:=7) (x:=av R.d.pb) I.row rfl ?_;simp only[aw,av];refine ab.ld (c:=au) (i:=1) (x:=R.d.s) rp rfl ?_;refine ja.ld (c:=aq) (x:=av T.k) (i:=0) sp (xq (by rw[eT];rfl)) rfl λad _=>?_;have b4:T∈R.d.ts:=by rw[eT];exact Qp
   have bg:∀q nx,T∈(R.cV q R.d.s R.d.ts nx).all:=λq nx=>by
    unfold ak.all ak.cV;simp only[Qj];exact .inr (.inl b4)
   have bl:∀q nx,(R.cV q R.d.s R.d.ts nx).O T.k:=λq nx=>.inr (.inr ⟨T,bg q nx,rfl⟩);have ek:T.L.length<=400:=QZ (sm.rows T (ak.dj (q:=R.d) (by simp[ak.parts]) T b4)) b1;have c5:T.n.size<=9223372036854775807:=hF.nm h.rel (ak.dj (q:=R.d) (by simp[ak.parts]) T b4);refine rz (F:=F) (ll:=[]) ⟨rfl,Reads.nil _ _⟩ (by simp) (pB.ar.lt) (I.lt _ (bl _ _)) λC cb lo eC cu e4 c6 en=>?_;have e5:=I.grow eC;have pC:=pB.grow eC;have rC:aW H0 C (λb=>F b\/b=cb) p M (R.cV R.f R.d.s R.d.ts R.next):=I.fresh eC λb u=>by omega
   have e6:=pB.ext.size;rw[eR] at hw hn hm hK ⊢
   -- row by row
   refine ay T.L.length (λi _ D=>∃F1 s1 M1 U1 f nx lo ll strict,aM H0 D F1 p dp s1 M1 Q U1 most (m+v*i)/\aW H0 D (λb=>F1 b\/b=cb) p M1 (R.cV f R.d.s R.d.ts nx)/\uo R.ords (T.L.take i) R.f f/\(f.s=R.f.s\/∀b,al f.s b->A.size<=b)/\nx<=R.next+i*R.ords.length/\jZ D F1 T.k cb lo ll strict/\iL (λb=>(R.cV f R.d.s R.d.ts nx).X F1 b\/b=cb) D lo/\T.L.filter (pq ll strict)=T.L.drop i/\Mod (R.X F) A D/\(∀b,(R.cV f R.d.s R.d.ts nx).X F1 b->R.X F b\/A.size<=b)/\(∀a,(∀j,a≠eN R.name j)->M1 a=M a)/\cb<D.size) ⟨F,s,M,U,R.f,R.next,lo,[],false,pC,rC,uo.nil (sm.parts R.f (by simp[ak.parts])),.inl rfl,by omega,cu,?_,?_,S0.mod.trans' eC λ_ _ u=>u.elim,λb u=>.inl u,λ_ _=>rfl,c6⟩ ?_
   ·intro ad N;obtain⟨l1,l2⟩:=en _ ⟨ad,N,rfl⟩;refine⟨(cu.off ad N).1,λu=>?_⟩;rcases u with (u|u)|u
    ·exact(cu.off ad N).2 (.inl u)
    ·have:=I.lt _ u;omega
    ·exact l2 u
   ·rw[List.drop_zero,RQ.2 λr _=>Mz r]
   rintro i _ D next hi ⟨F1,s1,M1,U1,f,nx,lo,ll,strict,p1,r1,P1,bs,bA,c1,eG,b5,c7,P,a1,eH⟩ b6
   have hmul:(i+1)*R.ords.length=i*R.ords.length+R.ords.length:=RX _ _;have eo:(T.L.length+1)*R.ords.length=T.L.length*R.ords.length+R.ords.length:=RX _ _;have e7:i*R.ords.length<=T.L.length*R.ords.length:=Ra _ hi;have ep:=hF.W;have e8:v*(i+1)=v*i+v:=Vl _ _;have e9:v*(T.L.length+2)=v*T.L.length+v+v:=by rw[Vl,Vl]
   have fa:v*i<=v*T.L.length:=Sk _ hi;have b7:=r1.off _ (bl f nx);have b8:=r1.tr T (bg f nx);have fb:=p1.ext.size;have c8:H0.size<=cb:=by have:=eC.size;omega
   have J:(R.cV f R.d.s R.d.ts nx).Small w:=ak.Cb sm P1.ts λj hj=>by
    have h2:=P1.len j hj;have h3:=hw j hj;rw[Qw] at h2;omega
   have o1:EX M1 (R.cV f R.d.s R.d.ts nx) ns base:=o.go rfl a1;have c9:∀{F2:Nat->Prop} {s2:Pl} {E:aa},aM H0 E F2 p dp s2 M1 Q U1 most (m+v*i+1000000)->dg E p M1 T.k T.n R.W T.L->Step (λb=>F1 b\/b=T.k\/b=cb) (λb=>F2 b\/b=T.k\/b=cb) D E->¬F2 T.k->aW H0 E (λb=>F2 b\/b=cb) p M1 (R.cV f R.d.s R.d.ts nx):=λp2 T2 S2 k2=>by
    have key:=r1.Cg (t:=T) (L:=T.L) (F':=λb=>_\/b=cb) (bg f nx) (S2.fK (X:=λb=>(F1 b\/b=cb)\/b=T.k) (X':=λb=>(_\/b=cb)\/b=T.k) (λb u=>by
     rcases u with u|u|u
     ·exact .inl (.inl u)
     ·exact .inr u
     ·exact .inl (.inr u)) λb u=>by
     rcases u with (u|u)|u
     ·exact .inr (.inl u)
     ·exact .inr (.inr (.inr u))
     ·exact .inr (.inr (.inl u))) (λu=>u.elim k2 λe=>b7.1 (.inr e)) T2 λ_ _=>rfl
    rw[CM r1.ks (bg f nx)] at key;exact key
   have bD:∀{F2:Nat->Prop} {E:aa},Step (λb=>F1 b\/b=T.k\/b=cb) (λb=>F2 b\/b=T.k\/b=cb) D E->¬F2 cb->Mod (R.X F) A E/\∀b,(R.cV f R.d.s R.d.ts nx).X F2 b->R.X F b\/A.size<=b:=λS2 er=>by
    have et:=c7.size;refine⟨c7.trans' S2.mod λb hb u=>?_,λb u=>?_⟩
    ·rcases u with u|u|u
     ·exact(P b (.inl u)).resolve_right (by omega)
     ·exact(P b (.inr (u▸bl f nx))).resolve_right (by omega)
     ·have:=eC.size;omega
    ·rcases u with u|u
     ·rcases S2.own b (.inl u) with (v|v|v)|v
      ·exact P b (.inl v)
      ·exact P b (.inr (v▸bl f nx))
      ·exact absurd (v▸u) er
      ·exact .inr (by omega)
     ·exact P b (.inr u)
   refine b8.next p1 hg ⟨λu=>b7.1 (.inl u),b7.2⟩ c8 c5 ep ek hQ (by omega) c1 (λb9 F2 s2 E p2 T2 S2 k2 c2=>?_) (λy hy F2 s2 E sl bB p2 T2 S2 k2 c2 ol f2=>?_)
   ·-- the end: delta's trees are dropped
    have dk:i=T.L.length:=by
     rw[b5] at b9;have:T.L.drop i=[]:=by cases hq:T.L.drop i with
      |nil=>rfl
      |cons a b=>rw[hq] at b9;cases b9
     have:=List.drop_eq_nil_iff.1 this;omega
    refine⟨λz G=>z=0/\G=E,?_,?_⟩
    ·exact az rfl ⟨rfl,rfl⟩
    rintro _ _ ⟨rfl,rfl⟩;refine az rfl ?_;refine aT rfl ?_;have r2:=c9 p2 T2 S2 k2;obtain⟨a6,S⟩:=bD S2 c2.cb.1;have rl:aW H0 _ F2 p M1 (R.cV f R.d.s R.d.ts nx):=r2.less λb u=>.inl u;refine ab.ld (c:=aq) (i:=7) (x:=av R.d.pb) rl.row rfl ?_;refine Fo (R:=R.cV f R.d.s R.d.ts nx) ⟨p2,rl,o1.lQ rl (QZ J.count (by show 3*R.ords.length<=100;omega))⟩ hg cB λF3 s3 M3 U3 G p3 r3 S3 a7 eu=>?_;refine az rfl ?_;have ev:∀t∈(R.cV f R.d.s R.d.ts nx).d.ts,∃j,t.n=eN R.name j:=λt ht=>by
     obtain⟨j,_,e⟩:=rl.nms t (ak.dj (q:=(R.cV f R.d.s R.d.ts nx).d) (by simp[ak.parts]) t ht);exact⟨j,e⟩
    have bE:∀a,(∀j,a≠eN R.name j)->M3 a=M a:=λa N=>by
     rw[a7 a λt ht e=>by obtain⟨j,ej⟩:=ev t ht;exact N j (e.trans ej)];exact a1 a N
    have a8:(R.cV f R.d.s R.d.ts nx).lost=R.cV f (Sl.mk none 0 0) [] nx:=rfl;rw[a8] at r3 S3;have dt:ov M3 1100:=(o.go (R':=R.cV f (Sl.mk none 0 0) [] nx) rfl bE).lQ r3 (by
     refine QZ ?_ (show 3*R.ords.length<=100 by omega);rw[<-a8];exact QZ ((R.cV f R.d.s R.d.ts nx).sM.length_le) J.count)
    have eI:(R.cV f R.d.s R.d.ts nx).d.ts.length<=100:=cB;rw[dk,Sc] at P1;rw[dk] at bA;refine⟨F3,s3,M3,U3,f,_,nx,⟨p3.later (by omega),r3,dt⟩,P1,bs,bA,⟨a6.trans' S3.mod λb hb u=>?_,λb u=>?_⟩,bE⟩
    ·exact(S b u).resolve_right (by omega)
    ·rcases S3.own b u with v|v
     ·exact S b v
     ·have:=a6.size;exact .inr (by omega)
   ·-- a row goes into full
    have r2:=c9 p2 T2 S2 k2;obtain⟨a6,S⟩:=bD S2 c2.cb.1;have rl:aW H0 E F2 p M1 (R.cV f R.d.s R.d.ts nx):=r2.less λb u=>.inl u;have ba:i<T.L.length:=by
     apply Tb;intro ff;rw[b5,Vx (by omega)] at hy;cases hy
    have cm:y=T.L[i]/\T.L.filter (pq y true)=T.L.drop (i+1):=by
     have h2:=wC b8.pS hy;rw[b5,RG ba] at hy h2;exact⟨(Qq hy).symm,h2⟩
    have dT:=b8.rows y (by rw[cm.1];exact Qn _);have ea:iL ((R.cV f R.d.s R.d.ts nx).X F2) E sl:=λad N=>by
     have g:=f2.1 _ ⟨ad,N,rfl⟩;refine⟨(ol.block _ ⟨ad,N,rfl⟩).2,λu=>?_⟩;rcases u with u|u
     ·exact g.2.1 u
     ·have:=r1.lt _ u;omega
    have ew:(R.cV f R.d.s R.d.ts nx).Fit:=⟨hF.W,hF.name,by show nx<=1000;omega,λt ht=>QZ (J.rows t ht) b1⟩;have fi:=o1.used rl p2.calm.told J.rows;have bC:=J.count;have ey:(R.cV f R.d.s R.d.ts nx).all.length*(2*w+2)<=3*R.ords.length*(2*w+2):=Ra _ bC;refine⟨λz G=>z=0/\∃F3 s3 M3 U3 Z H,aM H0 G F3 p dp s3 M3 Q U3 most (m+v*(i+1))/\aW H0 G (λb=>F3 b\/b=cb) p M3 (R.cV Z R.d.s R.d.ts H)/\uo R.ords (T.L.take (i+1)) R.f Z/\(Z.s=R.f.s\/∀b,al Z.s b->A.size<=b)/\H<=R.next+(i+1)*R.ords.length/\jZ G F3 T.k cb bB y true/\iL (λb=>(R.cV Z R.d.s R.d.ts H).X F3 b\/b=cb) G bB/\Mod (R.X F) A G/\(∀b,(R.cV Z R.d.s R.d.ts H).X F3 b->R.X F b\/A.size<=b)/\(∀a,(∀j,a≠eN R.name j)->M3 a=M a)/\cb<G.size,?_,?_⟩
    ·refine aT rfl ?_;refine ab.ld (c:=aq) (i:=6) (x:=av f.pb) rl.row rfl ?_;refine wH (R:=R.cV f R.d.s R.d.ts nx) (j:=0) (w:=w) ⟨p2,rl,o1.lQ rl (QZ J.count (by show 3*R.ords.length<=100;omega))⟩ hg ee ew hQ (by omega) (λj=>J.at_ (q:=(R.cV f R.d.s R.d.ts nx).get 0) (ak.get_mem _ 0) j) b1 (by show U1+R.ords.length*(2*w+6)+w+4<Q;omega) (by show 1100+R.ords.length<4096;omega) ho (J.parts _ (ak.get_mem _ 0)) J.ex rfl (by show nx+R.ords.length<=1000;omega) ol.ints ea (ht y dT.1 dT.2) λF3 s3 M3 U3 Z H G p3 I3 eu ae S3 a7 af=>?_;have e3:((R.cV f R.d.s R.d.ts nx).put 0 Z).fO H H=R.cV Z R.d.s R.d.ts H:=rfl;rw[e3] at p3 S3;have eA:Ins R.ords y f Z:=I3;have af:Z.s=f.s\/∀b,al Z.s b->E.size<=b:=af;have ae:H<=nx+R.ords.length:=ae;have fj:=S2.mod.size;have eL:cb<E.size:=by omega
     have bG:¬(R.cV f R.d.s R.d.ts nx).X F2 cb:=λu=>u.elim c2.cb.1 λv=>(r2.off _ v).1 (.inr rfl);have r3:aW H0 G (λb=>F3 b\/b=cb) p M3 (R.cV Z R.d.s R.d.ts H):=r2.beside (V:=λb=>b=cb) p3.rel S3 (λb u=>⟨by omega,λv=>c2.cb.1 (u▸v)⟩) (λq' cA=>by
      unfold ak.parts ak.cV at cA;simp only[Qs,QT,or_false] at cA;rcases cA with rfl|rfl|rfl
      ·exact af.imp (λe=>⟨f,by simp[ak.parts,ak.cV],e⟩) id
      ·exact .inl ⟨(R.cV f R.d.s R.d.ts nx).d,by simp[ak.parts],rfl⟩
      ·exact .inl ⟨R.e,by simp[ak.parts,ak.cV],rfl⟩) rfl rfl
     have eB:¬F3 cb:=λu=>(S3.own cb (.inl u)).elim bG λv=>by omega
     have b0:iL (λb=>(R.cV f R.d.s R.d.ts nx).X F2 b\/b=cb) E bB:=λad N=>by
      have g:=f2.2 _ ⟨ad,N,rfl⟩;refine⟨(c2.off ad N).1,λu=>?_⟩;rcases u with (u|u)|u
      ·exact(c2.off ad N).2 (.inl u)
      ·have:=r1.lt _ u;omega
      ·exact(c2.off ad N).2 (.inr (.inr u))
     have eD:Step (λb=>(R.cV f R.d.s R.d.ts nx).X F2 b\/b=cb) (λb=>(R.cV Z R.d.s R.d.ts H).X F3 b\/b=cb) E G:=S3.fK (λb u=>.inl u) λb u=>u.elim .inr λv=>.inl (.inr v);have et:=a6.size;refine⟨rfl,F3,s3,M3,U3,Z,H,p3.ar.later (by omega),r3,?_,?_,by omega,c2.go S3 bG (b0.mono λb _ u=>.inl u) (λb u=>.inl u) eB,b0.step eD,a6.trans' S3.mod λb hb u=>(S b u).resolve_right (by omega),λb u=>?_,λa N=>?_,by have:=S3.mod.size;omega⟩
     ·rw[RC,Qg ba,<-cm.1];exact P1.more eA
     ·rcases af with e|e
      ·rw[e];exact bs
      ·exact .inr λb hb=>by have:=e b hb;omega
     ·rcases S3.own b u with v|v
      ·exact S b v
      ·exact .inr (by omega)
     ·rw[a7 a N];exact a1 a N
    ·rintro _ G ⟨rfl,F3,s3,M3,U3,Z,H,p3,r3,P3,af,ae,c3,eb,eE,ec,a7,ed⟩;refine az rfl ?_;refine az rfl ?_;exact b6 ba () G ⟨F3,s3,M3,U3,Z,H,bB,y,true,p3,r3,P3,af,ae,c3,eb,cm.2,eE,ec,a7,ed⟩
  ·have hz:R.d.ts=[]:=QW (by
    have:¬(R.d.s.n:Int)>0:=of_decide_eq_false b3;omega)
   have eR:R.d.rows=[]:=by unfold aP.rows;rw[hz]
   rw[eR];rw[hz] at I S0;exact⟨F,s,M,U,R.f,R.d.s,R.next,⟨pB.later (by omega),I,c0⟩,uo.nil (sm.parts R.f (by simp[ak.parts])),.inl rfl,by omega,S0,λ_ _=>rfl⟩
 rintro _ C ⟨F',s',M',U',q',ds,nx,hp,P1,bs,bA,S1,a1⟩;exact Ec (R:=R.cV q' ds [] nx) hp rfl λnb D h2 S2 _=>hK F' s' M' U' q' nx nb D h2 P1 bs bA (S1.trans S2) a1
end
section
variable {H0 A B D:aa}{F F' X V:Nat->Prop}{p dp Q U most m c w:Nat}{s s':Pl}{M M':bd}{R:ak}{C:bc}{ll:List Int}{l:Sl}
theorem ak.Ea {n:Int}:(R.asked n).length<=2:=by
 unfold ak.asked;split
 ·exact Qm _
 ·split
  ·exact Ri _
  ·split
   ·exact Ri _
   ·exact QN _
end
end Go.Proofs.YtkehfflpbpdokaaGreatDoor
namespace Go.Proofs.YtkehfflpbpdokaaGreatDoor
theorem uM:∀{low z:List Int},low.length<=z.length/\z.take low.length=low->¬aL z low<0
 |[],z,_=>by cases z<;>simp[aL]
 |a::l,[],h=>by simp at h
 |a::l,b::z,h=>by
   obtain⟨h1,d⟩:=h;simp only[QJ,Vd,Xq] at h1 d;obtain⟨rfl,e⟩:=d;have f:=uM (low:=l) (z:=z) ⟨by omega,e⟩;unfold aL;simpa using f
theorem mr:∀{low y z:List Int},¬aL y low<0->aL y z<0->low.length<=z.length/\z.take low.length=low->low.length<=y.length->y.take low.length=low
 |[],y,z,_,_,_,_=>by simp
 |a::l,[],z,_,_,_,h=>by simp at h
 |a::l,b::y,[],_,_,h,_=>by simp at h
 |a::l,b::y,d::z,h1,f,i,j=>by
   obtain⟨g1,g2⟩:=i;simp only[QJ,Vd,Xq] at g1 g2 j;obtain⟨rfl,g3⟩:=g2;have e:b=d/\¬aL y l<0/\aL y z<0:=by
    unfold aL at h1 f;by_cases g:b<d
    ·simp[g] at h1
    ·by_cases o:d<b
     ·simp[g,o] at f
     ·have:b=d:=by omega
      subst this;simp at h1 f;exact⟨rfl,by omega,f⟩
   obtain⟨rfl,q,e2⟩:=e;have r:=mr (low:=l) q e2 ⟨by omega,g3⟩ (by omega);simp only[QJ,Vd];rw[r]
theorem vI {z:List Int}{p:List Int->Bool}:∀{l:List (List Int)},dG l->z∈l->(∀y∈l,(gO y z\/y=z)->p y=true)->z∈l.takeWhile p
 |[],_,h,_=>by cases h
 |a::t,d,h,b=>by
   obtain⟨f,a2⟩:=Rf.1 d;rw[Si];rcases Qs.1 h with e|e
   ·rw[if_pos (b a Qp (.inr e.symm)),e];exact Qp
   ·rw[if_pos (b a Qp (.inl (f z e)))];exact Qu _ (vI a2 e λy g=>b y (Qu _ g))
theorem Hh {low z:List Int}{L:List (List Int)}(g:dG L)(a:∀y∈L,low.length<=y.length):z∈lU low (L.filter (pq low false))↔z∈L/\fR z low=true:=by
 constructor
 ·intro h;exact⟨(QL.1 ((sG _ _).subset h)).1,by
   unfold lU at h;exact Rk.1 List.all_takeWhile z h⟩
 ·rintro⟨h1,b⟩;have d:low.length<=z.length/\z.take low.length=low:=of_decide_eq_true b;have hz:pq low false z=true:=by
   unfold pq;have:=uM d;simp[this]
  refine vI (g.sublist SD) (QL.2 ⟨h1,hz⟩) λy i u=>?_;obtain⟨e,f⟩:=QL.1 i;have j:¬aL y low<0:=by
   unfold pq at f;simpa using f
  rcases u with u|u
  ·exact decide_eq_true ⟨a y e,mr j u d (a y e)⟩
  ·rw[u];exact b
structure zw (R:ak)(So Sd Sn:List (List Int)):Prop where
 f:∀i,i<R.ords.length->∀y,y∈R.f.aQ i↔∃x∈So,y=bk x (R.ords.getD i [])
 d:∀i,i<R.ords.length->∀y,y∈R.d.aQ i↔∃x∈Sd,y=bk x (R.ords.getD i [])
 e:∀i,i<R.ords.length->∀y,y∈R.e.aQ i↔∃x∈Sn,y=bk x (R.ords.getD i [])
theorem uA {f:List (List Int)->List (List Int)}(a:f []=[])(i:Nat):∀qs:List aP,((qs.filterMap λq=>q.ts[i]?).map λt=>f t.L).flatten=(qs.map λq=>f (q.aQ i)).flatten
 |[]=>rfl
 |q::qs=>by
   have d:=uA a i qs;rw[RH,List.flatten_cons,<-d];unfold aP.aQ;cases b:q.ts[i]? with
   |none=>rw[List.filterMap_cons_none (f:=λq:aP=>q.ts[i]?) b,a];rfl
   |some t=>rw[List.filterMap_cons_some (f:=λq:aP=>q.ts[i]?) b];rfl
theorem lG {R:ak}{q:aP}(a:q∈R.parts){P:List (List Int)->Prop}(b:P [])(h:∀t∈R.all,P t.L)(i:Nat):P (q.aQ i):=by
 unfold aP.aQ;cases hi:q.ts[i]? with
 |none=>exact b
 |some t=>exact h t (ak.dj a t (Qi hi))
open Go.MapKept
structure dR (X:Nat->Prop)(A:aa)(s:Sl)(ls:List (List Int)):Prop where
 ex:∃rs:List Sl,aA A 0 cv 1 s (rs.map Sl.v)/\rs.length=ls.length/\∀(j:Nat) (r:Sl) (l:List Int),rs[j]?=some r->ls[j]?=some l->Ints .u64 A r l/\∀ad,r.a=some ad->ad.block<A.size/\¬X ad.block/\¬al s ad.block
 off:∀b,al s b->¬X b
section
variable {X X':Nat->Prop}{A B:aa}{s s':Sl}{ls:List (List Int)}{l:List Int}{r:Sl}
theorem dR.nil (X:Nat->Prop)(A:aa):dR X A (Sl.mk none 0 0) []:=⟨⟨[],aA.nil _ _ _ _,rfl,λj r l a=>by simp at a⟩,λb u=>by obtain⟨ad,h,_⟩:=u;cases h⟩
theorem dR.n (h:dR X A s ls):s.n=ls.length:=by
 obtain⟨rs,o,a,_⟩:=h.ex;have:=o.1;rw[QI] at this;omega
theorem dR.step (h:dR X A s ls)(S:Step X X' A B):dR X' B s ls:=by
 obtain⟨rs,o,g,hr⟩:=h.ex;refine⟨⟨rs,o.mod S.mod h.off,g,λj r l i a=>?_⟩,λb e u=>?_⟩
 ·obtain⟨q,f⟩:=hr j r l i a;refine⟨q.mod S.mod λad d=>(f ad d).2.1,λad d=>?_⟩;obtain⟨t,y,z⟩:=f ad d;exact⟨QP t S.mod.size,λv=>(S.own _ v).elim y λw=>by omega,z⟩
 ·exact(S.own b u).elim (h.off b e) λw=>by have:=(o.block b e).2;omega
theorem dR.lt (h:dR X A s ls):∀b,al s b->b<A.size:=λb a=>by
 obtain⟨rs,o,_,_⟩:=h.ex;exact(o.block b a).2
theorem dR.rows (h:dR X A s ls):Rows A s ls:=by
 obtain⟨rs,o,e,hr⟩:=h.ex;refine⟨h.n,λi hi=>?_⟩;have a:i<rs.length:=by omega
 obtain⟨ad,b,d⟩:=o.reads.at (i:=i) (by rw[QI];exact a);exact⟨ad,rs[i],b,by simpa using d,(hr i rs[i] ls[i] (Qg a) (Qg hi)).1⟩
theorem dR.mono (h:dR X A s ls)(f:∀b,b<A.size->X' b->X b):dR X' A s ls:=by
 obtain⟨rs,o,i,hr⟩:=h.ex;refine⟨⟨rs,o,i,λj r l q e=>?_⟩,λb g u=>h.off b g (f b (o.block b g).2 u)⟩;obtain⟨t,a⟩:=hr j r l q e;exact⟨t,λad d=>⟨(a ad d).1,λu=>(a ad d).2.1 (f _ (a ad d).1 u),(a ad d).2.2⟩⟩
theorem jR.step (h:jR X A s ls)(S:Step X X' A B):jR X' B s ls:=by
 have g:=h.mod S.mod;refine⟨g.len,λad b=>⟨(g.off ad b).1,λu=>(S.own _ u).elim (h.off ad b).2 λw=>by have:=(h.off ad b).1;omega⟩,λi hi=>?_⟩;obtain⟨ad,r,e,f,d,j⟩:=h.at' i hi;exact⟨ad,r,e,S.mod.cell f (by rw[cj];exact(h.off ad e).2),λa b=>⟨QP (d a b).1 S.mod.size,λu=>(S.own _ u).elim (d a b).2 λw=>by have:=(d a b).1;omega⟩,j.mod S.mod λa b=>(d a b).2⟩
end
section
variable {H0 A B:aa}{F F' E X:Nat->Prop}{p dp U U' m m':Nat}{s s':Pl}{M M':bd}{R R' T:ak}
end
structure LV (R:ak)(nm:ByteArray)(os3 So Sd Sn:List (List Int))(k:Nat):Prop where
 W:R.W=3
 name:R.name=nm
 size:nm.size<=90
 ords:R.ords=os3
 ex:R.ex=[]
 nb:R.nb=R.next
 next:R.next<=k*os3.length
 turns:R.turns<=k
 parts:∀q∈R.parts,q.ts=[]\/q.ts.length=os3.length
 spec:zw R So Sd Sn
section
variable {H0 A B:aa}{F F' E X:Nat->Prop}{p dp U U' m m' k k':Nat}{s s':Pl}{M M':bd}{R R' T:ak}{nm nm':ByteArray}{ords ords' So Sd Sn So' Sd' Sn':List (List Int)}
end
theorem oR {α:Type}{l m:List α}(h1:l.Nodup)(d:m.Nodup)(h:∀x,x∈l↔x∈m):l.length=m.length:=
 Nat.le_antisymm (ig h1 λa b=>(h a).1 b) (ig d λa b=>(h a).2 b)
section
variable {H0 A B:aa}{F F' E X:Nat->Prop}{p dp U U' m m' k k':Nat}{s s':Pl}{M M':bd}{R R' T:ak}{nm nm':ByteArray}{ords ords' So Sd Sn So' Sd' Sn':List (List Int)}
theorem LV.FF (hr:aW H0 A F p M R){q:aP}(a:q∈R.parts):dG q.rows:=by
 rw[kW];exact lG (P:=dG) a Tj (λt b=>(hr.tr t b).pS) 0
end
def yp (ords:List (List Int)):Prop:=ords=[[0,1]]\/ords=[[0,1],[1,0]]
theorem yp.mem {ords:List (List Int)}{x:List Int}(h:yp ords)(a:x∈ords):x=[0,1]\/x=[1,0]:=by
 rcases h with rfl|rfl
 ·exact .inl (by simpa using a)
 ·simpa using a
theorem yp.len {ords:List (List Int)}(h:yp ords):1<=ords.length/\ords.length<=2:=by
 rcases h with rfl|rfl<;>exact⟨by decide,by decide⟩
theorem yp.first {ords:List (List Int)}(h:yp ords):ords.getD 0 []=[0,1]:=by
 rcases h with rfl|rfl<;>rfl
structure fe (So Sd Sn:List (List Int)):Prop where
 mem:∀x∈So++Sd++Sn,x.length=2/\cO x
 nodup:(So++Sd++Sn).Nodup
 few:So.length+Sd.length+Sn.length<=40
structure iY (R:ak)(So Sd Sn:List (List Int))(k:Nat):Prop where
 W:R.W=2
 size:R.name.size<=90
 ords:yp R.ords
 ex:R.ex=[]
 nb:R.nb=R.next
 next:R.next<=k*2
 turns:R.turns<=k
 parts:∀q∈R.parts,q.ts=[]\/q.ts.length=R.ords.length
 spec:zw R So Sd Sn
theorem Hv {x:List Int}(d:x.length=2):bk x [0,1]=x:=by
 match x,d with
 |[a,b],_=>rfl
theorem yK {o x:List Int}(e:o=[0,1]\/o=[1,0])(f:x.length=2)(d:cO x):(bk x o).length=2/\cO (bk x o):=by
 match x,f with
 |[a,b],_=>
   have g:=d a (by simp);have h:=d b (by simp);rcases e with rfl|rfl
   ·exact⟨rfl,d⟩
   ·refine⟨rfl,λz hz=>?_⟩;have hz:z∈[b,a]:=hz;simp only[Qs,QT,or_false] at hz;rcases hz with rfl|rfl
    ·exact h
    ·exact g
structure RS (H0 A:aa)(F E:Nat->Prop)(p dp:Nat)(s:Pl)(M:bd)(U m:Nat)(R:ak):Prop where
 ar:aM H0 A F p dp s M 100000 U 12 m
 rel:aW H0 A (λb=>F b\/E b) p M R
 lQ:∀a y,M a=some y->∃j,a=eN R.name j
 beside:∀b,E b->b<A.size/\¬F b/\H0.size<=b
section
variable {H0 A B:aa}{F F' E X N:Nat->Prop}{p dp U U' m m' k k':Nat}{s s':Pl}{M M':bd}{R R':ak}{So Sd Sn:List (List Int)}
theorem RS.vh (h:RS H0 A F E p dp s M U m R):aW H0 A F p M R:=h.rel.less λb u=>.inl u
theorem RS.NB (h:RS H0 A F E p dp s M U m R):EX M R [] 0:=⟨λa y q=>.inr (h.lQ a y q),λa b=>(by cases b),Qm _,QN _⟩
theorem RS.MK (h:RS H0 A F E p dp s M U m R)(i:aM H0 B F' p dp s' M' 100000 U' 12 m')(hr:aW H0 B F' p M' R')(S:Step (R.X F) (R'.X F') A B)(hs:∀q'∈R'.parts,(∃q∈R.parts,q'.s=q.s)\/∀b,al q'.s b->A.size<=b)(f:R'.os=R.os)(o:R'.ords=R.ords)(t:R'.name=R.name)(G:∀a,(∀j,a≠eN R.name j)->M' a=M a):RS H0 B F' E p dp s' M' U' m' R':=by
 refine⟨i,h.rel.beside hr S (λb d=>⟨(h.beside b d).1,(h.beside b d).2.1⟩) hs f o,λa y q=>?_,λb d=>?_⟩
 ·rw[t];by_cases g:∃j,a=eN R.name j
  ·exact g
  ·rw[G a λj e=>g ⟨j,e⟩] at q;exact h.lQ a y q
 ·obtain⟨I,b2,H⟩:=h.beside b d;have z:=S.mod.size;exact⟨by omega,λu=>(S.own b (.inl u)).elim (λv=>v.elim b2 λw=>(h.rel.off b w).1 (.inr d)) λv=>by omega,H⟩
theorem RS.write (h:RS H0 A F E p dp s M U m R)(d:Mod E A B)(e:∀b,N b->A.size<=b/\b<B.size):RS H0 B F (λb=>E b\/N b) p dp s M U m R:=by
 have z:=h.ar.ext.size;refine⟨h.ar.aside ⟨QZ z d.size,λb a _=>(d.same b (QP a z) λu=>by have:=(h.beside b u).2.2;omega).trans (h.ar.ext.same b a id)⟩ λb a=>d.same b (h.ar.ar.lt b a) λu=>(h.beside b u).2.1 a,?_,h.lQ,λb a=>?_⟩
 ·refine h.rel.ar ⟨d.mono λb _ u=>.inr u,λb u=>?_⟩;rcases u with u|u|u
  ·exact .inl (.inl u)
  ·exact .inl (.inr u)
  ·exact .inr (e b u).1
 ·rcases a with u|u
  ·exact⟨QP (h.beside b u).1 d.size,(h.beside b u).2⟩
  ·have:=e b u;exact⟨this.2,λv=>by have:=h.ar.ar.lt b v;omega,by omega⟩
theorem RS.less (h:RS H0 A F E p dp s M U m R)(e:∀b,X b->E b):RS H0 A F X p dp s M U m R:=
 ⟨h.ar,h.rel.less λb u=>u.imp id (e b),h.lQ,λb u=>h.beside b (e b u)⟩
theorem RS.off (h:RS H0 A F E p dp s M U m R){b:Nat}(a:R.X F b):b<A.size/\H0.size<=b/\¬E b:=by
 rcases a with u|u
 ·exact⟨h.ar.ar.lt b u,h.ar.old b u,λv=>(h.beside b v).2.1 u⟩
 ·exact⟨h.rel.lt b u,(h.rel.off b u).2,λv=>(h.rel.off b u).1 (.inr v)⟩
theorem zw.Pt (sp:zw R So Sd Sn){q:aP}(a:q∈R.parts):∃S:List (List Int),S.length<=So.length+Sd.length+Sn.length/\∀i,i<R.ords.length->∀y,y∈q.aQ i↔∃x∈S,y=bk x (R.ords.getD i []):=by
 unfold ak.parts at a;simp only[Qs,QT,or_false] at a;rcases a with rfl|rfl|rfl
 ·exact⟨So,by omega,sp.f⟩
 ·exact⟨Sd,by omega,sp.d⟩
 ·exact⟨Sn,by omega,sp.e⟩
theorem iY.CN (ok:iY R So Sd Sn k)(hr:aW H0 A F p M R){q:aP}(a:q∈R.parts){S:List (List Int)}(b:∀i,i<R.ords.length->∀y,y∈q.aQ i↔∃x∈S,y=bk x (R.ords.getD i []))(i:Nat):(q.aQ i).length<=S.length:=by
 by_cases hi:i<R.ords.length
 ·have d:dG (q.aQ i):=lG (P:=dG) a Tj (λt e=>(hr.tr t e).pS) i;have:=ig (gq d) (B:=S.map λx=>bk x (R.ords.getD i [])) λy f=>by
   obtain⟨x,h1,g⟩:=(b i hi y).1 f;exact QB.2 ⟨x,h1,g.symm⟩
  rwa [QI] at this
 ·have:q.ts[i]?=none:=by
   rw[WX];rcases ok.parts q a with u|u
   ·rw[u];exact QN _
   ·rw[u];omega
  unfold aP.aQ;rw[this];exact QN _
theorem iY.small (ok:iY R So Sd Sn k)(e:fe So Sd Sn)(hr:aW H0 A F p M R):R.Small 40:=by
 refine⟨ok.parts,ok.ex,λt a=>?_⟩;have b:∃q∈R.parts,t∈q.ts:=by
  unfold ak.all at a;rw[ok.ex] at a;simp only[Qj,QT,or_false] at a;rcases a with u|u|u
  ·exact⟨R.f,by simp[ak.parts],u⟩
  ·exact⟨R.d,by simp[ak.parts],u⟩
  ·exact⟨R.e,by simp[ak.parts],u⟩
 obtain⟨q,b,f⟩:=b;obtain⟨i,hi⟩:=Qr.1 f;obtain⟨S,h,g⟩:=ok.spec.Pt b;have d:=ok.CN hr b g i;unfold aP.aQ at d;rw[hi] at d;have:=e.few;have d:t.L.length<=S.length:=d;omega
theorem iY.fit (ok:iY R So Sd Sn k)(a:fe So Sd Sn)(hr:aW H0 A F p M R)(b:R.next<=1000):R.Fit:=
 ⟨by rw[ok.W];decide,ok.size,by rw[ok.nb];exact b,λt d=>QZ ((ok.small a hr).rows t d) (by decide)⟩
theorem iY.iF (ok:iY R So Sd Sn k)(a:fe So Sd Sn)(y:List Int):(y∈R.f.rows↔y∈So)/\(y∈R.d.rows↔y∈Sd)/\(y∈R.e.rows↔y∈Sn):=by
 have b:0<R.ords.length:=ok.ords.len.1;have key:∀S:List (List Int),(∀x∈S,x∈So++Sd++Sn)->((∃x∈S,y=bk x (R.ords.getD 0 []))↔y∈S):=λS d=>by
  rw[ok.ords.first];constructor
  ·rintro⟨x,h1,e⟩;rw[e,Hv (a.mem x (d x h1)).1];exact h1
  ·intro h;exact⟨y,h,(Hv (a.mem y (d y h)).1).symm⟩
 refine⟨?_,?_,?_⟩
 ·rw[kW,ok.spec.f 0 b];exact key So λx h=>by simp[h]
 ·rw[kW,ok.spec.d 0 b];exact key Sd λx h=>by simp[h]
 ·rw[kW,ok.spec.e 0 b];exact key Sn λx h=>by simp[h]
theorem iY.zI (ok:iY R So Sd Sn k){y:List Int}(a:y.length=R.W)(b:cO y):∀i (hi:i<R.ords.length),R.ords[i].length<=1000/\(bk y R.ords[i]).length=R.W/\cO (bk y R.ords[i]):=λi hi=>by
 have hm:=ok.ords.mem (Qn hi);rw[ok.W] at a ⊢;exact⟨by rcases hm with e|e<;>(rw[e];decide),(yK hm a b).1,(yK hm a b).2⟩
theorem iY.count (ok:iY R So Sd Sn k)(a:fe So Sd Sn)(hr:aW H0 A F p M R):R.all.length<=6:=by
 have h1:=(ok.small a hr).count;have:=ok.ords.len.2;omega
set_option maxRecDepth 10000 in
theorem RS.add {l:Sl}{ll:List Int}{K:(Bool×Int)->aa->Prop}(t:RS H0 A F E p dp s M U m R)(ok:iY R So Sd Sn k)(f:fe So Sd Sn)(hg:Gl H0)(H:Pw H0)(hk:k<=200)(hm:m+4000000<=30000000000)(hl:Ints .u64 A l ll)(I:iL (R.X F) A l)(j:ll.length=2/\cO ll)
  (J:ll∈So++Sd++Sn->∀F' s' B,RS H0 B F' E p dp s' M U (m+4000000) R->Step (R.X F) (R.X F') A B->K (false,0) B)
  (O:ll∉So++Sd++Sn->∀F' s' M' U' R' B,RS H0 B F' E p dp s' M' U' (m+4000000) R'->iY R' So Sd (Sn++[ll]) (k+1)->R'.rb=R.rb->Step (R.X F) (R'.X F') A B->K (true,0) B):Fi.sp (av R.rb) l A K:=by
 have d:=t.vh;have P:=ok.small f d;have af:R.next<=400:=by
  have:=ok.next;omega
 have fit:=ok.fit f d (by omega);have S:=ok.count f d;have hU:=t.NB.used d t.ar.calm.told P.rows;obtain⟨a1,Z⟩:=ok.ords.len;have a6:R.all.length*(2*40+2)<=6*(2*40+2):=Ra _ S;have a7:R.ords.length*(2*40+6)<=2*(2*40+6):=Ra _ Z;have h:(∃q∈R.parts,ll∈q.rows)↔ll∈So++Sd++Sn:=by
  obtain⟨a,b,c⟩:=ok.iF f ll;simp only[ak.parts,Qs,QT,or_false,exists_eq_or_imp,exists_eq_left,Qj,a,b,c,or_assoc]
 refine qp (w:=40) ⟨t.ar,d,t.NB.lQ d (by omega)⟩ hg H fit (by decide) hm (λi=>P.at_ (ak.get_mem R 2) i) (by decide) (by omega) (by omega) (by omega) (P.parts _ (ak.get_mem R 2)) ok.ex ok.nb (by omega) hl I (by rw[ok.W];exact j.1) (ok.zI (by rw[ok.W];exact j.1) j.2) (λhp F' s' B o v=>?_) (λhp F' s' M' U' q' nx B o I1 _ a8 v hM hs=>?_)
 ·exact J (h.1 hp) F' s' B (t.MK o.ar o.rel v (λq g=>.inl ⟨q,g,rfl⟩) rfl rfl rfl λ_ _=>rfl) v
 ·have ae:∀q∈((R.put 2 q').fO nx nx).parts,(∃q0∈R.parts,q.s=q0.s)\/∀b,al q.s b->A.size<=b:=λq g=>by
   unfold ak.parts ak.fO ak.put at g;simp only[Qs,QT,or_false] at g;rcases g with rfl|rfl|rfl
   ·exact .inl ⟨R.f,by simp[ak.parts],rfl⟩
   ·exact .inl ⟨R.d,by simp[ak.parts],rfl⟩
   ·exact hs.imp (λe=>⟨R.e,by simp[ak.parts],e⟩) id
  refine O (λu=>hp (h.2 u)) F' s' M' U' _ B (t.MK o.ar o.rel v ae rfl rfl rfl hM) ?_ rfl v;have e2:=ok.next;refine⟨ok.W,ok.size,ok.ords,ok.ex,rfl,by show nx<=_;omega,by show R.turns<=_;have:=ok.turns;omega,λq g=>?_,ok.spec.f,ok.spec.d,λi hi y=>?_⟩
  ·unfold ak.parts ak.fO ak.put at g;simp only[Qs,QT,or_false] at g;rcases g with rfl|rfl|rfl
   ·exact ok.parts R.f (by simp[ak.parts])
   ·exact ok.parts R.d (by simp[ak.parts])
   ·exact .inr I1.len
  ·show y∈q'.aQ i↔_;have z:i<R.ords.length:=hi;rw[(I1.rows i z).1 y,show (R.get 2).aQ i=R.e.aQ i from rfl,ok.spec.e i z y];show y=bk ll (R.ords.getD i [])\/_↔∃x∈Sn++[ll],y=bk x (R.ords.getD i []);constructor
   ·rintro(e|⟨x,h1,G⟩)
    ·exact⟨ll,by simp,e⟩
    ·exact⟨x,Qj.2 (.inl h1),G⟩
   ·rintro⟨x,h1,G⟩;rcases Qj.1 h1 with u|u
    ·exact .inr ⟨x,u,G⟩
    ·rw[QV.1 u] at G;exact .inl G
theorem iY.lens (ok:iY R So Sd Sn k)(b:fe So Sd Sn)(hr:aW H0 A F p M R):R.f.rows.length=So.length/\R.d.rows.length=Sd.length/\R.e.rows.length=Sn.length:=by
 have d:=b.nodup;obtain⟨h1,e,_⟩:=QY.1 d;obtain⟨f,g,_⟩:=QY.1 h1;have a:=λq h=>gq (LV.FF (q:=q) hr h);exact⟨oR (a _ (by simp[ak.parts])) f λx=>(ok.iF b x).1,oR (a _ (by simp[ak.parts])) g λx=>(ok.iF b x).2.1,oR (a _ (by simp[ak.parts])) e λx=>(ok.iF b x).2.2⟩
set_option maxRecDepth 10000 in
theorem RS.fP {v:Nat}{K:(Int×Int)->aa->Prop}(t:RS H0 A F E p dp s M U m R)(ok:iY R So Sd Sn k)(a:fe So Sd Sn)(hg:Gl H0)(z:Pw H0)(hv:v=2000000)(hk:k<=200)(hm:m+v*(Sd.length+2)<=30000000000)
  (hK:∀F' s' M' U' R' B,RS H0 B F' E p dp s' M' U' (m+v*(Sd.length+2)) R'->iY R' (So++Sd) Sn [] (k+Sd.length+1)->R'.rb=R.rb->Step (R.X F) (R'.X F') A B->K ((Sn.length:Int),0) B):Cy.sp (av R.rb) A K:=by
 have d:=t.vh;have sm:=ok.small a d;have ae:R.next<=400:=by
  have:=ok.next;omega
 have fit:=ok.fit a d (by omega);have af:=ok.count a d;obtain⟨G,f⟩:=ok.ords.len;obtain⟨lf,ld,le⟩:=ok.lens a d;have few:=a.few;have a1:3*R.ords.length*(2*40+2)<=6*(2*40+2):=Ra _ (by omega);have a6:R.ords.length*(2*40+6)<=2*(2*40+6):=Ra _ f;have a7:(R.d.rows.length+1)*R.ords.length<=41*2:=Uj (by omega) f;have H:R.turns<=1000000:=by have:=ok.turns;omega
 have I:∀i,i<R.ords.length->(R.f.aQ i).length+R.d.rows.length<=40:=λi _=>by
  have:=ok.CN d (q:=R.f) (by simp[ak.parts]) ok.spec.f i;omega
 refine yL (w:=40) (v:=v) (c:=1100) ⟨t.ar,d,t.NB.lQ d (by omega)⟩ hg z hv fit t.NB sm I (by decide) (by decide) (by omega) (by omega) G ok.nb (by omega) (by rw[ld];exact hm) H (λy hy hf=>ok.zI hy hf) λF' s' M' U' q' nx nb B J P1 O P Z hM=>?_;rw[le];rw[ld] at J;have S:∀q∈(R.after q' nx nb).parts,(∃q0∈R.parts,q.s=q0.s)\/∀b,al q.s b->A.size<=b:=λq g=>by
  unfold ak.parts ak.after at g;simp only[Qs,QT,or_false] at g;rcases g with rfl|rfl|rfl
  ·exact O.imp (λe=>⟨R.f,by simp[ak.parts],e⟩) id
  ·exact .inl ⟨R.e,by simp[ak.parts],rfl⟩
  ·exact .inr λb hb=>by obtain⟨ad,h,_⟩:=hb;cases h
 refine hK F' s' M' U' _ B (t.MK J.ar J.rel Z S rfl rfl rfl hM) ?_ rfl Z;have e1:Sd.length*R.ords.length<=Sd.length*2:=Sk _ f;have e2:=ok.next;rw[ld] at P;refine⟨ok.W,ok.size,ok.ords,ok.ex,rfl,by show nx<=_;omega,by show R.turns+1<=_;have:=ok.turns;omega,λq g=>?_,λi hi y=>?_,ok.spec.e,λi hi y=>?_⟩
 ·unfold ak.parts ak.after at g;simp only[Qs,QT,or_false] at g;rcases g with rfl|rfl|rfl
  ·exact P1.ts
  ·exact ok.parts R.e (by simp[ak.parts])
  ·exact .inl rfl
 ·show y∈q'.aQ i↔∃x∈So++Sd,y=bk x (R.ords.getD i []);have o:i<R.ords.length:=hi;rw[P1.mem i o y,ok.spec.f i o y];constructor
  ·rintro(⟨x,h1,j⟩|⟨x,h1,j⟩)
   ·exact⟨x,Qj.2 (.inl h1),j⟩
   ·exact⟨x,Qj.2 (.inr ((ok.iF a x).2.1.1 h1)),j⟩
  ·rintro⟨x,h1,j⟩;rcases Qj.1 h1 with u|u
   ·exact .inl ⟨x,u,j⟩
   ·exact .inr ⟨x,(ok.iF a x).2.1.2 u,j⟩
 ·constructor
  ·intro h;have h:y∈([]:List (List Int)):=h;cases h
  ·rintro⟨x,h,_⟩;cases h
end
structure Ak (H0 A:aa)(X E:Nat->Prop):Prop where
 x:∀b,X b->b<A.size/\H0.size<=b/\¬E b
 e:∀b,E b->b<A.size/\H0.size<=b
section
variable {H0 A B:aa}{X X' E E' N:Nat->Prop}
theorem Ak.less (h:Ak H0 A X E)(he:∀b,E' b->E b):Ak H0 A X E':=⟨λb u=>⟨(h.x b u).1,(h.x b u).2.1,λv=>(h.x b u).2.2 (he b v)⟩,λb u=>h.e b (he b u)⟩
theorem Ak.write (h:Ak H0 A X E)(hz:H0.size<=A.size)(d:A.size<=B.size)(a:∀b,N b->A.size<=b/\b<B.size):Ak H0 B X (λb=>E b\/N b):=
 ⟨λb u=>⟨by have:=(h.x b u).1;omega,(h.x b u).2.1,λv=>v.elim (h.x b u).2.2 λw=>by have:=(h.x b u).1;have:=(a b w).1;omega⟩,λb u=>u.elim (λv=>by have:=h.e b v;omega) λv=>by have:=a b v;omega⟩
theorem Ak.step (h:Ak H0 A X E)(hz:H0.size<=A.size)(S:Step X X' A B)(a:∀b,X' b->b<B.size):Ak H0 B X' E:=by
 have:=S.mod.size;refine⟨λb u=>⟨a b u,?_,λv=>?_⟩,λb u=>by have:=h.e b u;omega⟩
 ·rcases S.own b u with w|w
  ·exact(h.x b w).2.1
  ·omega
 ·rcases S.own b u with w|w
  ·exact(h.x b w).2.2 v
  ·have:=(h.e b v).1;omega
end
def Aa:Nat:=123000000
structure CU (R:ak)(C:bc)(cl wl:List Int):Prop where
 order:C.order=0
 cols:C.colsL=cl
 words:C.wordsL=wl
 turns:C.turns=R.turns
 len:C.tcs.length<=2
 st:(C.begun=true/\C.hs.length=C.tcs.length)\/(C.begun=false/\C.bH=Sl.mk none 0 0)
 iu:C.iu
 nodup:C.rem.flatten.Nodup
 pS:∀l∈C.rem,dG l
 row:∀l∈C.rem,∀y∈l,y.length=2
section
variable {H0 A B:aa}{F F' E E' X X' N:Nat->Prop}{p dp U U' m m' k k' n rb cb:Nat}{s s':Pl}{M M':bd}{R R':ak}{C C2:bc}{So Sd Sn ls:List (List Int)}{cl wl:List Int}
theorem CU.later {es:List (List Int)}(h:CU R C cl wl)(l:qf C C2)(t:fM C.rem es C2.rem):CU R C2 cl wl:=
 ⟨l.order.trans h.order,l.colsL.trans h.cols,l.wordsL.trans h.words,l.turns.trans h.turns,by rw[l.len];exact h.len,l.st,l.iu,t.nodup h.nodup,t.iu h.pS,λx b y d=>by
  obtain⟨z,hz,a⟩:=t.mem ⟨x,b,d⟩;exact h.row z hz y a⟩
theorem cz.NG (h:cz H0 A F p M R C)(he:∀b,E b->C.ext b):cz H0 A F p M R (C.rh E):=by
 have o1:∀b,(C.rh E).su b->C.su b:=λb u=>by
  rcases u with u|u|u|u
  ·exact .inl u
  ·exact .inr (.inl u)
  ·exact .inr (.inr (.inl u))
  ·exact .inr (.inr (.inr (he b u)))
 have f:∀b,(C.rh E).Z F b->C.Z F b:=λb u=>u.imp id (o1 b);have a:∀b,b<A.size->R.X ((C.rh E).Z F) b->R.X (C.Z F) b:=λb _ u=>u.imp (f b) id;refine⟨h.rel.less f,h.row,⟨h.low.1,h.low.2.mono a⟩,⟨h.cols.1,h.cols.2.mono a⟩,⟨h.words.1,h.words.2.mono a⟩,⟨h.fr.len,h.fr.off.mono a,h.fr.reads⟩,λu hu=>?_,h.hd,λy e=>⟨(h.hr y e).1,λz hz=>⟨((h.hr y e).2 z hz).1,((h.hr y e).2 z hz).2.1,((h.hr y e).2 z hz).2.2.mono a⟩⟩,h.cbs,λb d=>h.off b (o1 b d),λb d=>h.ext b (he b d),λb d=>h.sep b (he b d)⟩;obtain⟨g,a2,a3⟩:=h.tc u hu;exact⟨g,a2,a3.mono a⟩
def cE (H0:aa)(rb:Nat)(So Sd Sn:List (List Int))(n:Nat)(A:aa)(X E:Nat->Prop):Prop:=
 ∃F p dp s M U m R k,RS H0 A F E p dp s M U m R/\iY R So Sd Sn k/\R.rb=rb/\k<=200/\m+Aa*n<=30000000000/\(∀b,R.X F b->X b)/\Ak H0 A X E
def jD (H0:aa)(rb:Nat)(So Sd Sn:List (List Int))(cl wl:List Int)(n cb:Nat)(A:aa)(X E:Nat->Prop)(ls:List (List Int)):Prop:=
 ∃F p dp s M U m R C k,aM H0 A F p dp s M 100000 U 12 m/\cz H0 A F p M R C/\C.ext=E/\C.cb=cb/\R.rb=rb/\(∀a y,M a=some y->∃j,a=eN R.name j)/\iY R So Sd Sn k/\k<=200/\CU R C cl wl/\ls=C.left R/\m+1000000*(C.tcs.length+1)*(C.rem.flatten.length+1)+Aa*n<=30000000000/\(∀b,R.X (C.Z0 F) b->X b)/\Ak H0 A X E
theorem cE.nv (h:cE H0 rb So Sd Sn n A X E):Ak H0 A X E:=by obtain⟨_,_,_,_,_,_,_,_,_,_,_,_,_,_,_,h⟩:=h;exact h
theorem cE.hz (h:cE H0 rb So Sd Sn n A X E):Ext H0 A:=by obtain⟨_,_,_,_,_,_,_,_,_,r,_⟩:=h;exact r.ar.ext
theorem jD.nv (h:jD H0 rb So Sd Sn cl wl n cb A X E ls):Ak H0 A X E:=by obtain⟨_,_,_,_,_,_,_,_,_,_,_,_,_,_,_,_,_,_,_,_,_,_,h⟩:=h;exact h
theorem jD.hz (h:jD H0 rb So Sd Sn cl wl n cb A X E ls):Ext H0 A:=by obtain⟨_,_,_,_,_,_,_,_,_,_,r,_⟩:=h;exact r.ext
theorem cE.write (h:cE H0 rb So Sd Sn n A X E)(a:Mod E A B)(d:∀b,N b->A.size<=b/\b<B.size):cE H0 rb So Sd Sn n B X (λb=>E b\/N b):=by
 have hz:=h.hz.size;obtain⟨F,p,dp,s,M,U,m,R,k,r,ok,e,e2,f,g,i⟩:=h;exact⟨F,p,dp,s,M,U,m,R,k,r.write a d,ok,e,e2,f,g,i.write hz a.size d⟩
theorem cE.less (h:cE H0 rb So Sd Sn n A X E)(he:∀b,E' b->E b):cE H0 rb So Sd Sn n A X E':=by
 obtain⟨F,p,dp,s,M,U,m,R,k,r,ok,a,e2,d,e,f⟩:=h;exact⟨F,p,dp,s,M,U,m,R,k,r.less he,ok,a,e2,d,e,f.less he⟩
theorem cE.GQ (h:cE H0 rb So Sd Sn n A X E){a:Nat}(b:a<=n):cE H0 rb So Sd Sn a A X E:=by
 obtain⟨F,p,dp,s,M,U,m,R,k,r,ok,d,e2,g,e,f⟩:=h;have:=Sk Aa b;exact⟨F,p,dp,s,M,U,m,R,k,r,ok,d,e2,by omega,e,f⟩
theorem jD.write (h:jD H0 rb So Sd Sn cl wl n cb A X E ls)(a:Mod E A B)(d:∀b,N b->A.size<=b/\b<B.size):jD H0 rb So Sd Sn cl wl n cb B X (λb=>E b\/N b) ls:=by
 have hz:=h.hz.size;obtain⟨F,p,dp,s,M,U,m,R,C,k,e,f,g,e2,i,j,ok,o,co,q,t,u,v⟩:=h;subst g;refine⟨F,p,dp,s,M,U,m,R,_,k,e.Jj f a,f.Nk e.ar.lt hz a d,rfl,e2,i,j,ok,o,⟨co.order,co.cols,co.words,co.turns,co.len,co.st,co.iu,co.nodup,co.pS,co.row⟩,q,t,u,v.write hz a.size d⟩
theorem jD.less (h:jD H0 rb So Sd Sn cl wl n cb A X E ls)(he:∀b,E' b->E b):jD H0 rb So Sd Sn cl wl n cb A X E' ls:=by
 obtain⟨F,p,dp,s,M,U,m,R,C,k,a,d,e,e2,f,g,ok,i,co,j,o,q,t⟩:=h;subst e;exact⟨F,p,dp,s,M,U,m,R,_,k,a,d.NG he,rfl,e2,f,g,ok,i,⟨co.order,co.cols,co.words,co.turns,co.len,co.st,co.iu,co.nodup,co.pS,co.row⟩,j,o,q,t.less he⟩
theorem jD.rest (h:jD H0 rb So Sd Sn cl wl n cb A X E ls):cE H0 rb So Sd Sn n A X E:=by
 obtain⟨F,p,dp,s,M,U,m,R,C,k,d,a,e,e2,f,g,ok,i,co,q,t,j,o⟩:=h;subst e;refine⟨F,p,dp,s,M,U,m,R,k,⟨d,a.rel.less λb u=>u.imp id λv=>.inr (.inr (.inr v)),g,λb u=>?_⟩,ok,f,i,by omega,λb u=>j b (u.imp .inl id),o⟩;have:=a.off b (.inr (.inr (.inr u)));exact⟨a.ext b u,this.1,this.2⟩
set_option maxHeartbeats 1000000 in
theorem ue {K:(Sl×Bool×Int)->aa->Prop}(hg:Gl H0)(t:fe So Sd Sn)(ae:cl.length<=1)(af:wl.length<=1)(h:jD H0 rb So Sd Sn cl wl n cb A X E ls)
  (z:ls=[]->∀B X',cE H0 rb So Sd Sn n B X' E->Step X X' A B->K (Sl.mk none 0 0,false,0) B)
  (G:∀l r x B X',ls=l::r->l.length=2->jD H0 rb So Sd Sn cl wl n cb B X' E r->Step X X' A B->aA B 0 gM 1 x (l.map (Ql .u64))->(∀b,al x b->A.size<=b/\¬X' b)->K (x,true,0) B):vD.sp (av cb) A K:=by
 have hz:=h.hz.size;obtain⟨F,p,dp,s,M,U,m,R,C,k,hP,Z,e1,e2,e3,e4,ok,e5,co,e6,e7,e8,H⟩:=h;subst e1 e2 e3;have q:aW H0 A F p M R:=Z.rel.less λb u=>.inl u;have I:=ok.ords.len.1;have f:R.ords.getD C.order []=[0,1]:=by rw[co.order];exact ok.ords.first
 obtain⟨W1,g⟩:∃W1,W1=1000000*(C.tcs.length+1):=⟨_,rfl⟩;rw[<-g] at e7;have fit:=ok.fit t q (by have:=ok.next;omega);have a:∀{B:aa} {C2:bc} {F':Nat->Prop} {s':Pl} {m':Nat},cz H0 B F' p M R C2->aM H0 B F' p dp s' M 100000 U 12 m'->C2.ext=C.ext->Step (R.X (C.Z0 F)) (R.X (C2.Z0 F')) A B->Step X (λb=>X b\/R.X (C2.Z0 F') b) A B/\Ak H0 B (λb=>X b\/R.X (C2.Z0 F') b) C.ext:=λ{B C2 F' s' m'} c2 p2 he S=>by
  have j:Step X (λb=>X b\/R.X (C2.Z0 F') b) A B:=S.fK e8 λb u=>u;refine⟨j,H.step hz j λb u=>?_⟩;rcases u with u|(u|u)|u
  ·exact QP (H.x b u).1 S.mod.size
  ·exact p2.ar.lt b u
  ·exact c2.lt b (bc.qu u)
  ·exact c2.rel.lt b u
 refine Aq (w:=1000000) (W1:=W1) hP Z hg fit (by decide) rfl g (by omega) (by have:=co.len;omega) co.turns (by rw[co.order];exact I) (by rw[f,ok.W];rfl) (by rw[f,ok.W];decide) (by rw[co.cols];omega) (by rw[co.words];omega) co.st co.iu (λl d y J=>by rw[ok.W];exact co.row l d y J) (λC2 es F' s' B lt o e i p2 c2 S=>?_) (λC2 es y out F' s' B lt o i J p2 c2 oo O S=>?_)
 ·obtain⟨j,b2⟩:=a c2 p2 lt.ext S;have d:=o.lens;rw[Xo.2 e] at d;have d:es.length=C.rem.flatten.length:=by simpa using d
  refine z (by rw[e6];exact bc.DQ o co.pS co.nodup e i) B _ ⟨F',p,dp,s',M,U,_,R,k,⟨p2,c2.rel.less λb u=>u.imp id λv=>.inr (.inr (.inr (lt.ext▸v))),e4,λb u=>?_⟩,ok,rfl,e5,by rw[d];omega,λb u=>.inr (u.imp .inl id),b2⟩ j;have u2:C2.ext b:=by rw[lt.ext];exact u
  have:=c2.off b (.inr (.inr (.inr u2)));exact⟨c2.ext b u2,this.1,this.2⟩
 ·obtain⟨j,b2⟩:=a c2 p2 lt.ext S;have d:=o.lens;rw[Qt,RF] at d;have he:ls=eS R.W (R.ords.getD C.order []) y R.W::C2.left R:=by rw[e6];exact bc.D7 o co.pS co.nodup i J lt.order lt.colsL lt.wordsL
  have a1:W1*(C.rem.flatten.length+1)=W1*(es.length+1)+W1*(C2.rem.flatten.length+1):=by rw[<-XM];congr 1;omega
  refine G _ _ out B _ he (by rw[f,ok.W];rfl) ⟨F',p,dp,s',M,U,_,R,C2,k,p2,c2,lt.ext,lt.cb,rfl,e4,ok,e5,co.later lt o,rfl,by rw[lt.len,<-g];omega,λb u=>.inr u,b2⟩ j oo λb P=>⟨(O b P).1,λu=>?_⟩;rcases u with u|u
  ·have:=(H.x b u).1;have:=(O b P).1;omega
  ·exact(O b P).2 (u.imp (λv=>v.imp id bc.qu) id)
end
theorem FQ {y:List Int}(d:y.length=2):eS 2 [0,1] y 2=y:=by
 match y,d with
 |[a,b],_=>rfl
def Ask (cl wl:List Int):Prop:=cl=[]/\wl=[]\/∃x,cl=[0]/\wl=[x]
theorem Ask.td {cl wl y:List Int}(h:Ask cl wl)(d:y.length=2):jw cl [0,1]=true/\(fR y ((([0,1]:List Int).take cl.length).map (iM cl wl))=true↔bk y cl=wl):=by
 match y,d with
 |[a,b],_=>
   rcases h with ⟨rfl,rfl⟩|⟨x,rfl,rfl⟩
   ·exact⟨rfl,by simp[fR,bk,gX]⟩
   ·refine⟨rfl,?_⟩;simp[fR,bk,gX,iM]
section
variable {H0 A B:aa}{F F' E X X' N:Nat->Prop}{p dp U m k n rb:Nat}{s:Pl}{M:bd}{R:ak}{C:bc}{So Sd Sn:List (List Int)}{cl wl:List Int}{cols words:Sl}
theorem GO {low:List Int}(ok:iY R So Sd Sn k)(o:fe So Sd Sn)(hr:aW H0 A F p M R)(ask:Ask cl wl)(ho:C.order=0)(hc:C.colsL=cl)(hw:C.wordsL=wl)(K:C.rem=(((R.asked 1).filterMap λq=>q.ts[0]?).map λt=>lU low (t.L.filter (pq low false))))(Z:low=(([0,1]:List Int).take cl.length).map (iM cl wl)):
  C.rem.flatten.Nodup/\(∀l∈C.rem,dG l)/\(∀l∈C.rem,∀y∈l,y.length=2)/\C.rem.flatten.length<=40/\C.left R=(fH (So++Sd)).filter λy=>decide (bk y cl=wl):=by
 have h0:0<R.ords.length:=ok.ords.len.1;have mf:R.f∈R.parts:=by simp[ak.parts]
 have md:R.d∈R.parts:=by simp[ak.parts]
 have F0:lU low (([]:List (List Int)).filter (pq low false))=[]:=rfl;have O:∀q∈R.parts,dG (q.aQ 0):=λq J=>lG (P:=dG) J Tj (λt S=>(hr.tr t S).pS) 0;have ae:∀q∈R.parts,∀y∈q.aQ 0,y.length=2:=λq J=>lG (P:=λL=>∀y∈L,y.length=2) J (λy j=>by cases j) (λt S y j=>by rw[((hr.tr t S).rows y j).1];exact ok.W) 0;have af:low.length<=2:=by
  rw[Z,QI,Qw];rcases ask with ⟨rfl,_⟩|⟨x,rfl,_⟩<;>simp
 have g:∀q∈R.parts,∀z,z∈lU low ((q.aQ 0).filter (pq low false))↔z∈q.aQ 0/\fR z low=true:=λq J z=>Hh (O q J) λy j=>by rw[ae q J y j];exact af
 have ascB:∀q∈R.parts,dG (lU low ((q.aQ 0).filter (pq low false))):=λq J=>(O q J).sublist ((sG _ _).trans SD);have a1:=(QY.1 o.nodup).1;have i:∀x∈So++Sd,x.length=2:=λx hx=>(o.mem x (Qj.2 (.inl hx))).1;have G:∀y,y∈R.f.aQ 0↔y∈So:=λy=>by rw[<-kW];exact(ok.iF o y).1
 have H:∀y,y∈R.d.aQ 0↔y∈Sd:=λy=>by rw[<-kW];exact(ok.iF o y).2.1
 have I:C.rem.flatten=lU low ((R.f.aQ 0).filter (pq low false))++lU low ((R.d.aQ 0).filter (pq low false)):=by
  rw[K,uA (f:=λL=>lU low (L.filter (pq low false))) F0];unfold ak.asked;rw[if_pos rfl];simp
 have nd:C.rem.flatten.Nodup:=by
  rw[I];refine QY.2 ⟨gq (ascB _ mf),gq (ascB _ md),λa ha b hb e=>?_⟩;have h1:=(G a).1 ((g _ mf a).1 ha).1;have h2:=(H b).1 ((g _ md b).1 hb).1;exact(QY.1 a1).2.2 a h1 b h2 e
 have d:∀z,z∈C.rem.flatten↔z∈So++Sd/\bk z cl=wl:=λz=>by
  rw[I,Qj,g _ mf,g _ md,G,H,Qj];constructor
  ·rintro(⟨u,v⟩|⟨u,v⟩)
   ·exact⟨.inl u,((ask.td (i z (Qj.2 (.inl u)))).2).1 (Z▸v)⟩
   ·exact⟨.inr u,((ask.td (i z (Qj.2 (.inr u)))).2).1 (Z▸v)⟩
  ·rintro⟨u|u,v⟩
   ·exact .inl ⟨u,Z▸((ask.td (i z (Qj.2 (.inl u)))).2).2 v⟩
   ·exact .inr ⟨u,Z▸((ask.td (i z (Qj.2 (.inr u)))).2).2 v⟩
 have a6:∀l∈C.rem,∃t∈(R.asked 1).filterMap (λq=>q.ts[0]?),l=lU low (t.L.filter (pq low false))/\t∈R.all:=λl h=>by
  rw[K] at h;obtain⟨t,S,rfl⟩:=QB.1 h;refine⟨t,S,rfl,?_⟩;obtain⟨q,J,e⟩:=UA.1 S;exact ak.dj (R.mM 1 q J) t (Qi e)
 refine⟨nd,λl h=>?_,λl h y j=>?_,?_,?_⟩
 ·obtain⟨t,_,rfl,S⟩:=a6 l h;exact((hr.tr t S).pS).sublist ((sG _ _).trans SD)
 ·exact i y ((d y).1 (TM.2 ⟨l,h,j⟩)).1
 ·have:=ig nd (B:=So++Sd) λz hz=>((d z).1 hz).1;have h2:=o.few;rw[Qt] at this;omega
 ·unfold bc.left;rw[ho,ok.ords.first,ok.W,hc,hw];have hb:∀y∈fH C.rem.flatten,eS 2 [0,1] y 2=y:=λy j=>FQ (i y ((d y).1 ((bR _).mem_iff.1 j)).1);have e1:((fH C.rem.flatten).filter λy=>decide (bk (eS 2 [0,1] y 2) cl=wl))=fH C.rem.flatten:=RQ.2 λy j=>by
   rw[hb y j];exact decide_eq_true ((d y).1 ((bR _).mem_iff.1 j)).2
  rw[e1];have e2:(fH C.rem.flatten).map (λy=>eS 2 [0,1] y 2)=fH C.rem.flatten:=by
   have:(fH C.rem.flatten).map (λy=>eS 2 [0,1] y 2)=(fH C.rem.flatten).map id:=Rx hb;rw[this,XK]
  rw[e2];refine tw (kE nd) ((kE a1).sublist SD) λy=>?_;rw[(bR _).mem_iff,d y,QL,(bR _).mem_iff,decide_eq_true_iff]
set_option maxHeartbeats 1000000 in
theorem sV {K:Option Addr->aa->Prop}(f:fe So Sd Sn)(h:cE H0 rb So Sd Sn (n+1) A X E)(ask:Ask cl wl)(hc:Ints .i64 A cols cl)(a8:cols.n<=cols.c)(hw:Ints .u64 A words wl)
  (hK:∀cb B X',jD H0 rb So Sd Sn cl wl n cb B X' E ((fH (So++Sd)).filter λy=>decide (bk y cl=wl))->Step X X' A B->Ext A B->X' cb->K (av cb) B):Fe.sp (av rb) 1 cols words A K:=by
 have hz:=h.hz.size;obtain⟨F,p,dp,s,M,U,m,R,k,r,ok,rfl,e2,e3,e4,e5⟩:=h;have ho:=ok.ords.len;have fit:=ok.fit f r.vh (by have:=ok.next;omega);have O:R.asked 1≠[]:=by unfold ak.asked;simp
 have G:cl.length<=1/\wl.length=cl.length/\(∀x∈cl,0<=x/\x<(R.W:Int))/\cl.Nodup:=by
  rw[ok.W];rcases ask with ⟨rfl,rfl⟩|⟨x,rfl,rfl⟩
  ·exact⟨by simp,rfl,λx hx=>absurd hx QT,Ti⟩
  ·exact⟨by simp,rfl,λx hx=>by rw[QV.1 hx];decide,by simp⟩
 have H:jw cl [0,1]=true:=(ask.td (y:=[0,0]) rfl).1;have bB:∀t∈R.all,t.L.length<=40:=(ok.small f r.vh).rows;have bs:=ok.count f r.vh;refine sY (V:=E) (n:=1) ⟨r.ar,r.vh,r.NB.lQ r.vh (by omega)⟩ r.beside r.rel O fit (by omega) ho.1 (λo h=>by rcases ok.ords.mem h with e|e<;>(rw[e,ok.W];rfl)) hc a8 hw G.2.1 G.2.2.1 G.2.2.2 (by rw[ok.W];omega) (λq hq=>ok.parts q (R.mM 1 q hq)) λC B P eB Z g i j ae v bC ba bD I z bg=>?_;have d:C.order=0/\C.lowL=(([0,1]:List Int).take cl.length).map (iM cl wl):=by
  have hf:jw cl (R.ords.getD 0 [])=true:=by rw[ok.ords.first];exact H
  rcases I with ⟨u1,u2,u3⟩|⟨u1,_,_⟩
  ·have:C.order=0:=by
    apply Tb;intro bE;have:=u2 0 (by omega);rw[hf] at this;cases this
   rw[this,ok.ords.first] at u3;exact⟨this,u3⟩
  ·have:=u1 (R.ords.getD 0 []) (by rw[QM,Qg ho.1];exact Qn _);rw[hf] at this;cases this
 obtain⟨d,af⟩:=d;have a1:C.rem=(((R.asked 1).filterMap λq=>q.ts[0]?).map λt=>lU C.lowL (t.L.filter (pq C.lowL false))):=by
  unfold bc.rem;rw[v,if_neg (by simp),<-d,<-z,RE];refine Rx λt ht=>?_;obtain⟨a,b⟩:=bg t ht;show lU C.lowL (t.t.L.filter (pq t.ll t.strict))=lU C.lowL (t.t.L.filter (pq C.lowL false));rw[a,b]
 obtain⟨g1,g2,g3,g4,g5⟩:=GO (C:=C) ok f r.vh ask d i j a1 af;have bl:C.tcs.length<=2:=by
  have:=congrArg Uc z;rw[QI] at this;have h2:=Xb (λq:aP=>q.ts[C.order]?) (R.asked 1);have:=R.Ea (n:=1);omega
 have a6:C.iu:=λt ht=>(P.rel.tr _ (P.tc t ht).1).pS;have zB:=eB.size;have bA:1000000*(C.tcs.length+1)*(C.rem.flatten.length+1)<=1000000*3*41:=Uj (Sk _ (by omega)) (by omega);have a7:Aa=123000000:=rfl;have J:∀b,C.th b->A.size<=b:=λb u=>by
  rcases Z b (bc.qu u) with x|x
  ·exact x
  ·exact absurd u (P.sep b (g▸x))
 have S:Step X (λb=>X b\/C.th b) A B:=⟨eB.mod,λb u=>u.imp id (J b)⟩;refine hK C.cb B _ ⟨F,p,dp,s,M,U,m,R,C,k,r.ar.grow eB,P,g,rfl,rfl,r.lQ,ok,e2,⟨d,i,j,ae,bl,.inr ⟨v,ba⟩,a6,g1,g2,g3⟩,g5.symm,?_,λb u=>?_,e5.step hz S λb u=>?_⟩ S eB (.inr (.inl rfl))
 ·rw[XM,a7] at e3;rw[a7];omega
 ·rcases u with (u|u)|u
  ·exact .inl (e4 b (.inl u))
  ·exact .inr u
  ·exact .inl (e4 b (.inr u))
 ·rcases u with u|u
  ·exact QP (e5.x b u).1 zB
  ·exact P.lt b (bc.qu u)
end
def kV:bd:=λ_=>none
theorem Oc {H A:aa}{F:Nat->Prop}{p dp:Nat}(e:Ext H A)(h:ax F A p dp (vY (AQ 60) 8))(j:∀b,F b->H.size<=b):aM H A F p dp (vY (AQ 60) 8) kV 60 0 8 1:=
 ⟨e,h,j,⟨⟨rfl,rfl,rfl,by decide,by decide,Ti,λi f a=>(by cases a),λn x d=>(by cases d),λg o=>(by cases o)⟩,BU (by decide) (by decide),λf a=>(by cases a)⟩,by decide,by decide,by decide,by decide,λn x d=>(by cases d),rfl⟩
theorem gy {A:aa}{k:Nat}{t:TypeId}{a:IntKind}{x y:Int}(r:ab A k t #[.int a x,.int a y]):Ints a A ⟨some ⟨k,0,none⟩,2,2⟩ [x,y]:=by
 refine⟨rfl,λi u hu=>⟨_,rfl,?_⟩⟩;have hi:i=0\/i=1:=by have:=(Qk.1 hu).1;simp at this;omega
 rcases hi with rfl|rfl
 ·simp at hu;subst hu;rw[bJ];exact r.cell rfl
 ·simp at hu;subst hu;rw[bJ];exact r.cell rfl
theorem gx {A:aa}{k:Nat}{t:TypeId}{a:IntKind}{x:Int}(r:ab A k t #[.int a x]):Ints a A ⟨some ⟨k,0,none⟩,1,1⟩ [x]:=by
 refine⟨rfl,λi u hu=>⟨_,rfl,?_⟩⟩;have hi:i=0:=by have:=(Qk.1 hu).1;simp at this;omega
 subst hi;simp at hu;subst hu;rw[bJ];exact r.cell rfl
theorem tt {x:List Int}{W:Nat}(e:x.Perm (upto W)):(x.mergeSort λa b=>decide (a<=b))=upto W:=by
 have tr:∀a b c:Int,decide (a<=b)=true->decide (b<=c)=true->decide (a<=c)=true:=λa b c h1 d=>by simp only[decide_eq_true_eq] at*;omega
 have to:∀a b:Int,(decide (a<=b)||decide (b<=a))=true:=λa b=>by simp only[Rm,decide_eq_true_eq];omega
 refine List.Perm.eq_of_pairwise (le:=λa b=>decide (a<=b)=true) (λa b _ _ h1 d=>?_) (TH tr to x) ?_ ((Sj x _).trans e)
 ·simp only[decide_eq_true_eq] at h1 d;omega
 ·unfold upto;rw[SH];exact UO (λ{a b} h=>decide_eq_true (by omega)) (List.pairwise_lt_range (n:=W))
section
variable {H0 A B D:aa}{F F' X:Nat->Prop}{p dp Q U most m c:Nat}{s s':Pl}{M M':bd}{R:ak}{C:bc}{ll:List Int}{l:Sl}
theorem CK {t:TypeId}{cs:Array Value}{n c:Nat}{Y:Nat->Prop}(a:∀b,Y b->b<A.size)(r:ab B A.size t cs):iL Y B ⟨some ⟨A.size,0,none⟩,n,c⟩:=λad d=>by
 have:ad=⟨A.size,0,none⟩:=(Qq d).symm;subst this;exact⟨aI r,λu=>by have:=a _ u;simp at this⟩
theorem nV {q:aP}{i:Nat}{t:Tx}(h:q.ts[i]?=some t):q.aQ i=t.L:=by unfold aP.aQ;rw[h]
theorem FY {R:ak}(g:R.W=2)(d:R.name.size<=90)(b:R.nb<=1000)(e:R.f.ts=[])(hd:R.d.ts=[])(f:R.ex=[])(he:∀i,(R.e.aQ i).length<=400):R.Fit:=by
 refine⟨by omega,d,b,λt a=>?_⟩;unfold ak.all at a;rw[e,hd,f] at a;simp only[RB,RA] at a;obtain⟨i,hi⟩:=Qr.1 a;rw[<-nV hi];exact he i
theorem Bq {q:aP}{i:Nat}(h:q.ts.length<=i):q.aQ i=[]:=by unfold aP.aQ;rw[List.getElem?_eq_none h]
end
structure jH (H0 A:aa)(F E:Nat->Prop)(p dp:Nat)(s:Pl)(M:bd)(m:Nat)(R:ak)(T:Tx):Prop where
 ar:∃U,aM H0 A F p dp s M 60 U 8 m
 rel:aW H0 A (λb=>F b\/E b) p M R
 lQ:ov M 100
 ext:∀b,E b->b<A.size/\¬F b/\H0.size<=b
 fit:R.Fit
 W:R.W=2
 ords:R.ords=[[0,1]]
 f:R.f.ts=[]
 d:R.d.ts=[T]
 TL:T.L=[[2,7],[2,8]]
structure N0 (C:bc)(R:ak)(x:Int)(T:Tx):Prop where
 order:C.order=0
 lowL:C.lowL=[x]
 colsL:C.colsL=[0]
 wordsL:C.wordsL=[x]
 turns:C.turns=R.turns
 begun:C.begun=false
 hs:C.hs=[]
 bH:C.bH=Sl.mk none 0 0
 tc:∃tc,C.tcs=[tc]/\tc.t=T/\tc.ll=[x]/\tc.strict=false
section
variable {H0 A B:aa}{F F' E X:Nat->Prop}{p dp m:Nat}{s s':Pl}{M M':bd}{R:ak}{C:bc}{T:Tx}{x:Int}
theorem jH.grow (h:jH H0 A F E p dp s M m R T)(e:Ext A B):jH H0 B F E p dp s M m R T:=by
 obtain⟨U,d⟩:=h.ar;exact⟨⟨U,d.grow e⟩,h.rel.grow e,h.lQ,λb a=>⟨by have:=(h.ext b a).1;have:=e.size;omega,(h.ext b a).2⟩,h.fit,h.W,h.ords,h.f,h.d,h.TL⟩
theorem jH.more (h:jH H0 A F E p dp s M m R T)(e:Ext A B)(a:∀b,X b->A.size<=b/\b<B.size):jH H0 B F (λb=>E b\/X b) p dp s M m R T:=by
 obtain⟨U,d⟩:=h.ar;have hz:=d.ext.size;refine⟨⟨U,d.grow e⟩,(h.rel.fresh e λb u=>(a b u).1).congr λb=>⟨λu=>?_,λu=>?_⟩,h.lQ,λb f=>?_,h.fit,h.W,h.ords,h.f,h.d,h.TL⟩
 ·rcases u with (u|u)|u
  ·exact .inl u
  ·exact .inr (.inl u)
  ·exact .inr (.inr u)
 ·rcases u with u|u|u
  ·exact .inl (.inl u)
  ·exact .inl (.inr u)
  ·exact .inr u
 ·rcases f with u|u
  ·exact⟨by have:=(h.ext b u).1;have:=e.size;omega,(h.ext b u).2⟩
  ·exact⟨(a b u).2,λv=>by have:=d.ar.lt b v;have:=(a b u).1;omega,by have:=(a b u).1;omega⟩
theorem jH.write (h:jH H0 A F E p dp s M m R T)(d:Mod E A B):jH H0 B F E p dp s M m R T:=by
 obtain⟨U,e⟩:=h.ar;refine⟨⟨U,e.aside ⟨QZ e.ext.size d.size,λb a _=>(d.same b (QP a e.ext.size) λu=>by have:=(h.ext b u).2.2;omega).trans (e.ext.same b a id)⟩ λb a=>d.same b (e.ar.lt b a) λu=>(h.ext b u).2.1 a⟩,h.rel.ar ⟨d.mono λb _ u=>.inr u,λ_ u=>.inl u⟩,h.lQ,λb a=>⟨QP (h.ext b a).1 d.size,(h.ext b a).2⟩,h.fit,h.W,h.ords,h.f,h.d,h.TL⟩
theorem jH.vh (h:jH H0 A F E p dp s M m R T):aW H0 A F p M R:=h.rel.less λ_ u=>.inl u
set_option maxHeartbeats 1000000 in
theorem tq {cols words:Sl}{K:Option Addr->aa->Prop}(h:jH H0 A F E p dp s M m R T)(J:Ints .i64 A cols [0])(g:cols.n<=cols.c)(hw:Ints .u64 A words [x])
  (O:∀C B U,aM H0 B F p dp s M 60 U 8 m->cz H0 B F p M R C->Ext A B->C.ext=E->N0 C R x T->(∀b,C.su b->A.size<=b\/E b)->K (av C.cb) B):Fe.sp (av R.rb) 1 cols words A K:=by
 obtain⟨U,G⟩:=h.ar;have a:R.asked 1=[R.f,R.d]:=by unfold ak.asked;rw[if_pos rfl]
 have e:R.ords.length=1:=by rw[h.ords];rfl
 refine sY (n:=1) (cl:=[0]) (wl:=[x]) (V:=E) ⟨G,h.vh,h.lQ⟩ h.ext h.rel (by rw[a];simp) h.fit (by rw[e];decide) (by rw[e];decide) (λo H=>?_) J g hw rfl (λy P=>?_) (by simp) (by rw[h.W];decide) (λq i=>?_) λC B S I Z ce c1 c2 c3 c4 c5 c6 c7 c8 c9 j=>?_
 ·rw[h.ords] at H;have:o=[0,1]:=by simpa using H
  rw[h.W,this];rfl
 ·have:y=0:=by simpa using P
  rw[h.W];omega
 ·rw[a] at i;simp only[Qs,QT,or_false] at i;rcases i with rfl|rfl
  ·exact .inl h.f
  ·exact .inr (by rw[h.d,e];rfl)
 have hO:C.order=0:=by omega
 have d:C.lowL=[x]:=by
  rcases c8 with ⟨_,_,u3⟩|⟨u1,_,_⟩
  ·rw[u3,hO,h.ords];rfl
  ·have:=u1 [0,1] (by rw[h.ords];simp);exact absurd this (by decide)
 have hmap:C.tcs.map (·.t)=[T]:=by
  rw[c9,a,hO];simp[h.f,h.d]
 obtain⟨tc,f⟩:∃tc,C.tcs=[tc]:=by
  have hl:C.tcs.length=1:=by have:=congrArg Uc hmap;simpa using this
  match ae:C.tcs,hl with
  |[tc],_=>exact⟨tc,rfl⟩
 have u:tc.t=T:=by rw[f] at hmap;simpa using hmap
 obtain⟨v,z⟩:=j tc (by rw[f];simp);exact O C B U (G.grow I) S I ce ⟨hO,d,c1,c2,c3,c4,c5,c6,tc,f,u,by rw[v,d],z⟩ Z
set_option maxHeartbeats 2000000 in
set_option maxRecDepth 10000 in
theorem tO {U:Nat}{K:(Sl×Bool×Int)->aa->Prop}(hP:aM H0 A F p dp s M 60 U 8 m)(cm:cz H0 A F p M R C)(hg:Gl H0)(f:N0 C R x T)(fit:R.Fit)(Z:R.W=2)(d:R.ords=[[0,1]])(hf:R.f.ts=[])(hd:R.d.ts=[T])(TL:T.L=[[2,7],[2,8]])(lQ:ov M 100)(hm:m+2000000<=30000000000)
  (a8:x=2->∀F' s' out B,jH H0 B F' C.ext p dp s' M (m+2000000) R T->aA B 0 gM 1 out ([2,7].map (Ql .u64))->(∀b,al out b->A.size<=b)->Mod (λb=>¬C.ext b) A B->Ext H0 B->K (out,true,0) B)
  (ba:x=3->∀F' s' B,jH H0 B F' C.ext p dp s' M (m+2000000) R T->Mod (λb=>¬C.ext b) A B->Ext H0 B->K (Sl.mk none 0 0,false,0) B) (hx:x=2\/x=3):vD.sp (av C.cb) A K:=by
 obtain⟨tc,j,ae,af,a1⟩:=f.tc;have a6:C.order<R.ords.length:=by rw[f.order,d];decide
 have eo:R.ords[C.order]=[0,1]:=by
  have h:R.ords[C.order]?=some [0,1]:=by rw[d,f.order];rfl
  rw[Qg a6] at h;exact Qq h
 have again:∀{C2:bc} {F':Nat->Prop} {s':Pl} {B:aa},C2.ext=C.ext->aM H0 B F' p dp s' M 60 U 8 (m+2000000)->cz H0 B F' p M R C2->jH H0 B F' C.ext p dp s' M (m+2000000) R T:=λ{C2 F' s' B} ee bg G=>
  ⟨⟨U,bg⟩,G.rel.less λb u=>u.elim .inl λv=>.inr (.inr (.inr (.inr (ee▸v)))),lQ,λb g=>⟨G.ext b (ee▸g),G.off b (.inr (.inr (.inr (ee▸g))))⟩,fit,Z,d,hf,hd,TL⟩
 have same:∀{Y:Nat->Prop} {B:aa},Step (R.X (C.Z0 F)) Y A B->Mod (λb=>¬C.ext b) A B:=λ{Y B} S=>⟨S.mod.size,λb hl g=>S.mod.same b hl λu=>by
  have g:=Classical.not_not.1 g;rcases u with (u|u)|u
  ·exact(cm.off b (.inr (.inr (.inr g)))).1 u
  ·exact cm.sep b g u
  ·exact(cm.rel.off b u).1 (.inr (.inr (.inr (.inr g))))⟩
 have H:m+1000000*(C.tcs.length+1)=m+2000000:=by rw[j,show [tc].length=1 from rfl]
 have first:∀C1,jq C C1->∃t1 h1,C1.tcs=[t1]/\C1.hs=[h1]/\(x=2->h1.2=some [2,7])/\(x=3->h1.2=none):=by
  intro C1 a;obtain⟨b1,b2⟩:=a.new f.begun;obtain⟨t1,h1,P,o,y1,_,y3⟩:=b2 0 tc (by rw[j];rfl);have a7:C1.tcs.length=1:=by rw[b1,j];rfl
  have bl:C1.hs.length=1:=by rw[a.len,a7]
  have e1:C1.tcs=[t1]:=by
   match I:C1.tcs,a7 with
   |[z],_=>rw[I] at P;simp at P;rw[P]
  have e2:C1.hs=[h1]:=by
   match I:C1.hs,bl with
   |[z],_=>rw[I] at o;simp at o;rw[o]
  refine⟨t1,h1,e1,e2,λe=>?_,λe=>?_⟩
  ·have hr:tc.rest=[[2,7],[2,8]]:=by unfold TC.rest;rw[ae,TL,af,a1,e];decide
   rw[hr,f.lowL,e] at y3;rcases y3 with ⟨u,_⟩|⟨y,u1,_,_,u4⟩
   ·cases u
   ·have:y=[2,7]:=(Qq u1).symm;subst this;exact u4
  ·have hr:tc.rest=[]:=by unfold TC.rest;rw[ae,TL,af,a1,e];decide
   rw[hr] at y3;rcases y3 with ⟨_,_,_,u⟩|⟨y,u1,_⟩
   ·exact u
   ·cases u1
 refine Bm (w:=1000000) hP cm hg fit (by decide) rfl (by rw[H];exact hm) (by rw[j,show [tc].length=1 from rfl];decide) f.turns a6 (by rw[eo,Z];rfl) (λy q=>?_) (by rw[f.colsL];decide) (.inr ⟨f.begun,f.bH⟩) (λy q=>?_) (λC1 a y q z hz=>?_) (λC1 F' s' B a bs P1 J S1=>?_) (λC1 i y t r F' s' t2 h2 out B a bB O _ P1 J _ oo fo S1=>?_)
 ·rw[eo] at q;have:y=0\/y=1:=by simpa using q
  rw[Z];omega
 ·rw[f.hs] at q;cases q
 ·obtain⟨t1,h1,P,o,x3,x4⟩:=first C1 a
  rw[o] at q;have:y=h1:=by simpa using q
  subst this;rcases hx with e|e
  ·rw[x3 e] at hz;have:z=[2,7]:=(Qq hz).symm;subst this;rw[eo,Z,f.colsL,f.wordsL,e];exact⟨rfl,by decide⟩
  ·rw[x4 e] at hz;cases hz
 ·rcases hx with e|e
  ·exfalso;obtain⟨t1,h1,P,o,x3,x4⟩:=first C1 a
   have:=bs h1 (by rw[o];simp);rw[x3 e] at this;cases this
  ·rw[H] at P1;exact ba e F' s' B (again a.ext P1 J) (same S1) P1.ext
 ·obtain⟨t1,h1,P,o,x3,x4⟩:=first C1 a
  have hh:h1.2=some y:=by
   rw[o] at O;have bA:i=0:=by have:=(Qk.1 O).1;simpa using this
   subst bA;have:h1=(r,some y):=by simpa using O
   rw[this]
  rcases hx with e|e
  ·rw[x3 e] at hh;have:y=[2,7]:=(Qq hh).symm;subst this;rw[eo,Z] at oo;have eb:eS 2 [0,1] [2,7] 2=[2,7]:=by decide
   rw[eb] at oo;rw[H] at P1;exact a8 e F' s' out B (again (C2:=C1.with (C1.tcs.set i t2) (C1.hs.set i h2)) a.ext P1 J) oo (λb g=>(fo b g).1) (same S1) P1.ext
  ·rw[x4 e] at hh;cases hh
theorem cz.write (h:cz H0 A F p M R C)(d:Mod C.ext A B):cz H0 B F p M R C:=by
 have f:Step (C.Z F) (C.Z F) A B:=⟨d.mono λb _ u=>.inr (.inr (.inr (.inr u))),λ_ u=>.inl u⟩;have a:Step (R.X (C.Z F)) (R.X (C.Z F)) A B:=Step.rel f;refine⟨h.rel.ar f,h.row.mod d λu=>h.sep _ u (.inl rfl),⟨h.low.2.ints h.low.1 a,h.low.2.step a⟩,⟨h.cols.2.ints h.cols.1 a,h.cols.2.step a⟩,⟨h.words.2.ints h.words.1 a,h.words.2.step a⟩,h.fr.step a,λu hu=>?_,h.hd.mod d λb e u=>h.sep b u (.inr (.inr e)),λy i=>(h.hr y i).step a,h.cbs,h.off,λb e=>QP (h.ext b e) d.size,h.sep⟩;obtain⟨j,a2,a3⟩:=h.tc u hu;exact⟨j,⟨a2.row.mod d λv=>h.sep _ v (.inr (.inl ⟨u,hu,rfl⟩)),a3.ints a2.ints a,λad g=>⟨QP (a2.off ad g).1 d.size,(a2.off ad g).2⟩,a2.cb⟩,a3.step a⟩
theorem aM.beside {Q U most:Nat}(a:aM H0 A F p dp s M Q U most m)(h:cz H0 A F p M R C)(e:Mod C.ext A B):aM H0 B F p dp s M Q U most m:=
 a.aside ⟨QZ a.ext.size e.size,λb d _=>(e.same b (QP d a.ext.size) λu=>by have:=(h.off b (.inr (.inr (.inr u)))).2;omega).trans (a.ext.same b d id)⟩ λb d=>e.same b (a.ar.lt b d) λu=>(h.off b (.inr (.inr (.inr u)))).1 d
end
theorem aA.Po {H:aa}{base base':Nat}{e:TypeId}{size:Nat}{s:Sl}{xs:List Value}(h:aA H base e size s xs)(d:∀b,al s b->base'<=b):aA H base' e size s xs:=by
 refine⟨h.1,h.2.imp id ?_⟩;rintro⟨g,cap,cur,a,_,f⟩;refine⟨g,cap,cur,a,d g ?_,f⟩;cases s;simp only[Sl.v,Q3] at a;exact⟨_,a.1,rfl⟩
def u9 (w:Int)(f:Value)(wrong:Int)(feed:Value)(closed ended:Bool):Array Value:=#[.int .i64 w,f,.slice none 0 0,.int .i64 wrong,feed,.bool closed,.bool ended]
theorem Cu {w e:Int}{fn:Fn}{a ca:Array Value}{H:aa}{K:Option Addr->aa->Prop}(b:∀A,ab A H.size jJ (u9 w (.func fn a ca) e .nilIface false false)->Ext H A->A.size=H.size+1->K (some ⟨H.size,0,none⟩) A):xm.sp w (Sl.mk none 0 0) e fn a ca H K:=by
 refine xm.of ?_;unfold xm.vc;refine ay 0 (λ_ z A=>z.1=e/\z.2=0/\H=A) ⟨rfl,rfl,rfl⟩ ?_;rintro i ⟨_,_⟩ _ next hi ⟨rfl,rfl,rfl⟩ _
 refine az rfl ?_;exact aj λA z r m=>b A r m z
def fh (w:Int)(f:Value)(un:Sl)(wrong:Int)(feed:Value)(closed ended:Bool):Array Value:=#[.int .i64 w,f,un.v,.int .i64 wrong,feed,.bool closed,.bool ended]
set_option maxHeartbeats 1000000 in
theorem jk {sb:Nat}{w:Int}{f feed:Value}{un:Sl}{H:aa}{K:(Sl×Bool×Int)->aa->Prop}(r:ab H sb jJ (fh w f un 0 feed false false))
  (P:pW (bf [au,aC,(ai .i64)]) Qf f [] H λq A=>ab A sb jJ (fh w f un 0 feed false false)/\
   ((q.2.2≠0\/q.2.1=false)->∀B,ab B sb jJ (fh w f un q.2.2 feed false true)->Mod (λb=>b=sb) A B->B.size=A.size->K (Sl.mk none 0 0,false,q.2.2) B)/\
   (q.2.2=0->q.2.1=true->K (q.1,true,0) A)):sq.sp (some ⟨sb,0,none⟩) H K:=by
 refine sq.of ?_;unfold sq.vc;refine⟨λ_ A=>H=A,?_,?_⟩
 ·refine az rfl ?_;simp only[aw];refine ab.ld (c:=aC) (i:=5) (x:=false) r rfl ?_;refine az rfl ?_;refine⟨λb A=>b=false/\H=A,?_,?_⟩
  ·refine ab.ld (c:=ai .i64) (i:=3) (x:=0) r rfl ?_;refine az rfl ?_;refine ab.ld (c:=aC) (i:=6) (x:=false) r rfl ?_;exact⟨rfl,rfl⟩
  ·rintro _ _ ⟨rfl,rfl⟩;exact az rfl rfl
 ·rintro _ _ rfl;simp only[aw];refine ab.ld (c:=jF) (i:=1) (x:=f) r rfl ?_;have mono:∀{z G:(bf [au,aC,(ai .i64)]).α->aa->Prop},(∀q A,z q A->G q A)->pW (bf [au,aC,(ai .i64)]) Qf f [] H z->pW (bf [au,aC,(ai .i64)]) Qf f [] H G:=by
   intro z G hk h;unfold pW at h ⊢;split at h
   ·rename_i g first cap
    cases a:cI Qf g with
    |true=>
      rw[a] at h;simp only[cond_true] at h ⊢;exact λw hw=>(h w hw).mono λe w' ⟨v,he,⟨x,o,d⟩,t⟩=>⟨v,he,⟨x,o,hk _ _ d⟩,t⟩
    |false=>
      rw[a] at h;simp only[cond_false] at h ⊢;exact λw hw=>by obtain⟨v,w',h1,⟨x,o,d⟩,t⟩:=h w hw;exact⟨v,w',h1,⟨x,o,hk _ _ d⟩,t⟩
   ·exact h
   ·unfold sL at h ⊢;split at h
    ·split at h
     ·rename_i g hm;cases a:cI Qf g with
      |true=>
        rw[a] at h;simp only[cond_true] at h ⊢;exact λw hw=>(h w hw).mono λe w' ⟨v,he,⟨x,o,d⟩,t⟩=>⟨v,he,⟨x,o,hk _ _ d⟩,t⟩
      |false=>rw[a] at h;exact h.elim
     ·exact h
    ·exact h
   ·exact h
  refine mono ?_ P;rintro⟨q1,y,I⟩ A ⟨S,J,O⟩;simp only at J O ⊢;refine ao (λj=>?_) (λj=>?_)
  ·have j:I≠0\/y=false:=by simpa using j
   refine ab.st S (i:=3) (by simp[fh]) rfl λB Z mB zB=>?_;refine ab.st Z (i:=6) (by simp[fh]) rfl λC rC mC zC=>?_;exact J j C rC (mB.trans mC) (by omega)
  ·have j:I=0/\y=true:=by
    have:¬(I≠0\/y=false):=by simpa using j
    exact⟨Decidable.of_not_not λu=>this (.inl u),by cases y with|true=>rfl|false=>exact absurd (.inr rfl) this⟩
   exact O j.1 j.2
theorem GA {sb:Nat}{w:Int}{f feed:Value}{H:aa}{K:(Sl×Bool×Int)->aa->Prop}(r:ab H sb jJ (u9 w f 0 feed false false))
  (a:pW (bf [au,aC,(ai .i64)]) Qf f [] H λq A=>ab A sb jJ (u9 w f 0 feed false false)/\
   ((q.2.2≠0\/q.2.1=false)->∀B,ab B sb jJ (u9 w f q.2.2 feed false true)->Mod (λb=>b=sb) A B->B.size=A.size->K (Sl.mk none 0 0,false,q.2.2) B)/\
   (q.2.2=0->q.2.1=true->K (q.1,true,0) A)):sq.sp (some ⟨sb,0,none⟩) H K:=jk (un:=Sl.mk none 0 0) r a
def rK (lb wb:Nat):Value:=.func (.func Gn.no) #[] #[.pointer (some ⟨lb,0,none⟩),.pointer (some ⟨wb,0,none⟩)]
theorem CV:zc Qf cW=#[.slice none 0 0]:=by kernel_rfl
set_option maxHeartbeats 1000000 in
theorem Jv {rows:Sl}{ls:List (List Int)}{w:Int}{H:aa}{K:Option Addr->aa->Prop}(h:Rows H rows ls)(hn:ls.length<=1000)(hl:∀l∈ls,l.length<=1000)
  (hK:∀sb lb wb s rs A,ab A sb jJ (u9 w (rK lb wb) (if w<0 then 2 else 0) .nilIface false false)->ab A lb cW #[s.v]->ab A wb bT #[.int .i64 w]->aZ A (H.size+2) s rs ls->(∀b,(al s b\/∃r∈rs,al r b)->b<sb)->Ext H A->
   wb=H.size->lb=H.size+1->H.size+2<=sb->sb<A.size->K (some ⟨sb,0,none⟩) A):Ir.sp rows w H K:=by
 refine Ir.of ?_;unfold Ir.vc;refine aj λH1 z1 r1 e1=>?_;refine aj λS z2 r2 e2=>?_;rw[CV] at r2;have ba:=h.len;have ae:=e1.trans e2;refine ay ls.length (λi z A=>z=(i:Int)/\∃s rs,ab A H1.size cW #[s.v]/\aZ A S.size s rs (ls.take i)/\Mod (λb=>b=H1.size) S A) ⟨rfl,Sl.mk none 0 0,[],r2,aZ.nil _ _,.refl _ _⟩ ?_;rintro i _ A next hi ⟨rfl,s,rs,Z,G,mA⟩ g
 have zA:=mA.size;have J:ab A H.size bT #[.int .i64 w]:=(r1.ext e2).mod mA λu=>by omega
 have o:Ext H A:=⟨by omega,λb a _=>by rw[mA.same b (by omega) λu=>by omega];exact ae.same b a id⟩;refine ao (λhc=>?_) (λhc=>?_)
 ·have f:i<ls.length:=by
   have:(i:Int)<(rows.n:Int):=by simpa using hc
   omega
  have hA:Rows A rows ls:=⟨h.len,λj hj=>by
   obtain⟨ad,r,q1,q2,q3⟩:=h.at' j hj;exact⟨ad,r,q1,o.cell q2 id,q3.ext o⟩⟩
  refine hA.ld f λad x _ ix=>?_;refine⟨λB=>Ext A B,.refl _ _,?_⟩;refine⟨s,λB hB=>by
   have:=(Z.ext hB).cell (i:=0) (v:=s.v) rfl;exact this,?_⟩
  refine Dt ix (by have:=hl _ (Qn f);omega) λr B oB d fB=>?_;refine⟨d,?_⟩;have zB:=d.size;have af:=G.ext d;have I:=G.block
  -- the cell, then the append
  refine⟨(Mod.push (λ_=>False) B (.cells #[r.v] cv)) |> λe=>d.trans e,?_⟩;have key:=af.push (ty:=cW) (r:=r) (l:=ls[i]) (oB.Po (base':=S.size) λb a=>by have:=fB b a;omega) (λr' q b a a1=>by have:=fB b a;have:=(I.2 r' q b a1).2;omega) (by rw[G.n,Qw];omega) (by omega)
   (K:=λs' C=>Go.Proofs.YtkehfflpbpdokaaGreatDoor.st C ⟨H1.size,0,none⟩ s'.v λD=>next (Qe.wrap ((i:Int)+(1:Int))) D)
  refine key λs' C n' oC mC=>?_;have rC:ab C H1.size cW #[s.v]:=(Z.ext d).mod mC λu=>by have:=(I.1 _ u).1;omega
  refine ab.st (i:=0) rC (by simp) rfl λD rD mD zD=>?_;refine g f _ _ ⟨aH i (by omega),s',rs++[r],rD,?_,?_⟩
  ·have a6:ls.take i++[ls[i]]=ls.take (i+1):=by rw[RC,Qg f];rfl
   rw[a6] at oC;have bC:=oC.block;exact oC.mod mD (λb a u=>by have:=(bC.1 b a).1;omega) λr' q b a u=>by have:=(bC.2 r' q b a).1;omega
  ·have zC:=mC.size;refine⟨by omega,λb a _=>?_⟩;rename_i O;rw[mD.same b (by omega) O,mC.same b (by omega) λu=>by have:=(I.1 b u).1;omega,d.same b (by omega) id];exact mA.same b a O
 ·have a7:i=ls.length:=by
   have:¬(i:Int)<(rows.n:Int):=by simpa using hc
   omega
  subst a7;rw[Sc] at G;have I:=G.block;have fin:∀e:Int,(e=if w<0 then 2 else 0)->xm.sp w (Sl.mk none 0 0) e (.func Gn.no) #[] #[(.pointer (some ⟨H1.size,0,none⟩)),(.pointer (some ⟨H.size,0,none⟩))] A K:=by
   intro e he;subst he;refine Cu λB rB d zB=>?_;have a8:S.size=H.size+2:=by omega
   have P:H1.size=H.size+1:=by omega
   have oB:=G.ext d;rw[a8] at oB;rw[P] at Z;rw[P] at rB;refine hK A.size (H.size+1) H.size s rs B rB (Z.ext d) (J.ext d) oB (λb a=>?_) (o.trans d) rfl rfl (by omega) (by omega);rcases a with v|⟨r,hr,v⟩
   ·exact(I.1 b v).2
   ·exact(I.2 r hr b v).2
  have t:∀{M:Int->Prop},M w->Go.Proofs.YtkehfflpbpdokaaGreatDoor.ld (ai .i64) A ⟨H.size,0,none⟩ M:=λ{M} hM=>⟨w,J.cell (i:=0) rfl,hM⟩;refine t ?_;refine ao (λy=>?_) (λy=>?_)
  ·have hw:w<0:=by simpa using y
   exact t (fin 2 (by rw[if_pos hw]))
  ·have hw:¬w<0:=by simpa using y
   exact t (fin 0 (by rw[if_neg hw]))
structure kj (X:Nat->Prop)(H:aa)(sb lb wb:Nat)(W:Nat)(ended:Bool)(s:Sl)(ls:List (List Int)):Prop where
 row:ab H sb jJ (u9 W (rK lb wb) 0 .nilIface false ended)
 cell:ab H lb cW #[s.v]
 wid:ab H wb bT #[.int .i64 W]
 rows:jR X H s ls
 cap:s.n<=s.c
 cols:∀l∈ls,l.length=W
 xs:X sb/\X lb/\¬X wb
 ne:sb≠lb
section
variable {X Y:Nat->Prop}{H B:aa}{sb lb wb W:Nat}{ended:Bool}{s:Sl}{ls:List (List Int)}
theorem kj.aE (h:kj X H sb lb wb W ended s ls)(m:Mod Y H B)(a:∀b,Y b->X b)(h1:¬Y sb)(d:¬Y lb):kj X B sb lb wb W ended s ls:=
 ⟨h.row.mod m h1,h.cell.mod m d,h.wid.mod m λu=>h.xs.2.2 (a _ u),h.rows.mod (m.mono λ_ _ u=>a _ u),h.cap,h.cols,h.xs,h.ne⟩
set_option maxRecDepth 100000 in
set_option maxHeartbeats 1000000 in
theorem vP {K:(Sl×Bool×Int)->aa->Prop}(h:kj X H sb lb wb W false s ls)
  (j:∀l r x A s',ls=l::r->kj X A sb lb wb W false s' r->Mod (λb=>b=lb) H A->Ints .u64 A x l->(∀a,x.a=some a->a.block<A.size/\¬X a.block)->K (x,true,0) A)
  (o:ls=[]->∀A,kj X A sb lb wb W true s []->Mod (λb=>b=sb) H A->K (Sl.mk none 0 0,false,0) A):sq.sp (some ⟨sb,0,none⟩) H K:=by
 have O:=h.rows.len;refine GA h.row (iI #[.pointer (some ⟨lb,0,none⟩),.pointer (some ⟨wb,0,none⟩)] rfl (by kernel_rfl) ?_);refine Gn.of ?_;unfold Gn.vc;have Iw:∀{A:aa} {s:Sl} {M:Sl->Prop},ab A lb cW #[s.v]->M s->Go.Proofs.YtkehfflpbpdokaaGreatDoor.ld au A ⟨lb,0,none⟩ M:=λ{A s M} r hM=>⟨s,r.cell (i:=0) rfl,hM⟩;refine Iw h.cell ?_;cases d:ls with
 |nil=>
   subst d;have q:s.n=0:=O;refine aT (by rw[q];rfl) ⟨h.row,λ_ B rB f zB=>?_,λ_ u=>by cases u⟩;exact o rfl B ⟨rB,h.cell.mod f (SI h.ne),h.wid.mod f (λu=>h.xs.2.2 (u▸h.xs.1)),h.rows.mod (f.mono λb _ u=>by subst u;exact h.xs.1),h.cap,h.cols,h.xs,h.ne⟩ f
 |cons l r=>
   subst d;have q:s.n=r.length+1:=O;refine az (by rw[q];simp;omega) ?_;refine Iw h.cell ?_;obtain⟨ad,x,q1,q2,t,P⟩:=h.rows.at' 0 (by simp);refine aY ad q1 ⟨⟨Int.le_refl _,by omega⟩,x,by simpa using q2,?_⟩;refine Iw h.cell ?_;refine⟨⟨by decide,by omega⟩,?_⟩;have e1:((1:Int).toNat)=1:=rfl;rw[e1];have z:=ab.st (i:=0) (v:=Sl.v ⟨bF s.a s.c 1 1,s.n - 1,s.c - 1⟩) h.cell (by simp) rfl
    (K:=λH1=>Go.Proofs.YtkehfflpbpdokaaGreatDoor.ld (ai .i64) H1 ⟨wb,0,none⟩ λ(G:Int)=>br ((x.n:Int)!=G)
     (ab H1 sb jJ (u9 W (rK lb wb) 0 .nilIface false false)/\((60:Int)≠0\/false=false->∀B,ab B sb jJ (u9 W (rK lb wb) 60 .nilIface false true)->Mod (λb=>b=sb) H1 B->B.size=H1.size->K (Sl.mk none 0 0,false,60) B)/\((60:Int)=0->false=true->K (Sl.mk none 0 0,true,0) H1))
     (ab H1 sb jJ (u9 W (rK lb wb) 0 .nilIface false false)/\((0:Int)≠0\/true=false->∀B,ab B sb jJ (u9 W (rK lb wb) 0 .nilIface false true)->Mod (λb=>b=sb) H1 B->B.size=H1.size->K (Sl.mk none 0 0,false,0) B)/\((0:Int)=0->true=true->K (x,true,0) H1)))
   refine z λA rA e zA=>?_;have S:Mod X H A:=e.mono λb _ u=>by subst u;exact h.xs.2.1
   have Z:ab A wb bT #[.int .i64 W]:=h.wid.mod e λu=>h.xs.2.2 (u▸h.xs.2.1);refine⟨(W:Int),Z.cell (i:=0) rfl,?_⟩;have I:=P.len;have J:=h.cols l Qp;refine az (by
    have:x.n=W:=by rw[I];exact J
    rw[this];simp) ⟨h.row.mod e h.ne,λu=>by rcases u with u|u<;>exact absurd u (by simp),λ_ _=>?_⟩
   refine j l r x A ⟨bF s.a s.c 1 1,s.n - 1,s.c - 1⟩ rfl ⟨h.row.mod e h.ne,by simpa using rA,Z,?_,by have:=h.cap;show s.n - 1<=s.c - 1;omega,λy hy=>h.cols y (Qu _ hy),h.xs,h.ne⟩ e (P.mod S λa g=>(t a g).2) λa g=>⟨by have:=(t a g).1;omega,(t a g).2⟩;have:=(h.rows.drop h.cap (i:=1) (by simp)).mod S;simpa using this
end
section
variable {H:aa}{j:Nat}{cs:Array Value}{l cols:Sl}{ll:List Int}
end
section
variable {X:Nat->Prop}{H B:aa}{mb:Nat}{ls:List (List Int)}
end
theorem ft {c:gz}{x:c.α}{A:aa}{b:Nat}{t:TypeId}{K:c.α->Prop}(r:ab A b t #[c.enc x]) (a:K x):ld c A ⟨b,0,none⟩ K:=⟨x,r.cell (i:=0) rfl,a⟩
section
variable {H A B:aa}{sb w:Nat}{f feed:Value}{un:Sl}{wr:Int}{cl en:Bool}
theorem eM {w:Int}{K:Int->aa->Prop}(r:ab H sb jJ (fh w f un wr feed cl en))(a:K w H):xI.sp (av sb) H K:=by
 refine xI.of ?_;unfold xI.vc;refine az rfl ?_;simp only[aw,av];exact ab.ld (c:=ai .i64) (i:=0) (x:=w) r rfl a
theorem Ae {w e:Int}{us:List Nat}{fn:Fn}{d ca:Array Value}{K:Option Addr->aa->Prop}(hs:ja (λ_=>False) H un (us.map cG))(q:us.length<=100)
  (g:∀A,ab A H.size jJ (fh w (.func fn d ca) un e .nilIface false false)->Ext H A->A.size=H.size+1->K (av H.size) A):xm.sp w un e fn d ca H K:=by
 refine xm.of ?_;unfold xm.vc;have h:=hs.len;rw[QI] at h;refine ay us.length (λi z A=>z=(e,(i:Int))/\H=A) ⟨rfl,rfl⟩ ?_;rintro i _ _ next hi ⟨rfl,rfl⟩ a
 refine ao (λo=>?_) (λ_=>?_)
 ·have b:i<us.length:=by
   have:(i:Int)<(un.n:Int):=by simpa using o
   omega
  refine ja.ld (c:=aq) (x:=av us[i]) (i:=i) hs (by rw[QC,Qg b];rfl) rfl λad _=>?_;refine az rfl ?_;exact a b _ _ ⟨by rw[aH i (by omega)],rfl⟩
 ·exact aj λA z r m=>g A r m z
theorem Jo {k a:Nat}(r:ab A k yC #[.pointer (av a)]):ja (λ_=>False) A ⟨some ⟨k,0,none⟩,1,1⟩ ([a].map cG):=
 ⟨rfl,λad b=>by have:=(Qq b).symm;subst this;exact⟨aI r,id⟩,λi u hu=>⟨_,rfl,by
  have hi:i=0:=by have:=(Qk.1 hu).1;simp at this;omega
  subst hi;simp at hu;subst hu;rw[bJ];exact r.cell rfl⟩⟩
theorem Kq {k a b:Nat}(r:ab A k yC #[.pointer (av a),.pointer (av b)]):ja (λ_=>False) A ⟨some ⟨k,0,none⟩,2,2⟩ ([a,b].map cG):=
 ⟨rfl,λad d=>by have:=(Qq d).symm;subst this;exact⟨aI r,id⟩,λi u hu=>⟨_,rfl,by
  have hi:i=0\/i=1:=by have:=(Qk.1 hu).1;simp at this;omega
  rcases hi with rfl|rfl<;>(simp at hu;subst hu;rw[bJ];exact r.cell rfl)⟩⟩
set_option maxRecDepth 100000 in
theorem B8 {w:Int}{l:Sl}{x:List Int}{K:Int->aa->Prop}(r:ab H sb jJ (fh w f un wr feed cl en))(h:Ints .i64 H l x)(u:x.length<=1000)(d:∀c∈x,0<=c/\c<w)(o:∀A,Ext H A->K 0 A):L3.sp (av sb) l H K:=by
 refine L3.of ?_;unfold L3.vc;refine aj λH1 v q e=>?_;refine Mn.of ?_;unfold Mn.vc;refine Nc.of ?_;unfold Nc.vc;have h1:=h.ext e;have y:=h.len;have g:=r.ext e;refine ay x.length (λi z A=>z=(i:Int)/\H1=A) ⟨rfl,rfl⟩ ?_;rintro i _ _ next hi ⟨rfl,rfl⟩ a
 refine ao (λt=>?_) (λ_=>?_)
 ·have b:i<x.length:=by
   have:(i:Int)<(l.n:Int):=by simpa using t
   omega
  have hm:x.getD i 0∈x:=by rw[QM,Qg b];exact Qn _
  obtain⟨G,c1⟩:=d _ hm;refine bM h1 (i:=(i:Int)) (j:=i) rfl b λad _=>?_;generalize x.getD i 0=c at*;refine GF #[.int .i64 c,.pointer (some ⟨H.size,0,none⟩)] rfl (by kernel_rfl) ?_;refine Ly.of (c:=c) ?_;unfold Ly.vc;refine az (by simp;omega) ?_;refine ft (c:=aq) (x:=av sb) q ?_;refine eM g ?_;rw[decide_eq_false (show ¬c>=w by omega)];exact az rfl (a b _ _ ⟨aH i (by omega),rfl⟩)
 ·exact az rfl (o _ e)
theorem vW {X:Nat->Prop}{base:Nat}{s:Sl}{rs:List Sl}{ls:List (List Int)}(h:aZ H base s rs ls)(g:∀b,(al s b\/∃r∈rs,al r b)->¬X b):jR X H s ls:=by
 obtain⟨o,b2⟩:=h.block;refine⟨h.n,λad e=>⟨(o _ ⟨ad,e,rfl⟩).2,g _ (.inl ⟨ad,e,rfl⟩)⟩,λi hi=>?_⟩;have d:i<rs.length:=by rw[h.len];exact hi
 obtain⟨ad,e,t⟩:=h.out.reads.at (i:=i) (by simpa using d);refine⟨ad,rs[i],e,by simpa using t,λa q=>⟨(b2 _ (Qn d) _ ⟨a,q,rfl⟩).2,g _ (.inr ⟨_,Qn d,a,q,rfl⟩)⟩,(h.row i _ _ (Qg d) (Qg hi)).ints⟩
def Nu (E:Nat->Prop)(sb lb:Nat)(b:Nat):Prop:=¬E b\/b=sb\/b=lb
structure NH (H A:aa)(sb lb wb:Nat)(ls:List (List Int)):Prop where
 src:∀E:Nat->Prop,(∀b,H.size<=b->b<A.size->E b)->∃s,kj (Nu E sb lb) A sb lb wb 2 false s ls
 lo:H.size<=sb/\H.size<=lb/\H.size<=wb
 hi:sb<A.size/\lb<A.size/\wb<A.size
theorem zm {x y z w:Int}{K:Option Addr->aa->Prop}(J:∀sb lb wb A,Ext H A->NH H A sb lb wb [[x,y],[z,w]]->K (av sb) A):
  aB H #[(.int .u64 x),(.int .u64 y)] gM λp d=>aB d #[(.int .u64 z),(.int .u64 w)] gM λg O=>aB O #[(.slice (some p) 2 2),(.slice (some g) 2 2)] cv λh P=>Ir.sp (Sl.mk (some h) 2 2) (2:Int) P K:=by
 refine aj λH1 z1 S Z=>?_;refine aj λH2 z2 r2 e2=>?_;refine aj λd z3 t o=>?_;have e:=(Z.trans e2).trans o;have rows:Rows d ⟨some ⟨H2.size,0,none⟩,2,2⟩ [[x,y],[z,w]]:=by
  refine⟨rfl,λi hi=>?_⟩;have hi:i=0\/i=1:=by simp at hi;omega
  rcases hi with rfl|rfl
  ·exact⟨_,⟨some ⟨H.size,0,none⟩,2,2⟩,rfl,by rw[bJ];exact t.cell rfl,gy ((S.ext e2).ext o)⟩
  ·exact⟨_,⟨some ⟨H1.size,0,none⟩,2,2⟩,rfl,by rw[bJ];exact t.cell rfl,gy (r2.ext o)⟩
 refine Jv rows (by simp) (λl a=>by simp at a;rcases a with rfl|rfl<;>simp) λsb lb wb s rs A row cell wid own low eA hw a lo hi=>?_;subst hw;subst a;rw[if_neg (by decide)] at row;have hz:=e.size;obtain⟨b1,b2⟩:=own.block;have hlen:∀l∈[[x,y],[z,w]],l.length=2:=λl a=>by simp at a;rcases a with rfl|rfl<;>rfl
 refine J sb (d.size+1) d.size A (e.trans eA) ⟨λE G=>⟨s,row,cell,wid,vW own λb I u=>?_,own.out.cap,hlen,⟨.inr (.inl rfl),.inr (.inr rfl),λu=>?_⟩,by omega⟩,by omega,by omega⟩
 ·have q:d.size+2<=b/\b<A.size:=by
   rcases I with v|⟨r,hr,v⟩
   ·exact b1 b v
   ·exact b2 r hr b v
  have:=low b I;rcases u with u|u|u
  ·exact u (G b (by omega) q.2)
  ·omega
  ·omega
 ·rcases u with u|u|u
  ·exact u (G _ (by omega) (by omega))
  ·omega
  ·omega
end
theorem xG:zc Qf dX=#[.slice none 0 0]:=by kernel_rfl
theorem GC:zc Qf cv=#[.slice none 0 0]:=by kernel_rfl
theorem Bz:zc Qf EL=#[.pointer none]:=by kernel_rfl
theorem lW {A:aa}{p:Nat}{R:ak}{K:Int->aa->Prop}(r:ab A R.rb Dj (jG p R))(a:K (R.W:Int) A):JL.sp (av R.rb) A K:=by
 refine JL.of ?_;unfold JL.vc;refine az rfl ?_;simp only[aw,av,add_add,SQ];exact ab.ld (c:=ai .i64) (i:=2) (x:=(R.W:Int)) r rfl a
section
variable {H H0 A B:aa}{F F' E X:Nat->Prop}{p dp m sb a b lb wb:Nat}{s s':Pl}{M M':bd}{R:ak}{T:Tx}{f feed:Value}{un:Sl}{wr:Int}{cl en:Bool}{lcols rcols lc rc:Sl}
theorem sD {w wd:Int}{x:List Int}{fn:Fn}{e ca:Array Value}{K:Option Addr->aa->Prop}(r:ab H a jJ (fh w f un wr feed cl en))(h:Ints .i64 H lc x)(i:x.length<=1000)(d:∀c∈x,0<=c/\c<w)
  (o:∀sb un A,ab A sb jJ (fh wd (.func fn e ca) un 0 .nilIface false false)->Ext H A->H.size<=sb/\sb<A.size->K (av sb) A):IJ.sp (av a) (av R.rb) lc wd fn e ca H K:=by
 refine IJ.of ?_;unfold IJ.vc;refine B8 r h i d λA g=>?_;refine az rfl ?_;refine aj λB y q t=>?_;refine Ae (us:=[a]) (Jo q) (by simp) λC u v z=>?_;have:=g.size;exact o B.size _ C u ((g.trans t).trans v) ⟨by omega,by omega⟩
structure mq (A:aa)(sb a rb pL pR pP pX pY pl pc:Nat)(lc rc:Sl):Prop where
 row:∃un,ab A sb jJ (fh 4 (.func (.func BO.no) #[] #[.pointer (av pc),.pointer (av pL),.pointer (av pl),.pointer (av pX),.pointer (av pR),.pointer (av pP),.pointer (av pY)]) un 0 .nilIface false false)
 cL:ab A pL yC #[.pointer (av a)]
 cR:ab A pR DD #[.pointer (av rb)]
 cP:ab A pP kJ #[.int .u8 1]
 cX:ab A pX dX #[lc.v]
 cY:ab A pY dX #[rc.v]
 cl:ab A pl cv #[.slice none 0 0]
 cc:ab A pc EL #[.pointer none]
 ol:aA A 0 bT 1 lc ([1].map (Ql .i64))
 or:aA A 0 bT 1 rc ([0].map (Ql .i64))
def mq.In (E:Nat->Prop)(sb pL pR pP pX pY pl pc:Nat)(lc rc:Sl):Prop:=(E sb/\E pL/\E pR/\E pP)/\(E pX/\E pY/\E pl/\E pc)/\(∀b,al lc b->E b)/\∀b,al rc b->E b
theorem KJ {K:Option Addr->aa->Prop}(ra:ab H a jJ (fh 2 f un wr feed cl en))(rr:ab H R.rb Dj (jG p R))(hW:R.W=2)(hl:Ints .i64 H lcols [1])(hr:Ints .i64 H rcols [0])
  (hK:∀sb pL pR pP pX pY pl pc lc rc A,mq A sb a R.rb pL pR pP pX pY pl pc lc rc->Ext H A->mq.In (λb=>H.size<=b/\b<A.size) sb pL pR pP pX pY pl pc lc rc->K (av sb) A):yz.sp (av a) (av R.rb) 1 lcols rcols H K:=by
 refine yz.of ?_;unfold yz.vc;refine aj λH1 z1 r1 e1=>?_;refine aj λH2 z2 r2 e2=>?_;refine aj λH3 z3 r3 S=>?_;have q:=(e1.trans e2).trans S;refine dE (hl.ext q) (by decide) λc1 H4 o4 Z f4=>?_;refine dE ((hr.ext q).ext Z) (by decide) λc2 J o5 e5 f5=>?_;refine aj λO z6 r6 e6=>?_;refine aj λH7 z7 r7 P=>?_;rw[xG] at r6 r7;have s4:=Z.size;have s5:=e5.size;refine ab.st (i:=0) (r6.ext P) (by simp) (by cases c1;rfl) λH8 r8 m8 z8=>?_;refine ab.st (i:=0) (r7.mod m8 (by omega)) (by simp) (by cases c2;rfl) λH9 r9 m9 z9=>?_;refine aj λae a6 y af=>?_;refine aj λd a7 z G=>?_;rw[GC] at y;rw[Bz] at z;have e:=af.trans G;have m7:Mod (λb=>b=J.size\/b=O.size) H7 d:=((m8.mono λb _ u=>.inl u).trans (m9.mono λb _ u=>.inr u)).trans (Ext.mod e);have o:=((Z.trans e5).trans e6).trans P;have t:Ext H H7:=q.trans o;have I:Ext H d:=⟨by have:=t.size;have:=m7.size;omega,λb g _=>by rw[m7.same b (by have:=t.size;omega) (by omega)];exact t.same b g id⟩;have q1:ab d H.size yC #[.pointer (av a)]:=((r1.ext (e2.trans S)).ext o).mod m7 (by omega);have q2:ab d H1.size DD #[.pointer (av R.rb)]:=((r2.ext S).ext o).mod m7 (by omega);have q3:ab d H2.size kJ #[.int .u8 1]:=(r3.ext o).mod m7 (by omega);have q6:ab d J.size dX #[c1.v]:=(ab.mod (show ab H8 J.size dX #[c1.v] from r8) m9 (by omega)).ext e;have q7:ab d O.size dX #[c2.v]:=(show ab H9 O.size dX #[c2.v] from r9).ext e;have b4:=o4.block;have b5:=o5.block;have p4:aA d 0 bT 1 c1 ([1].map (Ql .i64)):=(((o4.ext e5).ext e6).ext P).mod m7 λb g u=>by have:=b4 b g;omega
 have p5:aA d 0 bT 1 c2 ([0].map (Ql .i64)):=((o5.ext e6).ext P).mod m7 λb g u=>by have:=b5 b g;omega
 refine⟨Ext d,.refl _ _,?_⟩;refine ab.bW (c:=aq) (i:=0) (x:=av a) (cs:=λ_=>#[.pointer (av a)]) (λD v=>q1.ext v) (λ_ _=>rfl) ?_;refine ab.bW (c:=aq) (i:=0) (x:=av R.rb) (cs:=λ_=>#[.pointer (av R.rb)]) (λD v=>q2.ext v) (λ_ _=>rfl) ?_;refine ab.bW (c:=au) (i:=0) (x:=c1) (cs:=λ_=>#[c1.v]) (λD v=>q6.ext v) (λ_ _=>rfl) ?_;refine ft (c:=aq) (x:=av a) q1 ?_;refine eM (ra.ext I) ⟨.refl _ _,?_⟩;refine ab.bW (c:=aq) (i:=0) (x:=av R.rb) (cs:=λ_=>#[.pointer (av R.rb)]) (λD v=>q2.ext v) (λ_ _=>rfl) ?_;refine lW (rr.ext I) ⟨.refl _ _,?_⟩;rw[hW];refine sD (ra.ext I) p4.ints (by decide) (λc hc=>by simp at hc;subst hc;decide) λsb un A rA h a1=>?_;have sA:=h.size;have sH:=I.size;refine hK sb H.size H1.size H2.size J.size O.size H9.size ae.size c1 c2 A ⟨⟨un,rA⟩,q1.ext h,q2.ext h,q3.ext h,q6.ext h,q7.ext h,(y.ext G).ext h,z.ext h,p4.ext h,p5.ext h⟩ (I.trans h) ⟨⟨⟨by omega,a1.2⟩,by omega,by omega,by omega⟩,⟨by omega,by omega,by omega,by omega⟩,λb g=>?_,λb g=>?_⟩
 ·have h1:=f4 b g;have h2:=(b4 b g).2;exact⟨by omega,by omega⟩
 ·have h1:=f5 b g;have h2:=(b5 b g).2;exact⟨by omega,by omega⟩
structure kk (A:aa)(sb a rb pL pR pX pY:Nat)(lc rc:Sl):Prop where
 row:∃un,ab A sb jJ (fh 2 (.func (.func AL.no) #[] #[.pointer (av pL),.pointer (av pX),.pointer (av pR),.pointer (av pY)]) un 0 .nilIface false false)
 cL:ab A pL yC #[.pointer (av a)]
 cR:ab A pR DD #[.pointer (av rb)]
 cX:ab A pX dX #[lc.v]
 cY:ab A pY dX #[rc.v]
 ol:aA A 0 bT 1 lc ([1].map (Ql .i64))
 or:aA A 0 bT 1 rc ([0].map (Ql .i64))
def kk.In (E:Nat->Prop)(sb pL pR pX pY:Nat)(lc rc:Sl):Prop:=(E sb/\E pL/\E pR)/\(E pX/\E pY)/\(∀b,al lc b->E b)/\∀b,al rc b->E b
theorem Ji {K:Option Addr->aa->Prop}(Z:ab H a jJ (fh 2 f un wr feed cl en))(hl:Ints .i64 H lcols [1])(hr:Ints .i64 H rcols [0])
  (hK:∀sb pL pR pX pY lc rc A,kk A sb a R.rb pL pR pX pY lc rc->Ext H A->kk.In (λb=>H.size<=b/\b<A.size) sb pL pR pX pY lc rc->K (av sb) A):xU.sp (av a) (av R.rb) lcols rcols H K:=by
 refine xU.of ?_;unfold xU.vc;refine aj λH1 z1 r1 e1=>?_;refine aj λH3 z3 r3 e3=>?_;have h:=e1.trans e3;refine dE (hl.ext h) (by decide) λc1 H4 o4 G f4=>?_;refine dE ((hr.ext h).ext G) (by decide) λc2 v o5 I f5=>?_;refine aj λJ z6 r6 O=>?_;refine aj λH7 z7 r7 y=>?_;rw[xG] at r6 r7;have s4:=G.size;have s5:=I.size;refine ab.st (i:=0) (r6.ext y) (by simp) (by cases c1;rfl) λH8 r8 m8 z8=>?_;refine ab.st (i:=0) (r7.mod m8 (by omega)) (by simp) (by cases c2;rfl) λe r9 m9 z9=>?_;have m7:Mod (λb=>b=v.size\/b=J.size) H7 e:=(m8.mono λb _ u=>.inl u).trans (m9.mono λb _ u=>.inr u);have o:=((G.trans I).trans O).trans y;have q:Ext H H7:=h.trans o;have z:Ext H e:=⟨by have:=q.size;have:=m7.size;omega,λb d _=>by rw[m7.same b (by have:=q.size;omega) (by omega)];exact q.same b d id⟩;have P:ab e H.size yC #[.pointer (av a)]:=((r1.ext e3).ext o).mod m7 (by omega);have q2:ab e H1.size DD #[.pointer (av R.rb)]:=(r3.ext o).mod m7 (by omega);have q6:ab e v.size dX #[c1.v]:=ab.mod (show ab H8 v.size dX #[c1.v] from r8) m9 (by omega);have q7:ab e J.size dX #[c2.v]:=r9;have b4:=o4.block;have b5:=o5.block;have p4:aA e 0 bT 1 c1 ([1].map (Ql .i64)):=(((o4.ext I).ext O).ext y).mod m7 λb d u=>by have:=b4 b d;omega
 have p5:aA e 0 bT 1 c2 ([0].map (Ql .i64)):=((o5.ext O).ext y).mod m7 λb d u=>by have:=b5 b d;omega
 refine⟨Ext e,.refl _ _,?_⟩;refine ab.bW (c:=aq) (i:=0) (x:=av a) (cs:=λ_=>#[.pointer (av a)]) (λD t=>P.ext t) (λ_ _=>rfl) ?_;refine ab.bW (c:=aq) (i:=0) (x:=av R.rb) (cs:=λ_=>#[.pointer (av R.rb)]) (λD t=>q2.ext t) (λ_ _=>rfl) ?_;refine ab.bW (c:=au) (i:=0) (x:=c1) (cs:=λ_=>#[c1.v]) (λD t=>q6.ext t) (λ_ _=>rfl) ?_;refine ft (c:=aq) (x:=av a) P ?_;refine eM (Z.ext z) ⟨.refl _ _,?_⟩;refine sD (Z.ext z) p4.ints (by decide) (λc hc=>by simp at hc;subst hc;decide) λsb un A rA g S=>?_;have sA:=g.size;have sH:=z.size;refine hK sb H.size H1.size v.size J.size c1 c2 A ⟨⟨un,rA⟩,P.ext g,q2.ext g,q6.ext g,q7.ext g,p4.ext g,p5.ext g⟩ (z.trans g) ⟨⟨⟨by omega,S.2⟩,by omega,by omega⟩,⟨by omega,by omega⟩,λb d=>?_,λb d=>?_⟩
 ·have h1:=f4 b d;have h2:=(b4 b d).2;exact⟨by omega,by omega⟩
 ·have h1:=f5 b d;have h2:=(b5 b d).2;exact⟨by omega,by omega⟩
theorem mq.grow {pL pR pP pX pY pl pc rb:Nat}(h:mq A sb a rb pL pR pP pX pY pl pc lc rc)(e:Ext A B):mq B sb a rb pL pR pP pX pY pl pc lc rc:=by
 obtain⟨un,hr⟩:=h.row;exact⟨⟨un,hr.ext e⟩,h.cL.ext e,h.cR.ext e,h.cP.ext e,h.cX.ext e,h.cY.ext e,h.cl.ext e,h.cc.ext e,h.ol.ext e,h.or.ext e⟩
theorem mq.In.mono {Y:Nat->Prop}{pL pR pP pX pY pl pc:Nat}(h:mq.In E sb pL pR pP pX pY pl pc lc rc)(e:∀b,E b->Y b):mq.In Y sb pL pR pP pX pY pl pc lc rc:=by
 obtain⟨⟨i1,i2,i3,i4⟩,⟨i5,i6,i7,i8⟩,i9,i10⟩:=h;exact⟨⟨e _ i1,e _ i2,e _ i3,e _ i4⟩,⟨e _ i5,e _ i6,e _ i7,e _ i8⟩,λb d=>e _ (i9 b d),λb d=>e _ (i10 b d)⟩
theorem kk.In.mono {Y:Nat->Prop}{pL pR pX pY:Nat}(h:kk.In E sb pL pR pX pY lc rc)(e:∀b,E b->Y b):kk.In Y sb pL pR pX pY lc rc:=by
 obtain⟨⟨i1,i2,i3⟩,⟨i5,i6⟩,i9,i10⟩:=h;exact⟨⟨e _ i1,e _ i2,e _ i3⟩,⟨e _ i5,e _ i6⟩,λb d=>e _ (i9 b d),λb d=>e _ (i10 b d)⟩
theorem kk.mod {Y:Nat->Prop}{pL pR pX pY rb:Nat}(h:kk A sb a rb pL pR pX pY lc rc)(d:Mod Y A B)(e:kk.In (λb=>¬Y b) sb pL pR pX pY lc rc):kk B sb a rb pL pR pX pY lc rc:=by
 obtain⟨⟨i1,i2,i3⟩,⟨i5,i6⟩,i9,i10⟩:=e;obtain⟨un,hr⟩:=h.row;exact⟨⟨un,hr.mod d i1⟩,h.cL.mod d i2,h.cR.mod d i3,h.cX.mod d i5,h.cY.mod d i6,h.ol.mod d i9,h.or.mod d i10⟩
end
section
variable {H H0 A B:aa}{F F' E X V:Nat->Prop}{p dp m sb a b lb wb:Nat}{s s':Pl}{M M':bd}{R:ak}{T:Tx}{f feed:Value}{un:Sl}{wr:Int}{cl en:Bool}{lcols rcols lc rc sl:Sl}{pL pR pP pX pY pl pc:Nat}
theorem xp {x y:Sl}{d g:List Int}{K:Sl->aa->Prop}(i:Ints .u64 H x d)(h:Ints .u64 H y g)(h1:d.length<=100)(G:g.length<=100)(q:∀s A,aA A 0 gM 1 s ((d++g).map (Ql .u64))->Ext H A->(∀b,al s b->H.size<=b)->K s A):EV.sp x y H K:=by
 refine EV.of ?_;unfold EV.vc;refine kD i (by omega) λc A o e f=>?_;have t:=h.len;have cn:c.n=d.length:=by have:=o.1;simp at this;omega
 refine jB.append (base:=0) (s:=c) (x:=y) (xs:=d.map (Ql .u64)) (ws:=g.map (Ql .u64)) o (by simp;omega) (h.ext e).reads (iy _ _) (by omega) (by omega) (QN _) λs' B I u m' f' _=>?_;refine q s' B (by rw[Q4];exact u) (((Ext.mod e).trans m').ext f) λb z=>?_;rcases f' b z with v|v
 ·exact f b v
 ·have:=e.size;omega
theorem kj.next {Y:Nat->Prop}{ls:List (List Int)}(h:kj (Nu E a lb) A a lb wb 2 false sl ls)(e:Mod Y A B)(d:∀b,Y b->¬E b)(h1:E a)(g:E lb):kj (Nu E a lb) B a lb wb 2 false sl ls:=
 h.aE e (λb u=>.inl (d b u)) (λu=>d _ u h1) (λu=>d _ u g)
set_option maxHeartbeats 2000000 in
set_option maxRecDepth 10000 in
theorem Ao {K:(Sl×Bool×Int)->aa->Prop}(P:jH H0 A F E p dp s M m R T)(hg:Gl H0)(hm:m+2000000<=30000000000)(g:mq A sb a R.rb pL pR pP pX pY pl pc lc rc)(hI:mq.In E sb pL pR pP pX pY pl pc lc rc)(hf:kj (Nu V a lb) A a lb wb 2 false sl [[1,2],[3,3]])(hV:(∀b,V b->E b)/\V a/\V lb/\¬V pl/\¬V pc)
  (J:sb≠pl/\sb≠pc) (hK:∀F' s' (V2:Nat->Prop) out B,jH H0 B F' (λb=>E b\/V2 b) p dp s' M (m+2000000) R T->aA B 0 gM 1 out ([1,2,2,7].map (Ql .u64))->(∀b,al out b->A.size<=b/\V2 b)->Mod (λb=>¬E b\/b=lb\/b=pl\/b=pc) A B->Ext H0 B->ab B sb jJ (fh 4 (.func (.func BO.no) #[] #[.pointer (av pc),.pointer (av pL),.pointer (av pl),.pointer (av pX),.pointer (av pR),.pointer (av pP),.pointer (av pY)]) un 0 .nilIface false false)->K (out,true,0) B)
  (z:ab A sb jJ (fh 4 (.func (.func BO.no) #[] #[.pointer (av pc),.pointer (av pL),.pointer (av pl),.pointer (av pX),.pointer (av pR),.pointer (av pP),.pointer (av pY)]) un 0 .nilIface false false)):sq.sp (av sb) A K:=by
 obtain⟨⟨i1,i2,i3,i4⟩,⟨i5,i6,i7,i8⟩,i9,i10⟩:=hI;refine jk z (iI #[.pointer (av pc),.pointer (av pL),.pointer (av pl),.pointer (av pX),.pointer (av pR),.pointer (av pP),.pointer (av pY)] rfl (by kernel_rfl) ?_);refine BO.of (cap:=⟨pc,0,none⟩) (cap1:=⟨pL,0,none⟩) (cap2:=⟨pl,0,none⟩) (cap3:=⟨pX,0,none⟩) (cap4:=⟨pR,0,none⟩) (cap5:=⟨pP,0,none⟩) (cap6:=⟨pY,0,none⟩) ?_;unfold BO.vc;refine ay 0 (λ_ _ B=>A=B) rfl ?_;rintro _ _ _ next _ rfl _
 refine ft (c:=aq) (x:=none) g.cc ?_;refine aT rfl ?_;refine ft (c:=aq) (x:=av a) g.cL ?_
 -- types keep the cells apart
 have ty:∀{x y:Nat} {t u:TypeId} {cs ds:Array Value},ab A x t cs->ab A y u ds->t≠u->x≠y:=λ{x y t u cs ds} h1 h2 J e=>J (aR (e▸h1) h2);refine vP hf (λl r x A1 s1 a6 f1 mA ix ox=>?_) (λe=>by cases e);have a7:l=[1,2]/\r=[[3,3]]:=by injection a6 with u v;exact⟨u.symm,v.symm⟩
 obtain⟨rfl,rfl⟩:=a7;have xE:∀q,al x q->V q/\q≠a/\q≠lb/\q<A1.size:=λq ⟨ad,ha,e⟩=>by
  obtain⟨o1,o2⟩:=ox ad ha;subst e;exact⟨Tb λu=>o2 (.inl u),λu=>o2 (.inr (.inl u)),λu=>o2 (.inr (.inr u)),o1⟩
 have a8:Mod E A A1:=mA.mono λb _ u=>by rw[u];exact hV.1 _ hV.2.2.1
 have ba:=P.write a8;have h:∀{y:Nat} {t:TypeId} {cs:Array Value},ab A y t cs->t≠cW->¬y=lb:=λ{y t cs} r hn e=>ty r hf.cell hn e;have bg:=g.cl.mod mA (h g.cl (by decide));refine ab.st (i:=0) bg (by simp) (by cases x;rfl) λA2 r2 m2 z2=>?_;have r2:ab A2 pl cv #[x.v]:=r2;have bl:=ba.write (m2.mono λb _ u=>by rw[u];exact i7);have O:Mod (λb=>b=lb\/b=pl) A A2:=(mA.mono λb _ u=>.inl u).trans (m2.mono λb _ u=>.inr u);have d:∀{y:Nat} {t:TypeId} {cs:Array Value},ab A y t cs->t≠cW->t≠cv->ab A2 y t cs:=λ{y t cs} r h1 h2=>r.mod O λu=>u.elim (h r h1) λe=>ty r g.cl h2 e;have bs:∀q,al x q->q≠pl:=λq hq e=>hV.2.2.2.1 (e▸(xE q hq).1);have ae:Ints .u64 A2 x [1,2]:=ix.mod m2 λad ha u=>bs _ ⟨ad,ha,rfl⟩ u;refine az rfl ?_;refine ft (c:=au) (x:=x) r2 ?_;refine ft (c:=au) (x:=lc) (d g.cX (by decide) (by decide)) ?_;have G:∀{c:Sl} {xs:List Value},aA A 0 bT 1 c xs->aA A2 0 bT 1 c xs:=λ{c xs} o=>o.mod O λb hb u=>by
  obtain⟨cur,e⟩:=o.obj b hb;rcases u with u|u
  ·exact h e (by decide) u
  ·exact ty e g.cl (by decide) u
 refine fZ ae (G g.ol).ints (by decide) λwd A3 o3 e3=>?_;have bA:=bl.grow e3;have bB:=(d g.cR (by decide) (by decide)).ext e3;refine ft (c:=aq) (x:=av R.rb) bB ?_;refine ft (c:=ai .u8) (x:=1) ((d g.cP (by decide) (by decide)).ext e3) ?_;refine ft (c:=au) (x:=rc) ((d g.cY (by decide) (by decide)).ext e3) ?_;have bC:Ints .u64 A3 wd [2]:=o3.ints;refine tq (x:=2) bA ((G g.or).ext e3).ints ((G g.or).ext e3).cap bC λC A4 U P4 c4 e4 ce jc _=>?_;have I:=e3.trans e4;have bD:ab A4 pc EL #[.pointer none]:=(d g.cc (by decide) (by decide)).ext I;refine ab.st (i:=0) bD (by simp) rfl λA5 r5 m5 z5=>?_;have r5:ab A5 pc EL #[.pointer (av C.cb)]:=r5;have af:Mod C.ext A4 A5:=m5.mono λb _ u=>by rw[u,ce];exact i8
 refine ft (c:=aq) (x:=av C.cb) r5 ?_;refine tO (P4.beside c4 af) (c4.write af) hg jc P.fit P.W P.ords P.f P.d P.TL P.lQ hm (λ_ F6 s6 out A6 t6 o6 f6 m6 e6=>?_) (λu=>absurd u (by decide)) (.inl rfl);rw[ce] at t6 m6;refine az rfl ?_;refine aT rfl ?_;have bE:ab A6 pl cv #[x.v]:=((r2.ext I).mod m5 (ty g.cl g.cc (by decide))).mod m6 λu=>u i7;refine ft (c:=au) (x:=x) bE ?_;have bG:∀q,al x q->q≠pc:=λq hq e=>hV.2.2.2.2 (e▸(xE q hq).1);have b0:Ints .u64 A6 x [1,2]:=((ae.ext I).mod m5 λad ha u=>bG _ ⟨ad,ha,rfl⟩ u).mod m6 λad ha u=>u (hV.1 _ (xE _ ⟨ad,ha,rfl⟩).1);refine xp b0 o6.ints (by decide) (by decide) λa1 A7 o7 e7 f7=>?_;have S:Mod (λb=>¬E b\/b=lb\/b=pl\/b=pc) A A7:=by
  refine((((O.mono λb _ u=>.inr (u.imp id .inl)).trans (Ext.mod I)).trans (m5.mono λb _ u=>.inr (.inr (.inr u)))).trans (m6.mono λb _ u=>.inl u)).trans e7.mod
 have Z:ab A7 sb jJ (fh 4 (.func (.func BO.no) #[] #[.pointer (av pc),.pointer (av pL),.pointer (av pl),.pointer (av pX),.pointer (av pR),.pointer (av pP),.pointer (av pY)]) un 0 .nilIface false false):=z.mod S λu=>by
  rcases u with u|u|u|u
  ·exact u i1
  ·exact h z (by decide) u
  ·exact J.1 u
  ·exact J.2 u
 refine⟨Z,λu=>by rcases u with u|u<;>simp at u,λ_ _=>?_⟩;have t7:=t6.more (X:=λq=>A6.size<=q/\q<A7.size) e7 λq hq=>hq;have b1:A.size<=A6.size:=by have:=O.size;have:=I.size;have:=m5.size;have:=m6.size;omega
 exact hK F6 s6 _ a1 A7 t7 o7 (λb hb=>⟨by have:=f7 b hb;omega,f7 b hb,(o7.block b hb).2⟩) S (e6.trans e7) Z
set_option maxHeartbeats 2000000 in
set_option maxRecDepth 10000 in
theorem y6 {K:(Sl×Bool×Int)->aa->Prop}(h:jH H0 A F E p dp s M m R T)(hg:Gl H0)(hm:m+4000000<=30000000000)(O:kk A sb a R.rb pL pR pX pY lc rc)(hI:kk.In E sb pL pR pX pY lc rc)(hf:kj (Nu V a lb) A a lb wb 2 false sl [[1,2],[3,3]])(P:(∀b,V b->E b)/\V a/\V lb)
  (hK:∀F' s' x B,jH H0 B F' E p dp s' M (m+4000000) R T->Ints .u64 B x [3,3]->Mod (λb=>¬E b\/b=lb) A B->Ext H0 B->K (x,true,0) B)
  (G:ab A sb jJ (fh 2 (.func (.func AL.no) #[] #[.pointer (av pL),.pointer (av pX),.pointer (av pR),.pointer (av pY)]) un 0 .nilIface false false)):sq.sp (av sb) A K:=by
 obtain⟨⟨i1,i2,i3⟩,⟨i5,i6⟩,i9,i10⟩:=hI;refine jk G (iI #[.pointer (av pL),.pointer (av pX),.pointer (av pR),.pointer (av pY)] rfl (by kernel_rfl) ?_);refine AL.of (cap:=⟨pL,0,none⟩) (cap1:=⟨pX,0,none⟩) (cap2:=⟨pR,0,none⟩) (cap3:=⟨pY,0,none⟩) ?_;unfold AL.vc;have ty:∀{x y:Nat} {t u:TypeId} {cs ds:Array Value},ab A x t cs->ab A y u ds->t≠u->x≠y:=λ{x y t u cs ds} h1 h2 a8 e=>a8 (aR (e▸h1) h2);have d:∀{y:Nat} {t:TypeId} {cs:Array Value},ab A y t cs->t≠cW->¬y=lb:=λ{y t cs} r hn e=>ty r hf.cell hn e;refine ay 1 (λi _ B=>∃F' s' ba,jH H0 B F' E p dp s' M (m+2000000*i) R T/\kj (Nu V a lb) B a lb wb 2 false ba (if i=0 then [[1,2],[3,3]] else [[3,3]])/\Mod (λb=>¬E b\/b=lb) A B/\Ext H0 B) ⟨F,s,sl,(Nat.add_zero m▸h:jH H0 A F E p dp s M (m+0) R T),hf,.refl _ _,by obtain⟨U,hP⟩:=h.ar;exact hP.ext⟩ ?_;rintro i _ B next hi ⟨F1,s1,bs,t1,f1,m1,e1⟩ Z
 have aE:∀{y:Nat} {t:TypeId} {cs:Array Value},E y->ab A y t cs->t≠cW->ab B y t cs:=λ{y t cs} hy r hn=>r.mod m1 λu=>u.elim (λv=>v hy) (d r hn);refine ft (c:=aq) (x:=av a) (aE i2 O.cL (by decide)) ?_;have a6:i=0\/i=1:=by omega
 have own:∀{c:Sl} {xs:List Value},(∀b,al c b->E b)->aA A 0 bT 1 c xs->aA B 0 bT 1 c xs:=λ{c xs} hE o=>o.mod m1 λb hb u=>by
  obtain⟨cur,e⟩:=o.obj b hb;exact u.elim (λv=>v (hE b hb)) (d e (by decide))
 refine vP f1 (λl r x A1 s2 z f2 mA ix ox=>?_) (λe=>by rcases a6 with rfl|rfl<;>cases e);have bg:Mod E B A1:=mA.mono λb _ u=>by rw[u];exact P.1 _ P.2.2
 have t2:=t1.write bg;have xE:∀q,al x q->V q/\q≠lb:=λq ⟨ad,ha,e⟩=>by
  obtain⟨o1,o2⟩:=ox ad ha;subst e;exact⟨Tb λu=>o2 (.inl u),λu=>o2 (.inr (.inr u))⟩
 have ae:∀{y:Nat} {t:TypeId} {cs:Array Value},E y->ab A y t cs->t≠cW->ab A1 y t cs:=λ{y t cs} hy r hn=>(aE hy r hn).mod mA (d r hn);have g:∀{c:Sl} {xs:List Value},(∀b,al c b->E b)->aA A 0 bT 1 c xs->aA A1 0 bT 1 c xs:=λ{c xs} hE o=>(own hE o).mod mA λb hb u=>by
  obtain⟨cur,e⟩:=o.obj b hb;exact d e (by decide) u
 refine az rfl ?_;refine ft (c:=au) (x:=lc) (ae i5 O.cX (by decide)) ?_;refine fZ ix (g i9 O.ol).ints (by decide) λwd A3 o3 J=>?_;have t3:=t2.grow J;refine ft (c:=aq) (x:=av R.rb) ((ae i3 O.cR (by decide)).ext J) ?_;refine ft (c:=au) (x:=rc) ((ae i6 O.cY (by decide)).ext J) ?_;have m3:Mod (λb=>¬E b\/b=lb) A A3:=(m1.trans (mA.mono λb _ u=>.inr u)).trans J.mod;have bl:=ix.ext J;have a7:∀{D:aa},Mod (λb=>¬E b\/b=lb) A D->ab D sb jJ (fh 2 (.func (.func AL.no) #[] #[.pointer (av pL),.pointer (av pX),.pointer (av pR),.pointer (av pY)]) un 0 .nilIface false false):=λ{D} mm=>G.mod mm λu=>u.elim (λv=>v i1) (d G (by decide));rcases a6 with rfl|rfl
 ·have af:l=[1,2]/\r=[[3,3]]:=by
   have z:[[1,2],[3,3]]=l::r:=z;injection z with u v;exact⟨u.symm,v.symm⟩
  obtain⟨rfl,rfl⟩:=af;have a1:Ints .u64 A3 wd [2]:=o3.ints;refine tq (x:=2) t3 ((g i10 O.or).ext J).ints ((g i10 O.or).ext J).cap a1 λC A4 U P4 c4 e4 ce jc _=>?_;refine tO P4 c4 hg jc h.fit h.W h.ords h.f h.d h.TL h.lQ (by omega) (λ_ F6 s6 out A6 t6 o6 f6 m6 e6=>?_) (λu=>absurd u (by decide)) (.inl rfl);rw[ce] at t6 m6;rw[show m+2000000*0+2000000=m+2000000*(0+1) by omega] at t6;refine az rfl ?_;have I:Mod (λb=>¬E b) A3 A6:=(Ext.mod e4).trans m6;exact Z (by decide) _ _ ⟨F6,s6,s2,t6,(f2.next (Ext.mod (F:=λb=>¬E b) J) (λb u v=>u (P.1 b v)) P.2.1 P.2.2).next I (λb u v=>u (P.1 b v)) P.2.1 P.2.2,m3.trans (I.mono λb _ u=>.inl u),e6⟩
 ·have af:l=[3,3]:=by
   have z:[[3,3]]=l::r:=z;injection z with u v;exact u.symm
  subst af;rw[Q9] at t3;have a1:Ints .u64 A3 wd [3]:=o3.ints;refine tq (x:=3) t3 ((g i10 O.or).ext J).ints ((g i10 O.or).ext J).cap a1 λC A4 U P4 c4 e4 ce jc _=>?_;refine tO P4 c4 hg jc h.fit h.W h.ords h.f h.d h.TL h.lQ (QZ (Nat.le_of_eq (U9 m 2000000 2000000)) hm) (λu=>absurd u (by decide)) (λ_ F6 s6 A6 t6 m6 e6=>?_) (.inr rfl);rw[ce] at t6 m6;rw[U9] at t6;refine aT rfl ?_;have I:Mod (λb=>¬E b) A3 A6:=(Ext.mod e4).trans m6;have S:=m3.trans (I.mono λb _ u=>.inl u);refine⟨a7 S,λu=>by rcases u with u|u<;>simp at u,λ_ _=>?_⟩;exact hK F6 s6 x A6 t6 (bl.mod I λad ha u=>u (P.1 _ (xE _ ⟨ad,ha,rfl⟩).1)) S e6
end
structure dO (H0:aa)(J:aa->(Nat->Prop)->(Nat->Prop)->Prop):Prop where
 nv:∀{A:aa} {X E:Nat->Prop},J A X E->Ak H0 A X E
 ext:∀{A:aa} {X E:Nat->Prop},J A X E->Ext H0 A
 write:∀{A B:aa} {X E N:Nat->Prop},J A X E->Mod E A B->(∀b,N b->A.size<=b/\b<B.size)->J B X (λb=>E b\/N b)
 less:∀{A:aa} {X E E':Nat->Prop},J A X E->(∀b,E' b->E b)->J A X E'
section
variable {H0 A B:aa}{J:aa->(Nat->Prop)->(Nat->Prop)->Prop}{X X1 X1' E E':Nat->Prop}
theorem dO.KZ (L:dO H0 J)(h:J A X E)(S:Step X1 X1' A B)(e:∀b,X1 b->E b)(g:∀b,X1' b->b<B.size)(d:∀b,E' b->E b\/X1' b):J B X E':=by
 refine L.less (L.write (N:=λb=>X1' b/\A.size<=b) h (S.mod.mono λb _ u=>e b u) λb u=>⟨u.2,g b u.1⟩) λb u=>?_;rcases d b u with v|v
 ·exact .inl v
 ·exact(S.own b v).imp (e b) λw=>⟨v,w⟩
theorem dO.more (L:dO H0 J)(h:J A X E)(e:Ext A B)(d:∀b,E' b->E b\/(A.size<=b/\b<B.size)):J B X E':=
 L.less (L.write (N:=λb=>A.size<=b/\b<B.size) h e.mod λb u=>u) d
theorem dO.st (L:dO H0 J){k:Nat}(h:J A X E)(m:Mod (λb=>b=k) A B)(hk:E k):J B X E:=
 L.less (L.write (N:=λ_=>False) h (m.mono λb _ u=>u▸hk) λb u=>u.elim) λb u=>.inl u
end
theorem aO {H0:aa}{rb n:Nat}{So Sd Sn:List (List Int)}:dO H0 (cE H0 rb So Sd Sn n):=⟨λh=>h.nv,λh=>h.hz,λh m d=>h.write m d,λh he=>h.less he⟩
theorem bY {H0:aa}{rb n cb:Nat}{So Sd Sn ls:List (List Int)}{cl wl:List Int}:dO H0 (λA X E=>jD H0 rb So Sd Sn cl wl n cb A X E ls):=⟨λh=>h.nv,λh=>h.hz,λh m d=>h.write m d,λh he=>h.less he⟩
structure im (H0:aa)(sb w:Nat)(I:List (List Int)->aa->(Nat->Prop)->(Nat->Prop)->Prop)(Fin:aa->(Nat->Prop)->(Nat->Prop)->Prop):Prop where
 law:∀ls,dO H0 (I ls)
 fin:dO H0 Fin
 row:∀{ls:List (List Int)} {A:aa} {X E:Nat->Prop},I ls A X E->∃f un,ab A sb jJ (fh w f un 0 .nilIface false false)
 cols:∀{ls:List (List Int)} {A:aa} {X E:Nat->Prop},I ls A X E->∀l∈ls,l.length=w
 step:∀{A:aa} {X E:Nat->Prop} {l:List Int} {r:List (List Int)} {K:(Sl×Bool×Int)->aa->Prop},I (l::r) A X E->(∀(x:Sl) (B:aa) (X':Nat->Prop),I r B X' E->Step X X' A B->aA B 0 gM 1 x (l.map (Ql .u64))->(∀b,al x b->A.size<=b/\¬X' b)->K (x,true,0) B)->sq.sp (av sb) A K
 stop:∀{A:aa} {X E:Nat->Prop} {K:(Sl×Bool×Int)->aa->Prop},I [] A X E->(∀(B:aa) (X':Nat->Prop),Fin B X' E->Step X X' A B->K (Sl.mk none 0 0,false,0) B)->sq.sp (av sb) A K
structure dz (X:Nat->Prop)(A:aa)(s:Sl)(ls:List (List Int)):Prop where
 ex:∃rs:List Sl,aA A 0 cv 1 s (rs.map Sl.v)/\rs.length=ls.length/\∀(j:Nat) (r:Sl) (l:List Int),rs[j]?=some r->ls[j]?=some l->Ints .u64 A r l/\r.n<=r.c/\∀ad,r.a=some ad->ad.block<A.size/\¬X ad.block/\¬al s ad.block
 off:∀b,al s b->¬X b
section
variable {X X':Nat->Prop}{A B:aa}{s s':Sl}{ls:List (List Int)}{l:List Int}{r:Sl}
theorem dz.p (h:dz X A s ls):dR X A s ls:=by
 obtain⟨rs,o,e,hr⟩:=h.ex;exact⟨⟨rs,o,e,λj r l h1 d=>⟨(hr j r l h1 d).1,(hr j r l h1 d).2.2⟩⟩,h.off⟩
theorem dz.nil (X:Nat->Prop)(A:aa):dz X A (Sl.mk none 0 0) []:=⟨⟨[],aA.nil _ _ _ _,rfl,λj r l d=>by simp at d⟩,λb u=>by obtain⟨ad,h,_⟩:=u;cases h⟩
theorem dz.step (h:dz X A s ls)(S:Step X X' A B):dz X' B s ls:=by
 obtain⟨rs,o,q,hr⟩:=h.ex;refine⟨⟨rs,o.mod S.mod h.off,q,λj r l t d=>?_⟩,λb g u=>?_⟩
 ·obtain⟨y,z,i⟩:=hr j r l t d;refine⟨y.mod S.mod λad e=>(i ad e).2.1,z,λad e=>?_⟩;obtain⟨G,I,K⟩:=i ad e;exact⟨QP G S.mod.size,λv=>(S.own _ v).elim I λw=>by omega,K⟩
 ·exact(S.own b u).elim (h.off b g) λw=>by have:=(o.block b g).2;omega
theorem dz.mono (h:dz X A s ls)(i:∀b,b<A.size->X' b->X b):dz X' A s ls:=by
 obtain⟨rs,o,t,hr⟩:=h.ex;refine⟨⟨rs,o,t,λj r l v g=>?_⟩,λb q u=>h.off b q (i b (o.block b q).2 u)⟩;obtain⟨y,z,d⟩:=hr j r l v g;exact⟨y,z,λad e=>⟨(d ad e).1,λu=>(d ad e).2.1 (i _ (d ad e).1 u),(d ad e).2.2⟩⟩
theorem dz.snoc {ty:TypeId}{K:Sl->aa->Prop}(h:dz X A s ls)(hn:ls.length<=5000)(G:Ints .u64 A r l)(S:r.n<=r.c)(I:∀ad,r.a=some ad->ad.block<A.size/\¬X ad.block/\¬al s ad.block)(Z:∀b,X b->b<A.size)
  (hK:∀s' B,dz X B s' (ls++[l])->Mod (al s) A B->(∀b,al s' b->al s b\/A.size<=b)->K s' B):aB A #[r.v] cv λp H1=>bI au Qf (Qo #[cW,cW] ty #[s.v,.slice (some p) 1 1]) H1 K:=by
 obtain⟨rs,o,hlen,hr⟩:=h.ex;have ae:=h.p.n;refine wE.push (base:=0) o rfl (by omega) (by omega) (QN _) λs' B n1 o1 m1 t _=>?_;have z:=m1.size;have aE:∀{x:Sl} {y:List Int},Ints .u64 A x y->(∀ad,x.a=some ad->ad.block<A.size/\¬X ad.block/\¬al s ad.block)->Ints .u64 B x y/\∀ad,x.a=some ad->ad.block<B.size/\¬X ad.block/\¬al s' ad.block:=λhi g=>
  ⟨hi.mod m1 λad d=>(g ad d).2.2,λad d=>⟨by have:=(g ad d).1;omega,(g ad d).2.1,λv=>(t _ v).elim (g ad d).2.2 λw=>by have:=(g ad d).1;omega⟩⟩
 refine hK s' B ⟨⟨rs++[r],by rw[Q4];exact o1,by rw[Qt,Qt,hlen];rfl,λj x y e i=>?_⟩,λb hb u=>?_⟩ m1 t
 ·rcases Q6 j rs.length with q|q
  ·rw[QR q] at e;rw[QR (by omega)] at i;obtain⟨O,qc,P⟩:=hr j x y e i;exact⟨(aE O P).1,qc,(aE O P).2⟩
  ·rw[Re q] at e;rw[Re (by omega),<-hlen] at i;have e0:j - rs.length=0:=by
    have:=(Qk.1 e).1;simp at this;omega
   rw[e0] at e i;cases e;cases i;exact⟨(aE G I).1,S,(aE G I).2⟩
 ·rcases t b hb with v|v
  ·exact h.off b v u
  ·have:=Z b u;omega
theorem dz.Iw (h:dz X A s ls){i:Nat}(hi:i<ls.length){z:Int}(hz:z=(i:Int)){K:Addr->Sl->Prop}(e:∀a x,Ints .u64 A x ls[i]->x.n<=x.c->K a x):
  ah s.a λa=>(0<=z/\z<(s.n:Int))/\ld au A (a.add (z.toNat*1)) λx=>K a x:=by
 obtain⟨rs,o,y,hr⟩:=h.ex;have g:=h.p.n;have d:i<rs.length:=by omega
 obtain⟨ad,q,t⟩:=o.reads.at (i:=i) (by rw[QI];exact d);subst hz;obtain⟨u,v,_⟩:=hr i rs[i] ls[i] (Qg d) (Qg hi);exact aY ad q ⟨⟨by omega,by omega⟩,rs[i],by rw[QD,Q9];simpa using t,e ad _ u v⟩
end
section
variable {H0 A B:aa}{sb w:Nat}{I:List (List Int)->aa->(Nat->Prop)->(Nat->Prop)->Prop}{Fin:aa->(Nat->Prop)->(Nat->Prop)->Prop}{X E:Nat->Prop}{ls:List (List Int)}
set_option maxHeartbeats 1000000 in
theorem sh {K:(Sl×Bool)->aa->Prop}(G:im H0 sb w I Fin)(h:I ls A X E)(hn:ls.length<=5000)
  (hK:∀(out:Sl) (B:aa) (X':Nat->Prop),Fin B X' E->Step X X' A B->dz (λb=>X' b\/E b) B out ls->K (out,true) B):qz.sp (av sb) A K:=by
 refine qz.of ?_;unfold qz.vc;refine ay ls.length (λi out B=>∃X',I (ls.drop i) B X' (λb=>E b\/al out b)/\Step X X' A B/\dz (λb=>X' b\/E b) B out (ls.take i)/\∀b,al out b->A.size<=b) ⟨X,(G.law ls).less h (λb u=>u.elim id λv=>(by obtain⟨ad,t,_⟩:=v;cases t)),Step.refl _ _,dz.nil _ _,λb u=>by obtain⟨ad,t,_⟩:=u;cases t⟩ ?_;rintro i out B next hi ⟨X1,h1,y,rc,new⟩ e
 have Z:=(G.law _).nv h1;rcases Q6 i ls.length with g|q
 ·rw[RG g] at h1;refine G.step h1 λx C X2 h2 o z fx=>?_;have zC:=o.mod.size;have b2:=(G.law _).nv h2;refine az rfl ?_;have SW:Step (λb=>X1 b\/E b) (λb=>X2 b\/E b) B C:=o.fK (λb u=>.inl u) λb u=>u.elim .inr λv=>.inl (.inr v);refine(rc.step SW).snoc (by rw[Qw];omega) z.ints (by have:=z.cap;omega) (λad ha=>?_) (λb u=>?_) λae D rD O bD=>?_
  ·have P:=fx _ ⟨ad,ha,rfl⟩;have S:=z.block _ ⟨ad,ha,rfl⟩;exact⟨S.2,λu=>u.elim P.2 λv=>by have:=(Z.e _ (.inl v)).1;omega,λv=>by have:=(Z.e _ (.inr v)).1;omega⟩
  ·rcases u with u|u
   ·exact(b2.x b u).1
   ·exact(b2.e b (.inl u)).1
  ·have zD:=O.size;refine e g _ _ ⟨X2,?_,?_,?_⟩
   ·refine(G.law _).less ((G.law _).write (N:=λb=>C.size<=b/\b<D.size) h2 (O.mono λb _ u=>.inr u) λb u=>u) λb u=>?_;rcases u with u|u
    ·exact .inl (.inl u)
    ·rcases bD b u with v|v
     ·exact .inl (.inr v)
     ·exact .inr ⟨v,rD.p.lt b u⟩
   ·have d:=y.trans o;refine⟨⟨by have:=d.mod.size;omega,λb P u=>?_⟩,λb u=>d.own b u⟩;rw[O.same b (by have:=d.mod.size;omega) λv=>by have:=new b v;omega,d.mod.same b P u]
   ·rw[RC,Qg g];exact⟨rD,λb u=>(bD b u).elim (new b) λv=>by have:=y.mod.size;omega⟩
 ·have hd:ls.drop i=[]:=Vx q;rw[hd] at h1;refine G.stop h1 λC X2 f2 o=>?_;refine aT rfl ?_;have SW:Step (λb=>X1 b\/E b) (λb=>X2 b\/E b) B C:=o.fK (λb u=>.inl u) λb u=>u.elim .inr λv=>.inl (.inr v);have ht:ls.take i=ls:=QO q;rw[ht] at rc;exact hK out C X2 (G.fin.less f2 λb u=>.inl u) (y.trans o) (rc.step SW)
end
abbrev Jg:=aa->(Nat->Prop)->(Nat->Prop)->Prop
def Gy (H0:aa):Jg:=λA X E=>Ext H0 A/\Ak H0 A X E
theorem jC {H0:aa}:dO H0 (Gy H0):=by
 refine⟨λh=>h.2,λh=>h.1,λ{A B X E N} h m g=>⟨⟨QZ h.1.size m.size,λb d _=>?_⟩,h.2.write h.1.size m.size g⟩,λh he=>⟨h.1,h.2.less he⟩⟩;exact(m.same b (QP d h.1.size) λu=>by have:=(h.2.e b u).2;omega).trans (h.1.same b d id)
section
variable {H0:aa}{J1 J2:Jg}
theorem dO.or (L:dO H0 J1)(L':dO H0 J2):dO H0 (λA X E=>J1 A X E\/J2 A X E):=
 ⟨λh=>h.elim L.nv L'.nv,λh=>h.elim L.ext L'.ext,λh m d=>h.imp (λu=>L.write u m d) λu=>L'.write u m d,λh he=>h.imp (λu=>L.less u he) λu=>L'.less u he⟩
theorem dO.ex {ι:Type}{J:ι->Jg}(L:∀i,dO H0 (J i)):dO H0 (λA X E=>∃i,J i A X E):=
 ⟨λ⟨i,h⟩=>(L i).nv h,λ⟨i,h⟩=>(L i).ext h,λ⟨i,h⟩ m d=>⟨i,(L i).write h m d⟩,λ⟨i,h⟩ he=>⟨i,(L i).less h he⟩⟩
theorem dO.and {P:Prop}(L:dO H0 J1):dO H0 (λA X E=>P/\J1 A X E):=
 ⟨λh=>L.nv h.2,λh=>L.ext h.2,λh m d=>⟨h.1,L.write h.2 m d⟩,λh he=>⟨h.1,L.less h.2 he⟩⟩
end
def Al (X1 X2 O E:Nat->Prop)(b:Nat):Prop:=E b\/X1 b\/X2 b\/O b
def Ow (X1 X2 O:Nat->Prop)(b:Nat):Prop:=X1 b\/X2 b\/O b
structure Wk (J1 J2:Jg)(A:aa)(X1 X2 O E:Nat->Prop):Prop where
 j1:J1 A X1 (λb=>E b\/X2 b\/O b)
 j2:J2 A X2 (λb=>E b\/X1 b\/O b)
 o:∀b,O b->¬E b
section
variable {H0 A B:aa}{J1 J1' J2 J2':Jg}{X1 X1' X2 X2' O O' E E' N X X':Nat->Prop}{C:(Nat->Prop)->(Nat->Prop)->aa->Prop}
theorem Wk.nv (L1:dO H0 J1)(L2:dO H0 J2)(h:Wk J1 J2 A X1 X2 O E):Ak H0 A (Ow X1 X2 O) E:=by
 have d:=L1.nv h.j1;have b2:=L2.nv h.j2;refine⟨λb u=>?_,λb u=>d.e b (.inl u)⟩;rcases u with u|u|u
 ·exact⟨(d.x b u).1,(d.x b u).2.1,λv=>(d.x b u).2.2 (.inl v)⟩
 ·exact⟨(b2.x b u).1,(b2.x b u).2.1,λv=>(b2.x b u).2.2 (.inl v)⟩
 ·exact⟨(d.e b (.inr (.inr u))).1,(d.e b (.inr (.inr u))).2,h.o b u⟩
theorem Wk.l (L2:dO H0 J2)(d:dO H0 J1')(h:Wk J1 J2 A X1 X2 O E)(j:J1' B X1' (λb=>E b\/X2 b\/O b))(S:Step X1 X1' A B):Wk J1' J2 B X1' X2 O E/\Step (Ow X1 X2 O) (Ow X1' X2 O) A B:=by
 refine⟨⟨j,L2.KZ h.j2 S (λb u=>.inr (.inl u)) (λb u=>((d.nv j).x b u).1) λb u=>?_,h.o⟩,S.fK (λb u=>.inl u) λb u=>u.elim .inr λv=>.inl (.inr v)⟩;rcases u with u|u|u
 ·exact .inl (.inl u)
 ·exact .inr u
 ·exact .inl (.inr (.inr u))
theorem Wk.r (L1:dO H0 J1)(d:dO H0 J2')(h:Wk J1 J2 A X1 X2 O E)(j:J2' B X2' (λb=>E b\/X1 b\/O b))(S:Step X2 X2' A B):Wk J1 J2' B X1 X2' O E/\Step (Ow X1 X2 O) (Ow X1 X2' O) A B:=by
 refine⟨⟨L1.KZ h.j1 S (λb u=>.inr (.inl u)) (λb u=>((d.nv j).x b u).1) λb u=>?_,j,h.o⟩,S.fK (λb u=>.inr (.inl u)) λb u=>?_⟩
 ·rcases u with u|u|u
  ·exact .inl (.inl u)
  ·exact .inr u
  ·exact .inl (.inr (.inr u))
 ·rcases u with u|u|u
  ·exact .inl (.inl u)
  ·exact .inr u
  ·exact .inl (.inr (.inr u))
theorem Wk.own (L1:dO H0 J1)(L2:dO H0 J2)(h:Wk J1 J2 A X1 X2 O E)(m:Mod O A B)(hO:∀b,O' b->O b\/(A.size<=b/\b<B.size)):Wk J1 J2 B X1 X2 O' E/\Step (Ow X1 X2 O) (Ow X1 X2 O') A B:=by
 have d:=L1.nv h.j1;have go:∀{J:Jg} {Y Z:Nat->Prop},dO H0 J->J A Y (λb=>E b\/Z b\/O b)->J B Y (λb=>E b\/Z b\/O' b):=λ{J Y Z} L j=>by
  refine L.less (L.write (N:=λb=>A.size<=b/\b<B.size) j (m.mono λb _ u=>.inr (.inr u)) λb u=>u) λb u=>?_;rcases u with u|u|u
  ·exact .inl (.inl u)
  ·exact .inl (.inr (.inl u))
  ·exact(hO b u).imp (λv=>.inr (.inr v)) id
 refine⟨⟨go L1 h.j1,go L2 h.j2,λb u v=>?_⟩,m.mono λb _ u=>.inr (.inr u),λb u=>?_⟩
 ·rcases hO b u with w|w
  ·exact h.o b w v
  ·have:=(d.e b (.inl v)).1;omega
 ·rcases u with u|u|u
  ·exact .inl (.inl u)
  ·exact .inl (.inr (.inl u))
  ·exact(hO b u).imp (λv=>.inr (.inr v)) λv=>v.1
theorem Wk.grow (L1:dO H0 J1)(L2:dO H0 J2)(h:Wk J1 J2 A X1 X2 O E)(e:Ext A B):Wk J1 J2 B X1 X2 O E/\Step (Ow X1 X2 O) (Ow X1 X2 O) A B:=
 h.own L1 L2 e.mod λb u=>.inl u
def qK (C:(Nat->Prop)->(Nat->Prop)->aa->Prop):Prop:=∀{O Y Y':Nat->Prop} {A B:aa},C O Y A->Mod (λb=>Y b/\¬O b) A B->(∀b,Y' b->Y b\/A.size<=b)->C O Y' B
def ur (J1 J2:Jg)(C:(Nat->Prop)->(Nat->Prop)->aa->Prop):Jg:=λA X E=>∃X1 X2 O,(∀b,X b↔Ow X1 X2 O b)/\Wk J1 J2 A X1 X2 O E/\C O (Al X1 X2 O E) A
theorem ur.mk (h:Wk J1 J2 A X1 X2 O E)(c:C O (Al X1 X2 O E) A):ur J1 J2 C A (Ow X1 X2 O) E:=⟨X1,X2,O,λb=>Iff.rfl,h,c⟩
theorem je (L1:dO H0 J1)(L2:dO H0 J2)(c:qK C):dO H0 (ur J1 J2 C):=by
 refine⟨λ{A X E} h=>?_,λ{A X E} h=>?_,λ{A B X E N} h m e=>?_,λ{A X E E'} h he=>?_⟩
 ·obtain⟨X1,X2,O,d,w,_⟩:=h;have:=w.nv L1 L2;exact⟨λb u=>this.x b ((d b).1 u),this.e⟩
 ·obtain⟨X1,X2,O,d,w,_⟩:=h;exact L1.ext w.j1
 ·obtain⟨X1,X2,O,d,w,g⟩:=h;have go:∀{J:Jg} {Y Z:Nat->Prop},dO H0 J->J A Y (λb=>E b\/Z b\/O b)->J B Y (λb=>(E b\/N b)\/Z b\/O b):=λ{J Y Z} L j=>by
   refine L.less (L.write (N:=N) j (m.mono λb _ u=>.inl u) e) λb u=>?_;rcases u with (u|u)|u
   ·exact .inl (.inl u)
   ·exact .inr u
   ·exact .inl (.inr u)
  refine⟨X1,X2,O,d,⟨go L1 w.j1,go L2 w.j2,λb u v=>?_⟩,c g (m.mono λb _ u=>⟨.inl u,λv=>w.o b v u⟩) λb u=>?_⟩
  ·rcases v with v|v
   ·exact w.o b u v
   ·have:=((w.nv L1 L2).x b (.inr (.inr u))).1;have:=(e b v).1;omega
  ·rcases u with (u|u)|u
   ·exact .inl (.inl u)
   ·exact .inr (e b u).1
   ·exact .inl (.inr u)
 ·obtain⟨X1,X2,O,d,w,g⟩:=h;refine⟨X1,X2,O,d,⟨L1.less w.j1 λb u=>u.imp (he b) id,L2.less w.j2 λb u=>u.imp (he b) id,λb u v=>w.o b u (he b v)⟩,c g (.refl _ _) λb u=>.inl (u.imp (he b) id)⟩
theorem Al.bz {X1 X2 O X1' X2' O' E:Nat->Prop}(S:Step (Ow X1 X2 O) (Ow X1' X2' O') A B):∀b,Al X1' X2' O' E b->Al X1 X2 O E b\/A.size<=b:=λb u=>
 u.elim (λv=>.inl (.inl v)) λv=>(S.own b v).imp .inr id
theorem Wk.zr (L1:dO H0 J1)(h:Wk J1 J2 A X1 X2 O E)(m:Mod X1 A B):Mod (λb=>Al X1 X2 O E b/\¬O b) A B:=
 m.mono λb _ u=>⟨.inr (.inl u),λv=>((L1.nv h.j1).x b u).2.2 (.inr (.inr v))⟩
theorem Wk.ym (L2:dO H0 J2)(h:Wk J1 J2 A X1 X2 O E)(m:Mod X2 A B):Mod (λb=>Al X1 X2 O E b/\¬O b) A B:=
 m.mono λb _ u=>⟨.inr (.inr (.inl u)),λv=>((L2.nv h.j2).x b u).2.2 (.inr (.inr v))⟩
end
structure gP (Y:Nat->Prop)(A:aa)(x:Sl)(l:List Int):Prop where
 o:aA A 0 gM 1 x (l.map (Ql .u64))
 off:∀b,al x b->¬Y b
theorem gP.ints {Y:Nat->Prop}{A:aa}{x:Sl}{l:List Int}(h:gP Y A x l):Ints .u64 A x l:=h.o.ints
theorem gP.step {Y Y' Z:Nat->Prop}{A B:aa}{x:Sl}{l:List Int}(h:gP Y A x l)(m:Mod Z A B)(e:∀b,b<A.size->Z b->Y b)(g:∀b,Y' b->Y b\/A.size<=b):gP Y' B x l:=
 ⟨h.o.mod m λb d u=>h.off b d (e b (h.o.block b d).2 u),λb d u=>(g b u).elim (h.off b d) λv=>by have:=(h.o.block b d).2;omega⟩
theorem Wk.start {H0 A B:aa}{J:Jg}{X O E:Nat->Prop}(L:dO H0 J)(h:J A X E)(e:Ext A B)(hO:∀b,O b->A.size<=b/\b<B.size):Wk J (Gy H0) B X (λ_=>False) O E/\Step X (Ow X (λ_=>False) O) A B:=by
 have d:=L.nv h;have z:=e.size;have z0:=(L.ext h).size;refine⟨⟨L.more h e λb u=>?_,⟨(L.ext h).trans e,λb u=>u.elim,λb u=>?_⟩,λb u v=>?_⟩,e.mod,λb u=>?_⟩
 ·rcases u with u|u|u
  ·exact .inl u
  ·exact u.elim
  ·exact .inr (hO b u)
 ·rcases u with u|u|u
  ·have:=d.e b u;omega
  ·have:=d.x b u;omega
  ·have:=hO b u;omega
 ·have:=d.e b v;have:=hO b u;omega
 ·rcases u with u|u|u
  ·exact .inl u
  ·exact u.elim
  ·exact .inr (hO b u).1
def He (pc pr pp:Nat):Value:=.func (.func GU.no) #[] #[.pointer (av pc),.pointer (av pr),.pointer (av pp)]
structure FO (sb pc pr pp rb:Nat)(c:Option Addr)(O Y:Nat->Prop)(A:aa):Prop where
 o:O sb/\O pc/\O pr/\O pp
 row:ab A sb jJ (fh 2 (He pc pr pp) (Sl.mk none 0 0) 0 .nilIface false false)
 cc:ab A pc EL #[.pointer c]
 cr:ab A pr DD #[.pointer (av rb)]
 cp:ab A pp kJ #[.int .u8 1]
section
variable {H0 A B:aa}{sb pc pr pp rb n:Nat}{So Sd Sn ls:List (List Int)}{X E:Nat->Prop}{c:Option Addr}
theorem jn:qK (FO sb pc pr pp rb c):=λ{O Y Y' A B} h m _=>by
 obtain⟨⟨o1,o2,o3,d⟩,r,cc,cr,cp⟩:=h;exact⟨⟨o1,o2,o3,d⟩,r.mod m λu=>u.2 o1,cc.mod m λu=>u.2 o2,cr.mod m λu=>u.2 o3,cp.mod m λu=>u.2 d⟩
def qT (H0:aa)(rb:Nat)(So Sd Sn:List (List Int))(n sb pc pr pp:Nat)(ls:List (List Int)):Jg:=λA X E=>
 (ls=fH (So++Sd)/\ur (cE H0 rb So Sd Sn (n+1)) (Gy H0) (FO sb pc pr pp rb none) A X E)\/
 ∃cb,(∀l∈ls,l.length=2)/\ur (λA X E=>jD H0 rb So Sd Sn [] [] n cb A X E ls) (Gy H0) (FO sb pc pr pp rb (av cb)) A X E
theorem l7:dO H0 (qT H0 rb So Sd Sn n sb pc pr pp ls):=by
 unfold qT;exact dO.or (dO.and (je aO jC jn)) (dO.ex λcb=>dO.and (je bY jC jn))
theorem w7 (h:qT H0 rb So Sd Sn n sb pc pr pp ls A X E):∃X',cE H0 rb So Sd Sn n A X' E/\∀b,X' b->X b:=by
 rcases h with ⟨_,X1,X2,O,d,w,e⟩|⟨cb,_,X1,X2,O,d,w,e⟩
 ·exact⟨X1,(w.j1.GQ (Ri n)).less λb u=>.inl u,λb u=>(d b).2 (.inl u)⟩
 ·exact⟨X1,w.j1.rest.less λb u=>.inl u,λb u=>(d b).2 (.inl u)⟩
set_option maxHeartbeats 1000000 in
set_option maxRecDepth 10000 in
theorem vM {K:(Sl×Bool×Int)->aa->Prop}(hg:Gl H0)(z:fe So Sd Sn)(h:qT H0 rb So Sd Sn n sb pc pr pp ls A X E)
  (af:ls=[]->∀B X',cE H0 rb So Sd Sn n B X' E->Step X X' A B->K (Sl.mk none 0 0,false,0) B)
  (a1:∀l r x B X',ls=l::r->qT H0 rb So Sd Sn n sb pc pr pp r B X' E->Step X X' A B->aA B 0 gM 1 x (l.map (Ql .u64))->(∀b,al x b->A.size<=b/\¬X' b)->K (x,true,0) B):sq.sp (av sb) A K:=by
 -- behind the scan
 have mid:∀{B:aa} {X1 X2 O:Nat->Prop} {cb:Nat},(∀l∈ls,l.length=2)->Wk (λA X E=>jD H0 rb So Sd Sn [] [] n cb A X E ls) (Gy H0) B X1 X2 O E->FO sb pc pr pp rb (av cb) O (Al X1 X2 O E) B->Step X (Ow X1 X2 O) A B->
   vD.sp (av cb) B λq C=>ab C sb jJ (fh 2 (He pc pr pp) (Sl.mk none 0 0) 0 .nilIface false false)/\((q.2.2≠0\/q.2.1=false)->∀D,ab D sb jJ (fh 2 (He pc pr pp) (Sl.mk none 0 0) q.2.2 .nilIface false true)->Mod (λb=>b=sb) C D->D.size=C.size->K (Sl.mk none 0 0,false,q.2.2) D)/\(q.2.2=0->q.2.1=true->K (q.1,true,0) C):=by
  intro B X1 X2 O cb Z w c S;refine ue hg z (by simp) (by simp) w.j1 (λG C X1' j g=>?_) (λl r x C X1' G _ j g ox fx=>?_)
  ·obtain⟨w',o⟩:=w.l jC aO j g;have d:=jn c (w.zr bY g.mod) (Al.bz o);refine⟨d.row,λ_ D rD P zD=>?_,λ_ u=>by cases u⟩;refine af G D X1' (aO.less (aO.st w'.j1 P (.inr (.inr d.o.1))) λb u=>.inl u) ?_;exact(S.trans o).trans ⟨P.mono λb _ u=>.inr (.inr (u▸d.o.1)),λb u=>.inl (.inl u)⟩
  ·obtain⟨w',o⟩:=w.l jC bY j g;have d:=jn c (w.zr bY g.mod) (Al.bz o);have bb:=w.nv bY jC;refine⟨d.row,λu=>(by rcases u with u|u<;>simp at u),λ_ _=>a1 l r x C (Ow X1' X2 O) G (.inr ⟨cb,λl hl=>Z l (by rw[G];exact Qu _ hl),ur.mk w' d⟩) (S.trans o) ox λb hb=>?_⟩;have ae:=fx b hb;exact⟨QZ S.mod.size ae.1,λu=>u.elim ae.2 λv=>by have:=(bb.x b (.inr v)).1;omega⟩
 have ty:∀{B:aa} {x y:Nat} {t u:TypeId} {cs ds:Array Value},ab B x t cs->ab B y u ds->t≠u->x≠y:=λ{B x y t u cs ds} h1 Z a6 e=>a6 (aR (e▸h1) Z);rcases h with ⟨G,X1,X2,O,hx,w,c⟩|⟨cb,Z,X1,X2,O,hx,w,c⟩
 ·have S0:Step X (Ow X1 X2 O) A A:=⟨.refl _ _,λb u=>.inl ((hx b).2 u)⟩;refine jk c.row (iI #[.pointer (av pc),.pointer (av pr),.pointer (av pp)] rfl (by kernel_rfl) ?_);refine GU.of (cap:=⟨pc,0,none⟩) (cap1:=⟨pr,0,none⟩) (cap2:=⟨pp,0,none⟩) ?_;unfold GU.vc;refine ft (c:=aq) (x:=none) c.cc ?_;refine aT rfl ?_;refine ft (c:=aq) (x:=av rb) c.cr ?_;refine ft (c:=ai .u8) (x:=1) c.cp ?_;refine sV (cl:=[]) (wl:=[]) z w.j1 (.inl ⟨rfl,rfl⟩) ⟨rfl,λi v hv=>by simp at hv⟩ (Qm _) ⟨rfl,λi v hv=>by simp at hv⟩ λcb B X1' j g _ _=>?_;have ef:((fH (So++Sd)).filter λy=>decide (bk y []=[]))=ls:=by
   rw[G];exact RQ.2 λy _=>decide_eq_true (by simp[bk,gX])
  rw[ef] at j;have l2:∀l∈ls,l.length=2:=λl hl=>by
   rw[G,(bR _).mem_iff] at hl;exact(z.mem l (Qj.2 (.inl hl))).1
  obtain⟨w',o⟩:=w.l jC bY j g;have d:=jn c (w.zr aO g.mod) (Al.bz o);refine ab.st (i:=0) d.cc (by simp) rfl λD rD P zD=>?_;have rD:ab D pc EL #[.pointer (av cb)]:=rD;obtain⟨w2,S2⟩:=w'.own (O':=O) bY jC (P.mono λb _ u=>u▸d.o.2.1) λb u=>.inl u;have c2:FO sb pc pr pp rb (av cb) O (Al X1' X2 O E) D:=⟨d.o,d.row.mod P (ty d.row d.cc (by decide)),rD,d.cr.mod P (ty d.cr d.cc (by decide)),d.cp.mod P (ty d.cp d.cc (by decide))⟩;refine ft (c:=aq) (x:=av cb) rD ?_;exact mid l2 w2 c2 ((S0.trans o).trans S2)
 ·refine jk c.row (iI #[.pointer (av pc),.pointer (av pr),.pointer (av pp)] rfl (by kernel_rfl) ?_);refine GU.of (cap:=⟨pc,0,none⟩) (cap1:=⟨pr,0,none⟩) (cap2:=⟨pp,0,none⟩) ?_;unfold GU.vc;refine ft (c:=aq) (x:=av cb) c.cc ?_;refine az rfl ?_;refine ft (c:=aq) (x:=av cb) c.cc ?_;exact mid Z w c ⟨.refl _ _,λb u=>.inl ((hx b).2 u)⟩
theorem mV (q:Gl H0)(d:fe So Sd Sn):im H0 sb 2 (qT H0 rb So Sd Sn n sb pc pr pp) (cE H0 rb So Sd Sn n) where
 law:=λls=>l7
 fin:=aO
 row:=λh=>by
  rcases h with ⟨_,X1,X2,O,_,_,g⟩|⟨cb,_,X1,X2,O,_,_,g⟩
  ·exact⟨_,_,g.row⟩
  ·exact⟨_,_,g.row⟩
 cols:=λ{ls A X E} h l i=>by
  rcases h with ⟨t,_⟩|⟨cb,u,_⟩
  ·rw[t,(bR _).mem_iff] at i;exact(d.mem l (Qj.2 (.inl i))).1
  ·exact u l i
 step:=λ{A X E l r K} h o=>vM q d h (λe=>by cases e) λv r' x B X' e j S y z=>by
  injection e with G e2;subst G;subst e2;exact o x B X' j S y z
 stop:=λ{A X E K} h o=>vM q d h (λ_ B X' j S=>o B X' j S) λv r' x B X' e=>by cases e
theorem cE.row (h:cE H0 rb So Sd Sn n A X E):∃p R,ab A rb Dj (jG p R)/\R.W=2/\R.rb=rb:=by
 obtain⟨F,p,dp,s,M,U,m,R,k,r,ok,d,_⟩:=h;exact⟨p,R,d▸r.rel.row,ok.W,d⟩
theorem wh {K:Option Addr->aa->Prop}(h:cE H0 rb So Sd Sn (n+1) A X E)
  (z:∀sb pc pr pp B X',qT H0 rb So Sd Sn n sb pc pr pp (fH (So++Sd)) B X' E->Step X X' A B->Ext A B->K (av sb) B):uY.sp (av rb) 1 A K:=by
 obtain⟨p,R,G,P,g⟩:=h.row;subst g;refine uY.of ?_;unfold uY.vc;refine aj λH1 z1 Z e1=>?_;refine aj λq z2 r2 e2=>?_;refine aj λi z3 t o=>?_;rw[Bz] at t;have d:=(e1.trans e2).trans o;have v:ab i A.size DD #[.pointer (av R.rb)]:=(Z.ext e2).ext o;refine ft (c:=aq) (x:=av R.rb) v ?_;refine lW (G.ext d) ?_;rw[P];refine Cu λH4 r4 e z4=>?_;have y:=d.trans e;obtain⟨w,S⟩:=Wk.start (O:=λb=>b=i.size\/b=q.size\/b=A.size\/b=H1.size) aO h y λb u=>by omega
 exact z i.size q.size A.size H1.size H4 _ (.inl ⟨rfl,ur.mk w ⟨⟨.inl rfl,.inr (.inl rfl),.inr (.inr (.inl rfl)),.inr (.inr (.inr rfl))⟩,r4,t.ext e,v.ext e,((r2.ext o).ext e)⟩⟩) S y
end
end Go.Proofs.YtkehfflpbpdokaaGreatDoor
namespace Go.Proofs.YtkehfflpbpdokaaGreatDoor
def bN (l:List Int):Int:=l.headD 0
theorem EK {l:List Int}(h:l.length=2):l.take 1=[bN l]:=by
 match l,h with
 |[a,b],_=>rfl
theorem qQ {l:List Int}(h:l.length=2):bk l [0]=[bN l]:=by
 match l,h with
 |[a,b],_=>rfl
theorem xD (a b:Int):aL [a] [b]=if a<b then -1 else if b<a then 1 else 0:=by
 simp[aL]
theorem Hz {a b:List Int}(d:a.length=2)(e:b.length=2)(h:gO a b):bN a<=bN b:=by
 match a,b,d,e with
 |[x,y],[z,w],_,_=>
   unfold gO aL at h;show x<=z;split at h
   ·omega
   ·split at h<;>omega
def cH (Rt:List (List Int))(l:List Int):List (List Int):=Rt.filter λy=>decide (bN y=bN l)
theorem Cv {Rt:List (List Int)}{l:List Int}(d:∀y∈Rt,y.length=2):(Rt.filter λy=>decide (bk y [0]=[bN l]))=cH Rt l:=by
 refine List.filter_congr λy e=>?_;rw[qQ (d y e)];simp
theorem j6 {Rt:List (List Int)}{l y:List Int}:y∈cH Rt l↔y∈Rt/\bN y=bN l:=by
 unfold cH;rw[QL,decide_eq_true_iff]
theorem uW (a b:List (List Int))(l:List Int):cH (a++b) l=cH a l++cH b l:=RU ..
theorem wG {Rt:List (List Int)}{l:List Int}(h:∀y∈Rt,bN y≠bN l):cH Rt l=[]:=by
 unfold cH;rw[UL];intro y d e;exact h y d (of_decide_eq_true e)
theorem zd {Rt:List (List Int)}{l d:List Int}(h:bN l=bN d):cH Rt l=cH Rt d:=by
 unfold cH;rw[h]
def bO (d Rt:List (List Int)):List (List Int):=d.flatMap λl=>(cH Rt l).map λy=>l++y
def cJ (d Rt:List (List Int)):List (List Int):=d.filter λl=>(cH Rt l).isEmpty
theorem kZ (l:List Int)(d Rt:List (List Int)):bO (l::d) Rt=((cH Rt l).map λy=>l++y)++bO d Rt:=List.flatMap_cons ..
theorem nC {e Rt:List (List Int)}(g:∀y∈e,y.length=2)(h:∀y∈Rt,y.length=2):∀y∈bO e Rt,y.length=4:=by
 intro y d;obtain⟨l,i,d⟩:=Rs.1 d;obtain⟨m,hm,rfl⟩:=QB.1 d;rw[Qt,g l i,h m (j6.1 hm).1]
theorem y9 (d Rt:List (List Int)):(bO d Rt).length<=d.length*Rt.length:=by
 induction d with
 |nil=>exact QN _
 |cons l t e=>
   rw[kZ,Qt,QI,QJ,RX];have:(cH Rt l).length<=Rt.length:=List.length_filter_le _ _;omega
theorem AU {d Rt:List (List Int)}(o:∀y∈d,y.length=2){l:List Int}(q:l∈d):(∃y∈bO d Rt,y.take 2=l)↔cH Rt l≠[]:=by
 constructor
 ·rintro⟨y,g,e⟩;obtain⟨t,i,g⟩:=Rs.1 g;obtain⟨m,hm,rfl⟩:=QB.1 g;have u:=o t i;rw[TG (by omega),QO (by omega)] at e;subst e;exact List.ne_nil_of_mem hm
 ·intro h;obtain⟨m,hm⟩:=List.exists_mem_of_ne_nil _ h;refine⟨l++m,Rs.2 ⟨l,q,QB.2 ⟨m,hm,rfl⟩⟩,?_⟩;have u:=o l q;rw[TG (by omega),QO (by omega)]
def gk (g:List (List Int))(l:List Int):Bool:=match g with
 |[]=>false
 |y::_=>decide (bN y=bN l)
structure Iz (Rt la g B:List (List Int)):Prop where
 ascL:dG la
 ascB:dG B
 l2:∀y∈la,y.length=2
 b2:∀y∈B,y.length=2
 g2:∀y∈g,y.length=2
 le:∀y0 r,g=y0::r->∀l∈la,bN y0<=bN l
 fit:∀l∈la,cH Rt l=if gk g l then g else cH B l
theorem Iz.start {Rt la:List (List Int)}(d:dG la)(g:dG Rt)(l2:∀y∈la,y.length=2)(b2:∀y∈Rt,y.length=2):Iz Rt la [] Rt:=
 ⟨d,g,l2,b2,λy h=>(by cases h),λy0 r e=>(by cases e),λl d=>by simp[gk]⟩
theorem Iz.aE {Rt la g B:List (List Int)}{l:List Int}(h:Iz Rt (l::la) g B)(hk:gk g l=true):Iz Rt la g B/\cH Rt l=g:=
 ⟨⟨(Rf.1 h.ascL).2,h.ascB,λy o=>h.l2 y (Qu _ o),h.b2,h.g2,λy0 r e i d=>h.le y0 r e i (Qu _ d),λi d=>h.fit i (Qu _ d)⟩,by rw[h.fit l Qp,if_pos hk]⟩
theorem Iz.next {Rt la g B D:List (List Int)}{l:List Int}(h:Iz Rt (l::la) g (D++B))(hk:gk g l=false)(K:∀d∈D,bN d<=bN l)(P:∀y∈B,bN l<bN y):Iz Rt la (cH D l) B/\cH Rt l=cH D l:=by
 have ascL:=Rf.1 h.ascL;have t:cH B l=[]:=wG λy q e=>by have:=P y q;omega
 have S:cH Rt l=cH D l:=by
  rw[h.fit l Qp,hk,if_neg (by simp),uW,t,RA]
 have u:∀i∈la,bN l<=bN i:=λi o=>Hz (h.l2 l Qp) (h.l2 i (Qu _ o)) (ascL.1 i o);refine⟨⟨ascL.2,h.ascB.sublist (SC _ _),λy q=>h.l2 y (Qu _ q),λy q=>h.b2 y (Qj.2 (.inr q)),λy q=>h.b2 y (Qj.2 (.inl (j6.1 q).1)),λy0 r e i o=>?_,λi o=>?_⟩,S⟩
 ·have:y0∈cH D l:=by rw[e];exact Qp
  rw[(j6.1 this).2];exact u i o
 ·have Z:=u i o;have g0:gk g i=false:=by
   cases v:gk g i with
   |false=>rfl
   |true=>
     exfalso
     match g,v,hk,h.le with
     |y::r,v,hk,hle=>
       have h1:bN y=bN i:=of_decide_eq_true v;have h2:¬bN y=bN l:=of_decide_eq_false hk;have h3:=hle y r rfl l Qp;omega
  rw[h.fit i (Qu _ o),g0,if_neg (by simp),uW];by_cases e:bN i=bN l
  ·have z:cH B i=[]:=by rw[zd e,t]
   rw[z,RA,zd e];cases hd:cH D l with
   |nil=>simp[gk]
   |cons y r=>
     have:y∈cH D l:=by rw[hd];exact Qp
     have q:=(j6.1 this).2;have:gk (y::r) i=true:=by
      show decide (bN y=bN i)=true;rw[q,e];exact decide_eq_true rfl
     rw[if_pos this]
  ·have G:cH D i=[]:=wG λy q e2=>by have:=K y q;omega
   rw[G,RB];have:gk (cH D l) i=false:=by
    cases hd:cH D l with
    |nil=>rfl
    |cons y r=>
      have:y∈cH D l:=by rw[hd];exact Qp
      have q:=(j6.1 this).2;show decide (bN y=bN i)=false;rw[q];exact decide_eq_false λe3=>e e3.symm
   rw[this,if_neg (by simp)]
theorem beyond {B:List (List Int)}{y l:List Int}(h:dG (y::B))(d:∀z∈y::B,z.length=2)(e:bN l<bN y):∀z∈y::B,bN l<bN z:=by
 intro z hz;rcases Qs.1 hz with rfl|hz
 ·exact e
 ·have:=Hz (d y Qp) (d z (Qu _ hz)) ((Rf.1 h).1 z hz);omega
theorem sP {d Rt:List (List Int)}{i:Nat}(hi:i<d.length):cJ (d.take (i+1)) Rt=cJ (d.take i) Rt++(if (cH Rt d[i]).isEmpty then [d[i]] else []):=by
 unfold cJ;rw[RC,Qg hi,RU];show _++List.filter _ [d[i]]=_;congr 1;cases h:(cH Rt d[i]).isEmpty<;>simp[h]
theorem Hf {d Rt:List (List Int)}{i:Nat}(hi:i<d.length)(h:(cH Rt d[i]).isEmpty=true):(cJ d Rt)[(cJ (d.take i) Rt).length]?=some d[i]:=by
 have e:cJ d Rt=cJ (d.take (i+1)) Rt++cJ (d.drop (i+1)) Rt:=by
  unfold cJ;rw[<-RU,List.take_append_drop]
 rw[e,sP hi,if_pos h,Rg,Re (Qm _),Nat.sub_self];rfl
open Go.MapKept
def dW (sb:Nat)(w:Int)(f:Value)(un:Sl)(K:(Sl×Bool×Int)->aa->Prop):(Sl×Bool×Int)->aa->Prop:=λq A=>
 ab A sb jJ (fh w f un 0 .nilIface false false)/\((q.2.2≠0\/q.2.1=false)->∀B,ab B sb jJ (fh w f un q.2.2 .nilIface false true)->Mod (λb=>b=sb) A B->B.size=A.size->K (Sl.mk none 0 0,false,q.2.2) B)/\(q.2.2=0->q.2.1=true->K (q.1,true,0) A)
theorem qP {sb:Nat}{w:Int}{f:Value}{un:Sl}{H:aa}{K:(Sl×Bool×Int)->aa->Prop}(r:ab H sb jJ (fh w f un 0 .nilIface false false))(d:pW (bf [au,aC,(ai .i64)]) Qf f [] H (dW sb w f un K)):sq.sp (some ⟨sb,0,none⟩) H K:=jk r d
theorem dW.ok {sb:Nat}{w:Int}{f:Value}{un x:Sl}{A:aa}{K:(Sl×Bool×Int)->aa->Prop}(r:ab A sb jJ (fh w f un 0 .nilIface false false))(d:K (x,true,0) A):dW sb w f un K (x,true,0) A:=
 ⟨r,λu=>(by rcases u with u|u<;>simp at u),λ_ _=>d⟩
theorem dW.no {sb:Nat}{w:Int}{f:Value}{un x:Sl}{A:aa}{K:(Sl×Bool×Int)->aa->Prop}(r:ab A sb jJ (fh w f un 0 .nilIface false false))(d:∀B,Mod (λb=>b=sb) A B->K (Sl.mk none 0 0,false,0) B):dW sb w f un K (x,false,0) A:=
 ⟨r,λ_ B _ m _=>d B m,λ_ u=>(by cases u)⟩
structure Jr where
 a:Nat
 rb:Nat
 sb:Nat
 pL:Nat
 pR:Nat
 pP:Nat
 pX:Nat
 pY:Nat
 pl:Nat
 pc:Nat
 lc:Sl
 rc:Sl
 un:Sl
def Jr.pK (q:Jr):Array Value:=#[.pointer (av q.pc),.pointer (av q.pL),.pointer (av q.pl),.pointer (av q.pX),.pointer (av q.pR),.pointer (av q.pP),.pointer (av q.pY)]
def Jr.fn (q:Jr):Value:=.func (.func BO.no) #[] q.pK
structure lK (q:Jr)(c:Option Addr)(lr:Option (List Int))(O Y:Nat->Prop)(A:aa):Prop where
 o1:O q.sb/\O q.pL/\O q.pR/\O q.pP
 o2:O q.pX/\O q.pY/\O q.pl/\O q.pc
 o3:(∀b,al q.lc b->O b)/\∀b,al q.rc b->O b
 row:ab A q.sb jJ (fh 4 q.fn q.un 0 .nilIface false false)
 cL:ab A q.pL yC #[.pointer (av q.a)]
 cR:ab A q.pR DD #[.pointer (av q.rb)]
 cP:ab A q.pP kJ #[.int .u8 1]
 cX:ab A q.pX dX #[q.lc.v]
 cY:ab A q.pY dX #[q.rc.v]
 cl:∃x:Sl,ab A q.pl cv #[x.v]/\∀l,lr=some l->gP Y A x l
 cc:ab A q.pc EL #[.pointer c]
 ol:aA A 0 bT 1 q.lc ([0].map (Ql .i64))
 or:aA A 0 bT 1 q.rc ([0].map (Ql .i64))
 ne:q.pX≠q.pY
section
variable {H0 A B:aa}{q:Jr}{n0:Nat}{So Sd Sn ls:List (List Int)}{X E:Nat->Prop}{c:Option Addr}{lr:Option (List Int)}{Il:List (List Int)->Jg}{Fl:Jg}
theorem dx:qK (lK q c lr):=λ{O Y Y' A B} h m K=>by
 obtain⟨⟨o1,o2,o3,o⟩,⟨t,v,y,z⟩,⟨G,d⟩,r,cL,cR,cP,cX,cY,⟨x,cl,P⟩,cc,ol,g,ne⟩:=h;exact⟨⟨o1,o2,o3,o⟩,⟨t,v,y,z⟩,⟨G,d⟩,r.mod m λu=>u.2 o1,cL.mod m λu=>u.2 o2,cR.mod m λu=>u.2 o3,cP.mod m λu=>u.2 o,cX.mod m λu=>u.2 t,cY.mod m λu=>u.2 v,⟨x,cl.mod m λu=>u.2 y,λl e=>(P l e).step m (λb _ u=>u.1) K⟩,cc.mod m λu=>u.2 z,ol.mod m λb i u=>u.2 (G b i),g.mod m λb i u=>u.2 (d b i),ne⟩
def ug (H0:aa)(q:Jr)(Il:List (List Int)->Jg)(So Sd Sn:List (List Int))(n0:Nat)(ls:List (List Int)):Jg:=λA X E=>
 (∃r,(ls=bO r (fH (So++Sd))/\∀y∈r,y.length=2)/\ur (Il r) (cE H0 q.rb So Sd Sn (r.length+n0)) (lK q none none) A X E)\/
 ∃r l cur cb,(ls=cur.map (λy=>l++y)++bO r (fH (So++Sd))/\l.length=2/\(∀y∈cur,y.length=2)/\∀y∈r,y.length=2)/\ur (Il r) (λA X E=>jD H0 q.rb So Sd Sn [0] [bN l] (r.length+n0) cb A X E cur) (lK q (av cb) (some l)) A X E
theorem Es (L:∀r,dO H0 (Il r)):dO H0 (ug H0 q Il So Sd Sn n0 ls):=by
 unfold ug;exact dO.or (dO.ex λr=>dO.and (je (L r) aO dx)) (dO.ex λr=>dO.ex λl=>dO.ex λcur=>dO.ex λcb=>dO.and (je (L r) bY dx))
def Gu (H0:aa)(q:Jr)(Fl:Jg)(So Sd Sn:List (List Int))(n0:Nat):Jg:=ur Fl (cE H0 q.rb So Sd Sn n0) (λ_ _ _=>True)
theorem qE:qK (λ_ _ _=>True):=λ_ _ _=>trivial
theorem En (L:dO H0 Fl):dO H0 (Gu H0 q Fl So Sd Sn n0):=je L aO qE
set_option maxHeartbeats 1000000 in
set_option maxRecDepth 10000 in
theorem HJ {X1 X2 O:Nat->Prop}{r cur:List (List Int)}{l:List Int}{cb:Nat}{K:(Sl×Bool×Int)->aa->Prop}{next:Unit->aa->Prop}(hg:Gl H0)(ae:fe So Sd Sn)(L:∀r,dO H0 (Il r))(hl:l.length=2)(af:∀y∈cur,y.length=2)(a1:∀y∈r,y.length=2)
  (w:Wk (Il r) (λA X E=>jD H0 q.rb So Sd Sn [0] [bN l] (r.length+n0) cb A X E cur) B X1 X2 O E) (c:lK q (av cb) (some l) O (Al X1 X2 O E) B) (S:Step X (Ow X1 X2 O) A B)
  (a6:∀m r' x D X',cur=m::r'->ug H0 q Il So Sd Sn n0 (r'.map (λy=>l++y)++bO r (fH (So++Sd))) D X' E->Step X X' A D->aA D 0 gM 1 x ((l++m).map (Ql .u64))->(∀b,al x b->A.size<=b/\¬X' b)->K (x,true,0) D)
  (hn:cur=[]->∀D X2',Wk (Il r) (cE H0 q.rb So Sd Sn (r.length+n0)) D X1 X2' O E->lK q none none O (Al X1 X2' O E) D->Step X (Ow X1 X2' O) A D->next () D):
  vD.sp (av cb) B λ(v:(Sl×Bool×Int)) z=>br (v.2.2!=(0:Int)) (dW q.sb 4 q.fn q.un K ((Sl.mk none 0 0),false,v.2.2) z) (br v.2.1 (ld au z ⟨q.pl,0,none⟩ λ(P:Sl)=>EV.sp P v.1 z λ(a7:Sl) a8=>dW q.sb 4 q.fn q.un K (a7,true,(0:Int)) a8) (st z ⟨q.pc,0,none⟩ (.pointer none) λba=>next () ba)):=by
 have ty:∀{B:aa} {x y:Nat} {t u:TypeId} {cs ds:Array Value},ab B x t cs->ab B y u ds->t≠u->x≠y:=λ{B x y t u cs ds} h1 h2 bg e=>bg (aR (e▸h1) h2);refine ue hg ae (by simp) (by simp) w.j2 (λe0 C X2' j Z=>?_) (λm r' x C X2' e0 hm j Z ox fx=>?_)
 ·obtain⟨w',G⟩:=w.r (L r) aO j Z;have d:=dx c (w.ym bY Z.mod) (Al.bz G);refine az rfl (az rfl ?_);refine ab.st (i:=0) d.cc (by simp) rfl λD rD g zD=>?_;have rD:ab D q.pc EL #[.pointer none]:=rD;obtain⟨w2,S2⟩:=w'.own (O':=O) (L r) aO (g.mono λb _ u=>u▸d.o2.2.2.2) λb u=>.inl u;obtain⟨x,cl,fl⟩:=d.cl;have no:∀{s:Sl} {xs:List Value},aA C 0 bT 1 s xs->∀b,al s b->¬b=q.pc:=λo b hb e=>by
   obtain⟨cur,h⟩:=o.obj b hb;exact ty h d.cc (by decide) e
  refine hn e0 D X2' w2 ⟨d.o1,d.o2,d.o3,d.row.mod g (ty d.row d.cc (by decide)),d.cL.mod g (ty d.cL d.cc (by decide)),d.cR.mod g (ty d.cR d.cc (by decide)),d.cP.mod g (ty d.cP d.cc (by decide)),d.cX.mod g (ty d.cX d.cc (by decide)),d.cY.mod g (ty d.cY d.cc (by decide)),⟨x,cl.mod g (ty cl d.cc (by decide)),λl e=>by cases e⟩,rD,d.ol.mod g (no d.ol),d.or.mod g (no d.or),d.ne⟩ ((S.trans G).trans S2)
 ·obtain⟨w',G⟩:=w.r (L r) bY j Z;have d:=dx c (w.ym bY Z.mod) (Al.bz G);refine az rfl (aT rfl ?_);obtain⟨xl,rl,fl⟩:=d.cl;have fl:=fl l rfl;refine ft (c:=au) (x:=xl) rl ?_;refine xp fl.ints ox.ints (by omega) (by omega) λout D oD eD fD=>?_;obtain⟨w2,S2⟩:=w'.grow (L r) bY eD;have c2:=dx d eD.mod (Al.bz S2);have bb:=w'.nv (L r) bY;refine dW.ok c2.row (a6 m r' out D (Ow X1 X2' O) e0 (.inr ⟨r,l,r',cb,⟨rfl,hl,λy hy=>af y (by rw[e0];exact Qu _ hy),a1⟩,ur.mk w2 c2⟩) ((S.trans G).trans S2) oD λb hb=>?_);have bl:=fD b hb;exact⟨by have:=(S.trans G).mod.size;omega,λu=>by have:=(bb.x b u).1;omega⟩
set_option maxHeartbeats 2000000 in
set_option maxRecDepth 10000 in
theorem uJ {K:(Sl×Bool×Int)->aa->Prop}(hg:Gl H0)(a6:fe So Sd Sn)(G:im H0 q.a 2 Il Fl)(h:ug H0 q Il So Sd Sn n0 ls A X E)
  (bC:ls=[]->∀B X',Gu H0 q Fl So Sd Sn n0 B X' E->Step X X' A B->K (Sl.mk none 0 0,false,0) B)
  (bD:∀l r x B X',ls=l::r->ug H0 q Il So Sd Sn n0 r B X' E->Step X X' A B->aA B 0 gM 1 x (l.map (Ql .u64))->(∀b,al x b->A.size<=b/\¬X' b)->K (x,true,0) B):sq.sp (av q.sb) A K:=by
 have ty:∀{B:aa} {x y:Nat} {t u:TypeId} {cs ds:Array Value},ab B x t cs->ab B y u ds->t≠u->x≠y:=λ{B x y t u cs ds} h1 h2 bE e=>bE (aR (e▸h1) h2);obtain⟨T,hT⟩:∃T,T=fH (So++Sd):=⟨_,rfl⟩;have T2:∀y∈T,y.length=2:=λy hy=>by
  rw[hT,(bR _).mem_iff] at hy;exact(a6.mem y (Qj.2 (.inl hy))).1
 have start:∃N,ab A q.sb jJ (fh 4 q.fn q.un 0 .nilIface false false)/\
   ((∃r X1 X2 O,(ls=bO r T/\(∀y∈r,y.length=2)/\r.length+0<=N)/\Wk (Il r) (cE H0 q.rb So Sd Sn (r.length+n0)) A X1 X2 O E/\lK q none none O (Al X1 X2 O E) A/\Step X (Ow X1 X2 O) A A)\/
   ∃r l cur cb X1 X2 O,(ls=cur.map (λy=>l++y)++bO r T/\l.length=2/\(∀y∈cur,y.length=2)/\(∀y∈r,y.length=2)/\r.length+0+1<=N)/\Wk (Il r) (λA X E=>jD H0 q.rb So Sd Sn [0] [bN l] (r.length+n0) cb A X E cur) A X1 X2 O E/\lK q (av cb) (some l) O (Al X1 X2 O E) A/\Step X (Ow X1 X2 O) A A):=by
  rw[hT];rcases h with ⟨r,⟨e1,e2⟩,X1,X2,O,hx,w,c⟩|⟨r,l,cur,cb,⟨e1,e2,e3,e4⟩,X1,X2,O,hx,w,c⟩
  ·exact⟨r.length,c.row,.inl ⟨r,X1,X2,O,⟨e1,e2,Qm _⟩,w,c,.refl _ _,λb u=>.inl ((hx b).2 u)⟩⟩
  ·exact⟨r.length+1,c.row,.inr ⟨r,l,cur,cb,X1,X2,O,⟨e1,e2,e3,e4,Qm _⟩,w,c,.refl _ _,λb u=>.inl ((hx b).2 u)⟩⟩
 obtain⟨N,a1,start⟩:=start;refine qP a1 (iI q.pK rfl (by kernel_rfl) ?_);refine BO.of (cap:=⟨q.pc,0,none⟩) (cap1:=⟨q.pL,0,none⟩) (cap2:=⟨q.pl,0,none⟩) (cap3:=⟨q.pX,0,none⟩) (cap4:=⟨q.pR,0,none⟩) (cap5:=⟨q.pP,0,none⟩) (cap6:=⟨q.pY,0,none⟩) ?_;unfold BO.vc;refine ay N (λi _ B=>(∃r X1 X2 O,(ls=bO r T/\(∀y∈r,y.length=2)/\r.length+i<=N)/\Wk (Il r) (cE H0 q.rb So Sd Sn (r.length+n0)) B X1 X2 O E/\lK q none none O (Al X1 X2 O E) B/\Step X (Ow X1 X2 O) A B)\/
   ∃r l cur cb X1 X2 O,(ls=cur.map (λy=>l++y)++bO r T/\l.length=2/\(∀y∈cur,y.length=2)/\(∀y∈r,y.length=2)/\r.length+i+1<=N)/\Wk (Il r) (λA X E=>jD H0 q.rb So Sd Sn [0] [bN l] (r.length+n0) cb A X E cur) B X1 X2 O E/\lK q (av cb) (some l) O (Al X1 X2 O E) B/\Step X (Ow X1 X2 O) A B) start ?_
 rintro i _ B next hi I a7
 clear start a1 h
 -- the cursor's part, whichever way it came
 have mid:∀{B:aa} {X1 X2 O:Nat->Prop} {r cur:List (List Int)} {l:List Int} {cb:Nat},(ls=cur.map (λy=>l++y)++bO r T/\l.length=2/\(∀y∈cur,y.length=2)/\(∀y∈r,y.length=2)/\r.length+i+1<=N)->Wk (Il r) (λA X E=>jD H0 q.rb So Sd Sn [0] [bN l] (r.length+n0) cb A X E cur) B X1 X2 O E->lK q (av cb) (some l) O (Al X1 X2 O E) B->Step X (Ow X1 X2 O) A B->
   vD.sp (av cb) B λ(ae:(Sl×Bool×Int)) af=>br (ae.2.2!=(0:Int)) (dW q.sb 4 q.fn q.un K ((Sl.mk none 0 0),false,ae.2.2) af) (br ae.2.1 (ld au af ⟨q.pl,0,none⟩ λ(a8:Sl)=>EV.sp a8 ae.1 af λ(bG:Sl) b1=>dW q.sb 4 q.fn q.un K (bG,true,(0:Int)) b1) (st af ⟨q.pc,0,none⟩ (.pointer none) λb3=>next () b3)):=by
  rintro B X1 X2 O r cur l cb ⟨e1,e2,e3,e4,e5⟩ w c S;refine HJ hg a6 G.law e2 e3 e4 w c S (λm r' x D X' e0 g S1 ox fx=>bD (l++m) _ x D X' (by rw[e1,e0];rfl) (hT▸g) S1 ox fx) λe0 D X2' w2 c2 S2=>a7 (by omega) _ _ (.inl ⟨r,X1,X2',O,⟨by rw[e1,e0];rfl,e4,by omega⟩,w2,c2,S2⟩)
 rcases I with ⟨r,X1,X2,O,⟨e1,e2,e3⟩,w,c,S⟩|⟨r,l,cur,cb,X1,X2,O,hh,w,c,S⟩
 ·refine ft (c:=aq) (x:=none) c.cc ?_;refine aT rfl ?_;refine ft (c:=aq) (x:=av q.a) c.cL ?_;obtain⟨x0,b7,_⟩:=c.cl
  match r,e1,e2,e3,w,c with
  |[],e1,e2,e3,w,c=>
    refine G.stop w.j1 λC X1' j S1=>?_;obtain⟨w',S'⟩:=w.l aO G.fin j S1;have v:=dx c (w.zr (G.law _) S1.mod) (Al.bz S');obtain⟨x1,z,_⟩:=v.cl;refine ab.st (i:=0) z (by simp) rfl λD rD P zD=>?_;obtain⟨w2,S2⟩:=w'.own (O':=O) G.fin aO (P.mono λb _ u=>u▸v.o2.2.2.1) λb u=>.inl u;refine aT rfl ?_;have ba:=v.row.mod P (ty v.row z (by decide));refine dW.no ba λF mF=>?_;obtain⟨Z,S3⟩:=w2.own (O':=O) G.fin aO (mF.mono λb _ u=>u▸v.o1.1) λb u=>.inl u;have Z:Wk Fl (cE H0 q.rb So Sd Sn n0) F X1' X2 O E:=⟨Z.j1,by have:=Z.j2;rwa [R7,Nat.zero_add] at this,Z.o⟩;exact bC e1 F _ (ur.mk Z trivial) (((S.trans S').trans S2).trans S3)
  |l::r',e1,e2,e3,w,c=>
    have bg:=e2 l Qp;have b0:=w.nv (G.law _) aO;refine G.step w.j1 λx C X1' j S1 ox fx=>?_;obtain⟨w',S'⟩:=w.l aO (G.law _) j S1;have v:=dx c (w.zr (G.law _) S1.mod) (Al.bz S');have b4:gP (Al X1' X2 O E) C x l:=⟨ox,λb hb u=>by
     have b5:=fx b hb;rcases u with u|u|u|u
     ·have:=(b0.e b u).1;omega
     ·exact b5.2 u
     ·have:=(b0.x b (.inr (.inl u))).1;omega
     ·have:=(b0.x b (.inr (.inr u))).1;omega⟩
    obtain⟨x1,z,_⟩:=v.cl;refine ab.st (i:=0) z (by simp) (by cases x;rfl) λD rD P zD=>?_;have rD:ab D q.pl cv #[x.v]:=rD;obtain⟨w2,S2⟩:=w'.own (O':=O) (G.law _) aO (P.mono λb _ u=>u▸v.o2.2.2.1) λb u=>.inl u;have no:∀{s:Sl} {xs:List Value},aA C 0 bT 1 s xs->∀b,al s b->¬b=q.pl:=λo b hb e=>by
     obtain⟨cur,h⟩:=o.obj b hb;exact ty h z (by decide) e
    have fD:gP (Al X1' X2 O E) D x l:=b4.step P (λb _ u=>.inr (.inr (.inr (u▸v.o2.2.2.1)))) (Al.bz S2);have c2:lK q none (some l) O (Al X1' X2 O E) D:=⟨v.o1,v.o2,v.o3,v.row.mod P (ty v.row z (by decide)),v.cL.mod P (ty v.cL z (by decide)),v.cR.mod P (ty v.cR z (by decide)),v.cP.mod P (ty v.cP z (by decide)),v.cX.mod P (ty v.cX z (by decide)),v.cY.mod P (ty v.cY z (by decide)),⟨x,rD,λl' e=>by cases e;exact fD⟩,v.cc.mod P (ty v.cc z (by decide)),v.ol.mod P (no v.ol),v.or.mod P (no v.or),v.ne⟩;refine az rfl ?_;refine ft (c:=au) (x:=x) rD ?_;refine ft (c:=au) (x:=q.lc) c2.cX ?_;refine fZ fD.ints c2.ol.ints (by decide) λwd D1 o1 bl=>?_;rw[qQ bg] at o1;obtain⟨Z,S3⟩:=w2.grow (G.law _) aO bl;have c3:=dx c2 bl.mod (Al.bz S3);refine ft (c:=aq) (x:=av q.rb) c3.cR ?_;refine ft (c:=ai .u8) (x:=1) c3.cP ?_;refine ft (c:=au) (x:=q.rc) c3.cY ?_;have Z:Wk (Il r') (cE H0 q.rb So Sd Sn ((r'.length+n0)+1)) D1 X1' X2 O E:=⟨Z.j1,by have:=Z.j2;rwa [QJ,Nat.add_right_comm] at this,Z.o⟩;refine sV (cl:=[0]) (wl:=[bN l]) a6 Z.j2 (.inr ⟨bN l,rfl,rfl⟩) c3.or.ints c3.or.cap o1.ints λcb D2 X2' j2 S4 _ _=>?_;rw[<-hT,Cv T2] at j2;obtain⟨w4,bs⟩:=Z.r (G.law _) bY j2 S4;have d:=dx c3 (Z.ym aO S4.mod) (Al.bz bs);refine ab.st (i:=0) d.cc (by simp) rfl λD3 r3 m3 z3=>?_;have r3:ab D3 q.pc EL #[.pointer (av cb)]:=r3;obtain⟨w5,S5⟩:=w4.own (O':=O) (G.law _) bY (m3.mono λb _ u=>u▸d.o2.2.2.2) λb u=>.inl u;have bA:∀{s:Sl} {xs:List Value},aA D2 0 bT 1 s xs->∀b,al s b->¬b=q.pc:=λo b hb e=>by
     obtain⟨cur,h⟩:=o.obj b hb;exact ty h d.cc (by decide) e
    obtain⟨x4,bB,b6⟩:=d.cl;have c5:lK q (av cb) (some l) O (Al X1' X2' O E) D3:=⟨d.o1,d.o2,d.o3,d.row.mod m3 (ty d.row d.cc (by decide)),d.cL.mod m3 (ty d.cL d.cc (by decide)),d.cR.mod m3 (ty d.cR d.cc (by decide)),d.cP.mod m3 (ty d.cP d.cc (by decide)),d.cX.mod m3 (ty d.cX d.cc (by decide)),d.cY.mod m3 (ty d.cY d.cc (by decide)),⟨x4,bB.mod m3 (ty bB d.cc (by decide)),λl' e=>(b6 l' e).step m3 (λb _ u=>.inr (.inr (.inr (u▸d.o2.2.2.2)))) (Al.bz S5)⟩,r3,d.ol.mod m3 (bA d.ol),d.or.mod m3 (bA d.or),d.ne⟩;refine ft (c:=aq) (x:=av cb) r3 ?_;refine mid ⟨by rw[e1,kZ],bg,λy hy=>T2 y (j6.1 hy).1,λy hy=>e2 y (Qu _ hy),by rw[QJ] at e3;omega⟩ w5 c5 (((((S.trans S').trans S2).trans S3).trans bs).trans S5)
 ·refine ft (c:=aq) (x:=av cb) c.cc ?_;refine az rfl ?_;refine ft (c:=aq) (x:=av cb) c.cc ?_;exact mid hh w c S
theorem DX (t:Gl H0)(d:fe So Sd Sn)(G:im H0 q.a 2 Il Fl):im H0 q.sb 4 (ug H0 q Il So Sd Sn n0) (Gu H0 q Fl So Sd Sn n0) where
 law:=λls=>Es G.law
 fin:=En G.fin
 row:=λh=>by
  rcases h with ⟨r,_,X1,X2,O,P,w,c⟩|⟨r,l,cur,cb,_,X1,X2,O,P,w,c⟩
  ·exact⟨_,_,c.row⟩
  ·exact⟨_,_,c.row⟩
 cols:=λ{ls A X E} h=>by
  have v:∀y∈fH (So++Sd),y.length=2:=λy g=>by
   rw[(bR _).mem_iff] at g;exact(d.mem y (Qj.2 (.inl g))).1
  rcases h with ⟨r,⟨i,e2⟩,_⟩|⟨r,l,cur,cb,⟨i,e2,Z,e4⟩,_⟩
  ·rw[i];exact nC e2 v
  ·intro y g;rw[i] at g;rcases Qj.1 g with u|u
   ·obtain⟨z,hz,rfl⟩:=QB.1 u;rw[Qt,e2,Z z hz]
   ·exact nC e4 v y u
 step:=λ{A X E l r K} h o=>uJ t d G h (λe=>by cases e) λl' r' x B X' e j S ox fx=>by
  injection e with i e2;subst i;subst e2;exact o x B X' j S ox fx
 stop:=λ{A X E K} h o=>uJ t d G h (λ_ B X' j S=>o B X' j S) λl' r' x B X' e=>by cases e
end
def vf (I:List (List Int)->Jg)(Fin:Jg):Bool->List (List Int)->Jg
 |false,B=>I B
 |true,[]=>Fin
 |true,_::r=>I r
theorem fw {H0:aa}{I:List (List Int)->Jg}{Fin:Jg}(L:∀r,dO H0 (I r))(F:dO H0 Fin):∀(d:Bool) (B:List (List Int)),dO H0 (vf I Fin d B)
 |false,B=>L B
 |true,[]=>F
 |true,_::r=>L r
def E8 (d:Bool)(B:List (List Int)):List (List Int):=if d then B.tail else B
def j7 (b:Nat)(x:Sl)(d:Bool)(B:List (List Int)):Array Value:=#[.pointer (av b),x.v,.bool (d&&!B.isEmpty),.bool d]
theorem Fu {I:List (List Int)->Jg}{Fin:Jg}{A:aa}{X E:Nat->Prop}:∀{d:Bool} {B:List (List Int)},vf I Fin d B A X E->(d=false\/B≠[])->I (E8 d B) A X E
 |false,_,h,_=>h
 |true,[],_,e=>by rcases e with u|u<;>simp at u
 |true,_::_,h,_=>h
section
variable {H0 A:aa}{b k:Nat}{I:List (List Int)->Jg}{Fin:Jg}{X E:Nat->Prop}{bg:Bool}{B:List (List Int)}{yl:Sl}
set_option maxHeartbeats 1000000 in
set_option maxRecDepth 10000 in
theorem zU {K:Int->aa->Prop}(G:im H0 b 2 I Fin)(h:vf I Fin bg B A X E)(z:bg=false\/B≠[])(pS:dG B)(l2:∀y∈B,y.length=2)(row:ab A k Dq (j7 b yl bg B))(hE:E k)(fr:∀y r,bg=true->B=y::r->Ints .u64 A yl y/\∀q,al yl q->¬X q)
  (v:∀o C D X',vf I Fin true (E8 bg B) C X' E->Step X X' A C->ab D k Dq (j7 b o true (E8 bg B))->Mod (λq=>q=k) C D->(∀y r,E8 bg B=y::r->aA C 0 gM 1 o (y.map (Ql .u64))/\∀q,al o q->A.size<=q/\¬X' q)->K 0 D):DO.sp (av k) A K:=by
 refine DO.of ?_;unfold DO.vc;simp only[aw,av];have t:=Fu h z;refine ab.ld (c:=au) (i:=1) (x:=yl) row rfl ?_;refine ab.ld (c:=aq) (i:=0) (x:=av b) row rfl ?_;have kx:¬X k:=λu=>(((G.law _).nv t).x k u).2.2 hE;generalize d:E8 bg B=L at t v
 match L,d,t,v with
 |[],d,t,v=>
   refine G.stop t λC X' j S=>?_;refine az rfl ?_;refine ab.st (i:=1) (row.mod S.mod kx) (by simp[j7]) rfl λD1 P m1 z1=>?_;refine ab.st (i:=2) P (by simp[j7]) rfl λD2 r2 m2 z2=>?_;refine ab.st (i:=3) r2 (by simp[j7]) rfl λZ r3 m3 z3=>?_;exact v (Sl.mk none 0 0) C Z X' j S r3 ((m1.trans m2).trans m3) λy r e=>by cases e
 |y::r,d,t,v=>
   refine G.step t λx C X' j S ox fx=>?_;have g:=row.mod S.mod kx;refine aT rfl ?_;refine ab.ld (c:=aC) (i:=3) (x:=bg) g rfl ?_;have fin:(st C (QS ⟨k,0,none⟩ 1) x.v λH6=>st H6 (QS ⟨k,0,none⟩ 2) (.bool true) λH7=>st H7 (QS ⟨k,0,none⟩ 3) (.bool true) λH8=>K 0 H8):=by
    refine ab.st (i:=1) g (by simp[j7]) (by cases x;rfl) λD1 P m1 z1=>?_;refine ab.st (i:=2) P (by simp[j7]) rfl λD2 r2 m2 z2=>?_;refine ab.st (i:=3) r2 (by simp[j7]) rfl λZ r3 m3 z3=>?_;exact v x C Z X' j S r3 ((m1.trans m2).trans m3) λy' r' e=>by
     cases e;exact⟨ox,fx⟩
   cases bg with
   |false=>exact az rfl fin
   |true=>
     refine aT rfl ?_
     match B,d,fr,pS,l2 with
     |y0::B',d,fr,pS,l2=>
       have d:B'=y::r:=d;subst d;obtain⟨i0,f0⟩:=fr y0 _ rfl rfl;have h0:=l2 y0 (by simp);have h1:=l2 y (by simp);refine dK ox.ints (i0.mod S.mod λad ha=>f0 _ ⟨ad,ha,rfl⟩) (by omega) ?_;have lt:gO y0 y:=(Rf.1 pS).1 y (by simp);have hc:aL y0 y<0:=lt;rw[qh y0 y];exact az (decide_eq_false (by omega)) fin
end
structure CB where
 a:Nat
 b:Nat
 sb:Nat
 py:Nat
 pa:Nat
 pg:Nat
 px:Nat
 pk:Nat
 xb:Nat
 yb:Nat
 un:Sl
def CB.pK (q:CB):Array Value:=#[.pointer (av q.py),.pointer (av q.pa),.pointer (av q.pg),.pointer (av q.px),.pointer (av q.pk)]
def CB.fn (q:CB):Value:=.func (.func HH.no) #[] q.pK
structure yZ (q:CB)(O:Nat->Prop)(A:aa):Prop where
 o1:O q.sb/\O q.py/\O q.pa/\O q.pg
 o2:O q.px/\O q.pk/\O q.xb/\O q.yb
 row:ab A q.sb jJ (fh 4 q.fn q.un 0 .nilIface false false)
 cy:ab A q.py xz #[.pointer (av q.yb)]
 cx:ab A q.px xz #[.pointer (av q.xb)]
 ck:ab A q.pk bT #[.int .i64 1]
 ne:q.xb≠q.yb/\q.pa≠q.pk
def Ky (b k:Nat)(bg:Bool)(L:List (List Int))(Y:Nat->Prop)(A:aa):Prop:=∃x:Sl,ab A k Dq (j7 b x bg L)/\∀l r,bg=true->L=l::r->gP Y A x l
def J9 (q:CB)(g:List (List Int))(O Y:Nat->Prop)(A:aa):Prop:=∃gs:Sl,ab A q.pg cW #[gs.v]/\dz (λb=>Y b/\¬al gs b) A gs g/\∀b,al gs b->O b
structure de (q:CB)(xg:Bool)(LX:List (List Int))(yg:Bool)(BY:List (List Int))(at':Nat)(g:List (List Int))(O Y:Nat->Prop)(A:aa):Prop where
 base:yZ q O A
 ca:ab A q.pa bT #[.int .i64 (at':Int)]
 gr:J9 q g O Y A
 xr:Ky q.a q.xb xg LX Y A
 yr:Ky q.b q.yb yg BY Y A
section
variable {A B:aa}{O O' Y Y' Z:Nat->Prop}{q:CB}{b k at' at2:Nat}{xg yg bg:Bool}{LX BY L g:List (List Int)}{x:Sl}
theorem yZ.mod (h:yZ q O A)(m:Mod Z A B)(hz:¬Z q.sb/\¬Z q.py/\¬Z q.px/\¬Z q.pk):yZ q O B:=
 ⟨h.o1,h.o2,h.row.mod m hz.1,h.cy.mod m hz.2.1,h.cx.mod m hz.2.2.1,h.ck.mod m hz.2.2.2,h.ne⟩
theorem Ky.mod (h:Ky b k bg L Y A)(m:Mod Z A B)(hk:¬Z k)(d:∀b,b<A.size->Z b->Y b)(e:∀b,Y' b->Y b\/A.size<=b):Ky b k bg L Y' B:=by
 obtain⟨x,r,f⟩:=h;exact⟨x,r.mod m hk,λl r i e2=>(f l r i e2).step m d e⟩
theorem J9.mod (h:J9 q g O Y A)(m:Mod Z A B)(hk:¬Z q.pg)(i:∀b,Z b->Y b)(hs:∀b cur,Z b->A[b]?=some (.cells cur cv (0,0))->O b->False)(t:∀b,Y' b->Y b\/A.size<=b):J9 q g O Y' B:=by
 obtain⟨gs,r,rc,d⟩:=h;have y:∀b,Z b->¬al gs b:=λb u v=>by
  obtain⟨rs,o,_⟩:=rc.ex;obtain⟨cur,e⟩:=o.obj b v;exact hs b cur u e (d b v)
 exact⟨gs,r.mod m hk,rc.step ⟨m.mono λb _ u=>⟨i b u,y b u⟩,λb u=>(t b u.1).imp (λv=>⟨v,u.2⟩) id⟩,d⟩
theorem jb:qK (de q xg LX yg BY at' g):=λ{O Y Y' A B} h m d=>by
 obtain⟨o1,o2,o3,e⟩:=h.base.o1;obtain⟨i,o,t,y⟩:=h.base.o2;exact⟨h.base.mod m ⟨λu=>u.2 o1,λu=>u.2 o2,λu=>u.2 i,λu=>u.2 o⟩,h.ca.mod m λu=>u.2 o3,h.gr.mod m (λu=>u.2 e) (λb u=>u.1) (λb cur u _ v=>u.2 v) d,h.xr.mod m (λu=>u.2 t) (λb _ u=>u.1) d,h.yr.mod m (λu=>u.2 y) (λb _ u=>u.1) d⟩
theorem bq {A:aa}{x y:Nat}{t u:TypeId}{cs ds:Array Value}(h1:ab A x t cs)(h:ab A y u ds)(d:t≠u):x≠y:=λe=>d (aR (e▸h1) h)
theorem xy {k:Nat}{t:TypeId}{cs:Array Value}(r:ab A k t cs)(d:t≠cv):∀b cur,b=k->A[b]?=some (.cells cur cv (0,0))->O b->False:=λb cur e h _=>by
 subst e;exact d (aR r h)
theorem de.Oi (c:de q xg LX yg BY at' g O Y A)(hO:∀b,O b->Y b)(r:ab B q.pa bT #[.int .i64 (at2:Int)]) (m:Mod (λb=>b=q.pa) A B) (d:∀b,Y' b->Y b\/A.size<=b):de q xg LX yg BY at2 g O Y' B:=by
 obtain⟨h,xr,_⟩:=c.xr;obtain⟨yl,yr,_⟩:=c.yr;obtain⟨gs,gr,_⟩:=c.gr;have e:∀b,b=q.pa->Y b:=λb u=>u▸hO _ c.base.o1.2.2.1;exact⟨c.base.mod m ⟨bq c.base.row c.ca (by decide),bq c.base.cy c.ca (by decide),bq c.base.cx c.ca (by decide),SI c.base.ne.2⟩,r,c.gr.mod m (bq gr c.ca (by decide)) e (xy c.ca (by decide)) d,c.xr.mod m (bq xr c.ca (by decide)) (λb _=>e b) d,c.yr.mod m (bq yr c.ca (by decide)) (λb _=>e b) d⟩
theorem de.ON {d:Bool}{L2:List (List Int)}(c:de q xg LX yg BY at' g O Y A)(hO:∀b,O b->Y b)(r:ab B q.xb Dq (j7 q.a x d L2))(m:Mod (λb=>b=q.xb) A B)(h:∀b,Y' b->Y b\/A.size<=b)(f:∀l r,L2=l::r->gP Y A x l):de q d L2 yg BY at' g O Y' B:=by
 obtain⟨o,xr,_⟩:=c.xr;obtain⟨gs,gr,_⟩:=c.gr;have i:∀b,b=q.xb->Y b:=λb u=>u▸hO _ c.base.o2.2.2.1;exact⟨c.base.mod m ⟨bq c.base.row xr (by decide),bq c.base.cy xr (by decide),bq c.base.cx xr (by decide),bq c.base.ck xr (by decide)⟩,c.ca.mod m (bq c.ca xr (by decide)),c.gr.mod m (bq gr xr (by decide)) i (xy xr (by decide)) h,⟨x,r,λl r _ e=>(f l r e).step m (λb _=>i b) h⟩,c.yr.mod m (SI c.base.ne.1) (λb _=>i b) h⟩
theorem de.OM {d:Bool}{L2:List (List Int)}(c:de q xg LX yg BY at' g O Y A)(hO:∀b,O b->Y b)(r:ab B q.yb Dq (j7 q.b x d L2))(m:Mod (λb=>b=q.yb) A B)(h:∀b,Y' b->Y b\/A.size<=b)(f:∀l r,L2=l::r->gP Y A x l):de q xg LX d L2 at' g O Y' B:=by
 obtain⟨yl,yr,_⟩:=c.yr;obtain⟨gs,gr,_⟩:=c.gr;have i:∀b,b=q.yb->Y b:=λb u=>u▸hO _ c.base.o2.2.2.2;exact⟨c.base.mod m ⟨bq c.base.row yr (by decide),bq c.base.cy yr (by decide),bq c.base.cx yr (by decide),bq c.base.ck yr (by decide)⟩,c.ca.mod m (bq c.ca yr (by decide)),c.gr.mod m (bq gr yr (by decide)) i (xy yr (by decide)) h,c.xr.mod m c.base.ne.1 (λb _=>i b) h,⟨x,r,λl r _ e=>(f l r e).step m (λb _=>i b) h⟩⟩
theorem de.OF (c:de q xg LX yg BY at' g O Y A)(hO:∀b,O b->Y b)(r:ab B q.pg cW #[(Sl.mk none 0 0).v]) (m:Mod (λb=>b=q.pg) A B) (d:∀b,Y' b->Y b\/A.size<=b):de q xg LX yg BY at' [] O Y' B:=by
 obtain⟨i,xr,_⟩:=c.xr;obtain⟨yl,yr,_⟩:=c.yr;obtain⟨gs,gr,_⟩:=c.gr;have e:∀b,b=q.pg->Y b:=λb u=>u▸hO _ c.base.o1.2.2.2;exact⟨c.base.mod m ⟨bq c.base.row gr (by decide),bq c.base.cy gr (by decide),bq c.base.cx gr (by decide),bq c.base.ck gr (by decide)⟩,c.ca.mod m (bq c.ca gr (by decide)),⟨_,r,dz.nil _ _,λb u=>by obtain⟨ad,h,_⟩:=u;cases h⟩,c.xr.mod m (bq xr gr (by decide)) (λb _=>e b) d,c.yr.mod m (bq yr gr (by decide)) (λb _=>e b) d⟩
end
def LM (xs:Option (List Int))(la:List (List Int)):List (List Int):=match xs with
 |none=>la
 |some x=>x::la
def yU (xs:Option (List Int))(g:List (List Int))(k:Nat):List (List Int):=match xs with
 |none=>[]
 |some x=>(g.drop k).map λy=>x++y
theorem IT (xs:Option (List Int))(la:List (List Int)):E8 xs.isSome (LM xs la)=la:=by cases xs<;>rfl
structure MP (T ls:List (List Int))(xs:Option (List Int))(la g BY:List (List Int))(k:Nat):Prop where
 tell:ls=yU xs g k++bO la T
 mg:Iz T la g BY
 le:k<=g.length
 no:xs=none->g=[]
 pS:dG (LM xs la)
 l2:∀l∈LM xs la,l.length=2
 few:g.length<=40/\BY.length<=40
section
variable {H0 A B:aa}{q:CB}{Ia Ib:List (List Int)->Jg}{Fa Fb J1 J2:Jg}{X X1 X2 O E:Nat->Prop}{xg yg:Bool}{LX BY g la ls T:List (List Int)}{k:Nat}
theorem sf {O X1 X2 E:Nat->Prop}:∀b,O b->Al X1 X2 O E b:=λb u=>.inr (.inr (.inr u))
theorem NI {K:Int->aa->Prop}(d:im H0 q.a 2 Ia Fa)(L2:dO H0 J2)(w:Wk (vf Ia Fa xg LX) J2 B X1 X2 O E)(c:de q xg LX yg BY k g O (Al X1 X2 O E) B)(h:xg=false\/LX≠[])(pS:dG LX)(l2:∀y∈LX,y.length=2)
  (hK:∀X1' D,Wk (vf Ia Fa true (E8 xg LX)) J2 D X1' X2 O E->de q true (E8 xg LX) yg BY k g O (Al X1' X2 O E) D->Step (Ow X1 X2 O) (Ow X1' X2 O) B D->K 0 D):DO.sp (av q.xb) B K:=by
 obtain⟨x,xr,z⟩:=c.xr;have i:=w.nv (fw d.law d.fin _ _) L2;refine zU d w.j1 h pS l2 xr (.inr (.inr c.base.o2.2.2.1)) (λy r G e2=>⟨(z y r G e2).ints,λb o u=>(z y r G e2).off b o (.inr (.inl u))⟩) λx' C D X1' j P r m S=>?_;obtain⟨w',S'⟩:=w.l L2 (fw d.law d.fin _ _) j P;have c':=jb c (w.zr (fw d.law d.fin _ _) P.mod) (Al.bz S');obtain⟨w2,S2⟩:=w'.own (O':=O) (fw d.law d.fin _ _) L2 (m.mono λb _ u=>u▸c'.base.o2.2.2.1) λb u=>.inl u;have t:∀l r,E8 xg LX=l::r->gP (Al X1' X2 O E) C x' l:=λl r e=>⟨(S l r e).1,λb o u=>by
  have v:=(S l r e).2 b o;rcases u with u|u|u|u
  ·have:=(i.e b u).1;omega
  ·exact v.2 u
  ·have:=(i.x b (.inr (.inl u))).1;omega
  ·have:=(i.x b (.inr (.inr u))).1;omega⟩
 exact hK X1' D w2 (c'.ON sf r m (Al.bz S2) t) (S'.trans S2)
theorem Fv {K:Int->aa->Prop}(d:im H0 q.b 2 Ib Fb)(L1:dO H0 J1)(w:Wk J1 (vf Ib Fb yg BY) B X1 X2 O E)(c:de q xg LX yg BY k g O (Al X1 X2 O E) B)(h:yg=false\/BY≠[])(pS:dG BY)(l2:∀y∈BY,y.length=2)
  (hK:∀X2' D,Wk J1 (vf Ib Fb true (E8 yg BY)) D X1 X2' O E->de q xg LX true (E8 yg BY) k g O (Al X1 X2' O E) D->Step (Ow X1 X2 O) (Ow X1 X2' O) B D->K 0 D):DO.sp (av q.yb) B K:=by
 obtain⟨y,yr,G⟩:=c.yr;have i:=w.nv L1 (fw d.law d.fin _ _);refine zU d w.j2 h pS l2 yr (.inr (.inr c.base.o2.2.2.2)) (λz r P e2=>⟨(G z r P e2).ints,λb o u=>(G z r P e2).off b o (.inr (.inr (.inl u)))⟩) λy' C D X2' j S r m ff=>?_;obtain⟨w',S'⟩:=w.r L1 (fw d.law d.fin _ _) j S;have c':=jb c (w.ym (fw d.law d.fin _ _) S.mod) (Al.bz S');obtain⟨w2,S2⟩:=w'.own (O':=O) L1 (fw d.law d.fin _ _) (m.mono λb _ u=>u▸c'.base.o2.2.2.2) λb u=>.inl u;have t:∀l r,E8 yg BY=l::r->gP (Al X1 X2' O E) C y' l:=λl r e=>⟨(ff l r e).1,λb o u=>by
  have v:=(ff l r e).2 b o;rcases u with u|u|u|u
  ·have:=(i.e b u).1;omega
  ·have:=(i.x b (.inl u)).1;omega
  ·exact v.2 u
  ·have:=(i.x b (.inr (.inr u))).1;omega⟩
 exact hK X2' D w2 (c'.OM sf r m (Al.bz S2) t) (S'.trans S2)
theorem NF {ty:TypeId}{K:Sl->aa->Prop}{gs y:Sl}{yl:List Int}(L1:dO H0 J1)(L2:dO H0 J2)(w:Wk J1 J2 B X1 X2 O E)(c:de q xg LX yg BY k g O (Al X1 X2 O E) B)(hg:ab B q.pg cW #[gs.v]) (hn:g.length<=1000) (fy:gP (Al X1 X2 O E) B y yl)
  (hK:∀s' C,ab C q.pg cW #[gs.v]->(∀D,ab D q.pg cW #[s'.v]->Mod (λb=>b=q.pg) C D->∃O',Wk J1 J2 D X1 X2 O' E/\de q xg LX yg BY k (g++[yl]) O' (Al X1 X2 O' E) D/\Step (Ow X1 X2 O) (Ow X1 X2 O') B D)->K s' C):
  aB B #[y.v] cv λp H1=>bI au Qf (Qo #[cW,cW] ty #[gs.v,.slice (some p) 1 1]) H1 K:=by
 obtain⟨af,gr,rc,ho⟩:=c.gr;have eg:af=gs:=by
  have h1:=gr.cell (i:=0) (v:=af.v) rfl;have h2:=hg.cell (i:=0) (v:=gs.v) rfl;rw[h1] at h2;have h2:=Qq h2;cases af;cases gs;simpa[Sl.v] using h2
 subst eg;have b0:=w.nv L1 L2;have bs:∀b,Al X1 X2 O E b->b<B.size:=λb u=>by
  rcases u with u|u
  ·exact(b0.e b u).1
  ·exact(b0.x b u).1
 refine rc.snoc (by omega) fy.ints fy.o.cap (λad ha=>⟨(fy.o.block _ ⟨ad,ha,rfl⟩).2,λu=>fy.off _ ⟨ad,ha,rfl⟩ u.1,λu=>fy.off _ ⟨ad,ha,rfl⟩ (sf _ (ho _ u))⟩) (λb u=>bs b u.1) λs' C rC mC bC=>?_;have zC:=mC.size;have a8:∀b,al af b->∃cur,B[b]?=some (.cells cur cv (0,0)):=λb hb=>by
  obtain⟨rs,o,_⟩:=rc.ex;exact o.obj b hb
 have d:∀{x:Nat} {t:TypeId} {cs:Array Value},ab B x t cs->t≠cv->¬al af x:=λ{x t cs} r hn hb=>by
  obtain⟨cur,e⟩:=a8 x hb;exact hn (aR r e)
 obtain⟨O',a1⟩:∃O':Nat->Prop,O'=λb=>(O b/\¬al af b)\/al s' b:=⟨_,rfl⟩;have sO:∀b,O' b->O b\/(B.size<=b/\b<C.size):=λb u=>by
  rw[a1] at u;rcases u with u|u
  ·exact .inl u.1
  ·exact(bC b u).imp (ho b) λv=>⟨v,rC.p.lt b u⟩
 obtain⟨w1,S1⟩:=w.own (O':=O') L1 L2 (mC.mono λb _ u=>ho b u) sO;have G:=gr.mod mC (d gr (by decide));refine hK s' C G λD rD mD=>?_;have ae:∀{x:Nat} {t:TypeId} {cs:Array Value},ab B x t cs->t≠cv->O x->O' x:=λ{x t cs} r hn hx=>by rw[a1];exact .inl ⟨hx,d r hn⟩
 obtain⟨xl,xr,xf⟩:=c.xr;obtain⟨yv,yr,yf⟩:=c.yr;have cb:=c.base;have a7:O' q.pg:=ae gr (by decide) cb.o1.2.2.2;obtain⟨w2,S2⟩:=w1.own (O':=O') L1 L2 (mD.mono λb _ u=>u▸a7) λb u=>.inl u;refine⟨O',w2,?_,S1.trans S2⟩;have a6:∀b,Al X1 X2 O' E b->Al X1 X2 O E b\/B.size<=b:=Al.bz S1;have ba:∀b,Al X1 X2 O' E b->Al X1 X2 O' E b\/C.size<=b:=λb u=>.inl u;have z:yZ q O' C:=⟨⟨ae cb.row (by decide) cb.o1.1,ae cb.cy (by decide) cb.o1.2.1,ae c.ca (by decide) cb.o1.2.2.1,a7⟩,⟨ae cb.cx (by decide) cb.o2.1,ae cb.ck (by decide) cb.o2.2.1,ae xr (by decide) cb.o2.2.2.1,ae yr (by decide) cb.o2.2.2.2⟩,cb.row.mod mC (d cb.row (by decide)),cb.cy.mod mC (d cb.cy (by decide)),cb.cx.mod mC (d cb.cx (by decide)),cb.ck.mod mC (d cb.ck (by decide)),cb.ne⟩;have bl:=c.ca.mod mC (d c.ca (by decide));have x1:Ky q.a q.xb xg LX (Al X1 X2 O' E) C:=c.xr.mod mC (d xr (by decide)) (λb _ u=>sf b (ho b u)) a6;have y1:Ky q.b q.yb yg BY (Al X1 X2 O' E) C:=c.yr.mod mC (d yr (by decide)) (λb _ u=>sf b (ho b u)) a6;obtain⟨bG,bA,_⟩:=x1;obtain⟨b1,bB,_⟩:=y1;have hZ:∀b,b=q.pg->Al X1 X2 O' E b:=λb u=>u▸sf _ a7;refine⟨z.mod mD ⟨bq z.row G (by decide),bq z.cy G (by decide),bq z.cx G (by decide),bq z.ck G (by decide)⟩,bl.mod mD (bq bl G (by decide)),⟨s',rD,?_,λb hb=>by rw[a1];exact .inr hb⟩,Ky.mod (c.xr.mod mC (d xr (by decide)) (λb _ u=>sf b (ho b u)) a6) mD (bq bA G (by decide)) (λb _=>hZ b) ba,Ky.mod (c.yr.mod mC (d yr (by decide)) (λb _ u=>sf b (ho b u)) a6) mD (bq bB G (by decide)) (λb _=>hZ b) ba⟩
 -- the group, beside what may be written
 have bD:∀b,al s' b->b≠q.pg:=λb hb e=>by
  obtain⟨rs,o,_⟩:=rC.ex;obtain⟨cur,eo⟩:=o.obj b hb;exact absurd (aR (e▸eo) G) (by decide)
 have bE:dz (λb=>Al X1 X2 O' E b/\¬al s' b) C s' (g++[yl]):=rC.mono λb hb u=>by
  obtain⟨S,u2⟩:=u;have nE:∀{P:Prop},E b\/X1 b\/X2 b->al af b->P:=λh v=>by
   exfalso;rcases h with h|h|h
   ·exact(b0.x b (.inr (.inr (ho b v)))).2.2 h
   ·exact((L1.nv w.j1).x b h).2.2 (.inr (.inr (ho b v)))
   ·exact((L2.nv w.j2).x b h).2.2 (.inr (.inr (ho b v)))
  rcases S with S|S|S|S
  ·exact⟨.inl S,nE (.inl S)⟩
  ·exact⟨.inr (.inl S),nE (.inr (.inl S))⟩
  ·exact⟨.inr (.inr (.inl S)),nE (.inr (.inr S))⟩
  ·rw[a1] at S;rcases S with S|S
   ·exact⟨sf b S.1,S.2⟩
   ·exact absurd S u2
 exact bE.step ⟨mD.mono λb _ u=>⟨hZ b u,λv=>bD b v u⟩,λb u=>.inl u⟩
def qM (q:CB)(Ia:List (List Int)->Jg)(Fa:Jg)(Ib:List (List Int)->Jg)(Fb:Jg)(T:List (List Int))(ls:List (List Int)):Jg:=λA X E=>
 ∃xs la g BY yg k,MP T ls xs la g BY k/\ur (vf Ia Fa xs.isSome (LM xs la)) (vf Ib Fb yg BY) (de q xs.isSome (LM xs la) yg BY k g) A X E
def HC (Fa:Jg)(Ib:List (List Int)->Jg)(Fb:Jg):Jg:=ur Fa (λA X E=>∃yg BY,vf Ib Fb yg BY A X E) (λ_ _ _=>True)
theorem Cd (d:im H0 q.a 2 Ia Fa)(e:im H0 q.b 2 Ib Fb):dO H0 (qM q Ia Fa Ib Fb T ls):=by
 unfold qM;exact dO.ex λxs=>dO.ex λla=>dO.ex λg=>dO.ex λBY=>dO.ex λyg=>dO.ex λk=>dO.and (je (fw d.law d.fin _ _) (fw e.law e.fin _ _) jb)
theorem I7 (d:im H0 q.b 2 Ib Fb):dO H0 (λA X E=>∃yg BY,vf Ib Fb yg BY A X E):=dO.ex λyg=>dO.ex λBY=>fw d.law d.fin _ _
def OG (q:CB)(Ia:List (List Int)->Jg)(Fa:Jg)(Ib:List (List Int)->Jg)(Fb:Jg)(T ls:List (List Int))(A:aa)(X E:Nat->Prop)(xs:Option (List Int))(la g BY:List (List Int))(k:Nat)(B:aa):Prop:=
 ∃X1 X2 O,MP T ls xs la g BY k/\Wk (vf Ia Fa xs.isSome (LM xs la)) (vf Ib Fb true BY) B X1 X2 O E/\de q xs.isSome (LM xs la) true BY k g O (Al X1 X2 O E) B/\Step X (Ow X1 X2 O) A B
end
end Go.Proofs.YtkehfflpbpdokaaGreatDoor
