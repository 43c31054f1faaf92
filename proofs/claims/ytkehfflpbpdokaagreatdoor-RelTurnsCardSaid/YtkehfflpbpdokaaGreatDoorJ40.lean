/-
 Relations: is a row of columns an order? a relation is made: the walk.
-/
import Derived.Test.YtkehfflpbpdokaaGreatDoorJ35
import Derived.Test.YtkehfflpbpdokaaGreatDoorJ36
import Derived.Test.YtkehfflpbpdokaaGreatDoorJ37
import Derived.Test.YtkehfflpbpdokaaGreatDoorDks
import Derived.Test.YtkehfflpbpdokaaGreatDoorDkr
open Array renaming getElem?_push->MW
open Classical renaming byContradiction->NG
open Go.Addr renaming add->K0
open Go.Builtin renaming append_->Ks
open Go.IntKind renaming i64->Ke
open Go.Proofs.Tryz renaming prog->Kf
open Go.Value renaming int->Km,slice->RB
open Int renaming toNat_natCast->KI
open List renaming getElem?_eq_getElem->Kg,mem_of_getElem?->Ki,getElem?_eq_some_iff->Kj,mem_append->Kk,mem_iff_getElem?->Ko,getElem_mem->Kt,mem_cons->Ku,length_append->Kv,mem_cons_self->Kw,mem_map->Kz,getElem?_map->KC,length_take->KF,replicate->KG,length_map->KM,not_mem_nil->KN,mem_cons_of_mem->KO,mem_filter->KP,getD->KQ,getElem?_append_left->KT,map_append->KX,eq_nil_of_length_eq_zero->KY,nodup_append->La,mem_singleton->Lc,getElem?_set->Le,getElem?_append_right->Lf,getElem?_take->Lh,map_cons->Ln,mem_map_of_mem->Lp,length_singleton->Lq,append_nil->Lu,nodup_cons->Lw,map_congr_left->Lx,map_map->Ly,getElem?_inj->LH,filter_append->LI,nil_append->LN,pairwise_cons->LR,filter_sublist->Mg,take_add_one->Mv,nodup_nil->MF,ext_getElem?->MG,getElem?_zipWith->MM,take_length->MP,take_take->MR,mem_or_eq_of_mem_set->Nf,map_set->Nt,length_filter_le->Nx,sum_cons->Ny,length->NH,eq_of_mem_replicate->NQ,map_replicate->N6,length_set->Ob,mem_flatten->Oz,sum_append->OI,length_filterMap_le->QD,filterMap_append->Rz,mem_of_mem_head?->RA,zipWith->Te
open List.Pairwise renaming nil->Oh,imp->OY
open List.Perm renaming refl->Ol
open List.Sublist renaming refl->Of,append->RP
open Nat renaming le_refl->Kl,zero_le->KU,mul_le_mul_right->K2,le_trans->K4,lt_of_lt_of_le->K9,le_succ->Lj,mul_le_mul_left->LM,succ_mul->LU,reduceAdd->MD,le_add_right->M5,mul_succ->Oo,mul_add->OC,min_self->RW
open Option.some renaming inj->Kq
namespace Go.Proofs.YtkehfflpbpdokaaGreatDoor
open Go.MapKept
theorem uI {lb cap:Nat}{s:Sl}{xs:List Int}{H:aa}{K:Unit->aa->Prop}(I:Nat->aa->Prop)(hcap:ag H cap gy #[s.v]) (hx:∀i A,I i A->Ints .i64 A s xs) (hl:xs.length<=1000000) (h0:I 0 H)
  (hs:∀i A,I i A->i<xs.length->ck Kf lb #[.int .i64 (xs.getD i 0)] A λb A'=>b=true/\I (i+1) A') (hfin:∀A,I xs.length A->K () A):Bh.sp lb ⟨cap,0,none⟩ H K:=by
 refine Bh.of ?_
 unfold Bh.vc
 refine⟨s,hcap.cell (i:=0) rfl,?_⟩
 refine av xs.length (λi z A=>z=(i:Int)/\I i A) ⟨rfl,h0⟩ ?_
 rintro i _ A next hi ⟨rfl,hI⟩ hnext
 have hn:=(hx i A hI).len
 refine ak (λhc=>?_) (λhc=>?_)
 ·have hlt:i<xs.length:=by
   have:(i:Int)<(s.n:Int):=by simpa using hc
   omega
  refine bB (hx i A hI) (i:=(i:Int)) (j:=i) rfl hlt λad _=>?_
  refine(hs i A hI hlt).mono λb A' ⟨hb,hI'⟩=>?_
  subst hb
  exact ax rfl (hnext hlt _ _ ⟨aK i (by omega),hI'⟩)
 ·have hge:i=xs.length:=by
   have:¬(i:Int)<(s.n:Int):=by simpa using hc
   omega
  subst hge
  exact hfin A hI
theorem rf {cap:Nat}{s:Sl}{xs:List Int}{H:aa}{K:Sl->aa->Prop}(hx:Ints .i64 H s xs)(hcap:ag H cap gy #[s.v]) (hl:xs.length<=1000000)
  (hK:∀(z:Sl) (H':aa),cw EI dA H' z xs->Ext H H'->(∀b,ai z b->H.size<=b)->K z H'):
  Gm.sp (Sl.mk none 0 0) (.func (.func Bh.no) #[] #[(.pointer (some ⟨cap,0,none⟩))]) H K:=by
 refine Gm.of ?_
 unfold Gm.vc
 refine ar λH1 s1 r1 m1=>?_
 have hcallable:dg Kf Bh.no=true:=by kernel_rfl
 refine⟨_,_,rfl,hcallable,λrec hround=>?_⟩
 obtain⟨r,hr⟩:∃r,r=H1.size:=⟨_,rfl⟩
 obtain⟨l,hl2⟩:∃l,l=H1.size+1:=⟨_,rfl⟩
 obtain⟨p,hp⟩:∃p,p=H.size:=⟨_,rfl⟩
 rw[<-hl2] at hround ⊢
 rw[<-hr]
 rw[<-hp] at r1
 rw[<-hp] at hround
 rw[<-hp]
 obtain⟨HB,hHB⟩:∃HB:aa,HB=(H1.push (.deferred (some []))).push (.loop (rec .ready none)):=⟨_,rfl⟩
 rw[<-hHB]
 have eB:Mod (λ_=>False) H1 HB:=by rw[hHB];exact(Mod.push _ _ _).trans (Mod.push _ _ _)
 have sB:HB.size=H1.size+2:=by rw[hHB];simp
 have lB:HB[l]?=some (.loop (rec .ready none)):=by rw[hHB,hl2,MW,if_pos (by simp)]
 have rB:HB[r]?=some (.deferred (some [])):=by rw[hHB,hr];simp[MW]
 have pB:ag HB p gy #[(Sl.mk none 0 0).v]:=r1.ext eB
 have cB:ag HB cap gy #[s.v]:=(hcap.ext m1).ext eB
 have eHB:Ext H HB:=m1.trans eB
 let I:Nat->aa->Prop:=λi A=>A[l]?=some (.loop (rec .ready none))/\A[r]?=some (.deferred (some []))/\(∃z,ag A p gy #[z.v]/\cw EI dA A z (xs.take i)/\(∀b,ai z b->HB.size<=b))/\Mod (λb=>b=p\/b=l) HB A
 have eI:∀i A,I i A->Ext H A:=λi A h=>⟨by have:=h.2.2.2.size;omega,λb hb _=>by rw[h.2.2.2.same b (by omega) λu=>by omega];exact eHB.same b hb id⟩
 refine Spec.mono (R:=λv H'=>∃x:Unit,v=(bj []).enc x/\lq l rec H' _ _ _) (uI (lb:=l) (cap:=cap) (H:=HB) (K:=λ_ H'=>lq l rec H' _ _ _) I cB (λi A h=>hx.ext (eI i A h)) hl ?_ ?_ ?_) (λv H' ⟨x,_,h⟩=>h)
 ·exact⟨lB,rB,⟨_,pB,cw.nil _ _ _,by rintro b ⟨ad,q,_⟩;cases q⟩,.refl _ _⟩
 ·rintro i A ⟨i1,i2,⟨z,i3,i4,i5⟩,i6⟩ hi
  refine hround [.int .i64 (xs.getD i 0)] A _ i1 ?_
  show gM (some (xs.getD i 0)) _
  refine⟨i1,?_⟩
  obtain⟨Ab,hAb⟩:∃Ab:aa,Ab=A.setIfInBounds l (.loop (rec .busy none)):=⟨_,rfl⟩
  rw[<-hAb]
  have mAb:Mod (λb=>b=l) A Ab:=by rw[hAb];exact Mod.setObj rfl
  have sAb:Ab.size=A.size:=by rw[hAb];simp
  have lAb:Ab[l]?=some (.loop (rec .busy none)):=by rw[hAb];exact fy i1
  have hpl:p≠l:=by omega
  have p1:=i3.mod mAb hpl
  refine p1.ld (c:=ao) (i:=0) (x:=z) rfl ?_
  have tl:∀b,ai z b->b≠l:=λb hb=>by have:=i5 b hb;omega
  have o1:cw EI dA Ab z (xs.take i):=i4.aA λb hb hbl=>mAb.same b hbl (tl b hb)
  refine cw.push (E:=EI) HD (x:=xs.getD i 0) o1 rfl (by rw[KF];omega) (by rw[KF];omega) λs2 A2 o2 g2 _=>?_
  have lp:p<Ab.size:=aG p1
  have tp:∀b,ai z b->b≠p:=λb hb=>by have:=i5 b hb;omega
  have p2:ag A2 p gy #[z.v]:=p1.mod g2.1 (λhb=>tp _ hb rfl)
  have i6s:=i6.size
  have t2:∀b,ai s2 b->HB.size<=b:=λb hb=>by
   rcases g2.2 b hb with q|q
   ·exact i5 b q
   ·omega
  have p2st:=p2.st (i:=0) (v:=s2.v) (by simp) rfl (K:=λH5=>H5[l]?=some (.loop (rec .busy none))/\(λb A'=>b=true/\I (i+1) A') true (H5.setIfInBounds l (.loop (rec .ready none))))
  rw[show (K0 ⟨p,0,none⟩ 0)=⟨p,0,none⟩ from rfl] at p2st
  refine p2st λA3 p3 m3 s3=>?_
  have l2:A2[l]?=some (.loop (rec .busy none)):=g2.1.at lAb (λhb=>tl _ hb rfl)
  have l3:A3[l]?=some (.loop (rec .busy none)):=m3.at l2 (by omega)
  have m4:Mod (λb=>b=l) A3 (A3.setIfInBounds l (.loop (rec .ready none))):=Mod.setObj rfl
  refine⟨l3,rfl,fy l3,?_,⟨s2,?_,?_,t2⟩,?_⟩
  ·exact m4.at (m3.at (g2.1.at (mAb.at i2 (by omega)) (λhb=>by have:=i5 _ hb;omega)) (by omega)) (by omega)
  ·exact ag.mod (show ag A3 p gy #[s2.v] from p3) m4 hpl
  ·have e:xs.take (i+1)=xs.take i++[xs.getD i 0]:=by rw[Mv,Kg hi];simp[KQ,Kg hi]
   rw[e]
   refine o2.aA λb hb hbl=>?_
   have:=t2 b hb
   exact(m4.same b (by omega) (by omega)).trans (m3.same b hbl (by omega))
  ·have z2:=g2.1.size
   refine i6.trans' (G:=λb=>(b=l\/ai z b)\/b=p) ?_ ?_
   ·exact(((mAb.mono λb _ e=>.inl (.inl e)).trans (g2.1.mono λb _ e=>.inl (.inr e))).trans (m3.mono λb _ e=>.inr e)).trans (m4.mono λb _ e=>.inl (.inl e))
   ·rintro b hb ((e|e)|e)
    ·exact .inr e
    ·have:=i5 b e;omega
    ·exact .inl e
 ·rintro A ⟨i1,i2,⟨z,i3,i4,i5⟩,i6⟩
  rw[MP] at i4
  refine⟨.ready,none,i1,rfl,?_⟩
  show ld ao _ _ _
  have m4:Mod (λb=>b=l) A (A.setIfInBounds l (.loop (rec .exhausted none))):=Mod.setObj rfl
  have p4:=i3.mod m4 (by omega)
  refine p4.ld (c:=ao) (i:=0) (x:=z) rfl ?_
  have r4:=m4.at i2 (by omega)
  refine⟨r4,?_⟩
  have m5:Mod (λb=>b=r) (A.setIfInBounds l (.loop (rec .exhausted none))) ((A.setIfInBounds l (.loop (rec .exhausted none))).setIfInBounds r (.deferred none)):=Mod.setObj rfl
  have z6:=i6.size
  have z4:=m4.size
  refine hK z _ ?_ ?_ (λb hb=>by have:=i5 b hb;omega)
  ·refine i4.aA λb hb hbl=>?_
   have:=i5 b hb
   exact(m5.same b (by omega) (by omega)).trans (m4.same b hbl (by omega))
  ·have z5:=m5.size
   refine⟨by omega,λb hb _=>(m5.same b (by omega) (by omega)).trans ((m4.same b (by omega) (by omega)).trans ((i6.same b (by omega) (by omega)).trans (eHB.same b hb id)))⟩
def upto (n:Nat):List Int:=(List.range n).map λ(i:Nat)=>(i:Int)
theorem wJ {l:Sl}{x:List Int}{W:Nat}{H:aa}{K:Bool->aa->Prop}(h:Ints .i64 H l x)(hW:x.length=W)(hl:W<=1000)(hs:(x.mergeSort λa b=>decide (a<=b))=upto W)(hK:∀B,Ext H B->K true B):FR.sp l (W:Int) H K:=by
 refine FR.of ?_
 unfold FR.vc
 refine GF.of ?_
 unfold GF.vc
 refine ar λH1 z1 r1 e1=>?_
 refine Hh.of ?_
 unfold Hh.vc
 refine GS.of ?_
 unfold GS.vc
 refine rf (h.ext e1) r1 (by omega) λz H2 o2 e2 f2=>?_
 refine v8 o2 (by omega) λH3 o3 m3=>?_
 rw[hs] at o3
 have e3:Ext H H3:=⟨by have:=e1.size;have:=e2.size;have:=m3.size;omega,λb hb _=>by
  have:=e1.size;have:=e2.size
  rw[m3.same b (by omega) λu=>by have:=f2 b u;omega,e2.same b (by omega) id]
  exact e1.same b hb id⟩
 have i3:Ints .i64 H3 z (upto W):=by
  have:=o3
  unfold cw at this
  rw[uy] at this
  exact az.ints this
 have hlu:(upto W).length=W:=by unfold upto;simp
 have hzn:=i3.len
 refine av W (λi z A=>z=(i:Int)/\A=H3) ⟨rfl,rfl⟩ ?_
 rintro i _ _ next hi ⟨rfl,rfl⟩ hnext
 refine ak (λhc=>?_) (λhc=>?_)
 ·have hlt:i<W:=by
   have:(i:Int)<(z.n:Int):=by simpa using hc
   omega
  refine bB i3 (i:=(i:Int)) (j:=i) rfl (by omega) λad _=>?_
  have e:(upto W).getD i 0=(i:Int):=by unfold upto;simp[KQ,hlt]
  rw[e]
  refine ax (by simp) ?_
  exact hnext hlt _ _ ⟨aK i (by omega),rfl⟩
 ·refine(congrArg (λb=>K b _) ?_).mpr (hK _ e3)
  have:=h.len
  simp;omega
theorem Iq:El Kf HG gy 24 (.slice none 0 0):=nL (zb:=yK) wu rfl (by kernel_rfl)
theorem vh {W i:Nat}(h:i<W):(upto W).getD i 0=(i:Int):=by unfold upto;simp[KQ,h]
theorem qd (W:Nat):(upto W).length=W:=by unfold upto;simp
theorem vm {l:Sl}{W:Nat}{H:aa}{K:Bool->aa->Prop}(h:Ints .i64 H l (upto W))(hl:W<=1000)(hK:K true H):Fj.sp l H K:=by
 refine Fj.of ?_
 unfold Fj.vc
 have hn:=h.len
 rw[qd] at hn
 refine av W (λk z A=>z=(W:Int) - 1 - (k:Int)/\A=H) ⟨by rw[wrap64 (by omega) (by omega)];omega,rfl⟩ ?_
 rintro k _ _ next hk ⟨rfl,rfl⟩ hnext
 refine ak (λhc=>?_) (λ_=>hK)
 have hpos:(W:Int) - 1 - (k:Int)>0:=by simpa using hc
 have e1:Ke.wrap ((W:Int) - 1 - (k:Int) - 1)=(W:Int) - 1 - ((k+1:Nat):Int):=by rw[wrap64 (by omega) (by omega)];omega
 rw[e1]
 refine bB h (i:=(W:Int) - 1 - (k:Int)) (j:=W - 1 - k) (by omega) (by rw[qd];omega) λad _=>?_
 refine bB h (i:=(W:Int) - 1 - ((k+1:Nat):Int)) (j:=W - 1 - (k+1)) (by omega) (by rw[qd];omega) λad2 _=>?_
 rw[vh (by omega),vh (by omega)]
 refine GY.of ?_
 unfold GY.vc
 refine FX.of ?_
 unfold FX.vc
 refine ax (by simp) ?_
 refine ax (by simp;omega) ?_
 exact hnext (by omega) _ _ ⟨rfl,rfl⟩
def wZ (p:Nat)(name:ByteArray)(W:Nat)(os:Sl)(f d e:Option Addr):Array Value:=#[.pointer (aD p),.string name,.int .i64 W,os.v,.int .i64 0,.bool false,.pointer f,.pointer d,.pointer e,.int .i64 0,.int .i64 0]
section
variable {H0 A B:aa}{F F':Nat->Prop}{p dp Q U most m c:Nat}{s s':Pl}{M M':aU}{R:ah}{l:Sl}{ll:List Int}
theorem jM.grow {X:Nat->Prop}{s:Sl}{ls:List (List Int)}(h:jM X A s ls)(e:Ext A B):jM X B s ls:=h.step (Step.bp e)
structure Ci (name:ByteArray)(W:Nat)(ords:List (List Int))(R:ah):Prop where
 name:R.name=name
 W:R.W=W
 ords:R.ords=ords
 f:R.f.ts=[]
 d:R.d.ts=[]
 e:R.e.ts=[]
 ex:R.ex=[]
 next:R.next=0
 nb:R.nb=0
 turns:R.turns=0
set_option maxHeartbeats 2000000 in
theorem mS {name:ByteArray}{W:Nat}{os:Sl}{ords:List (List Int)}{K:(Option Addr×Int)->aa->Prop}(hW:W<=16)(ho:jM (λ_=>False) A os ords)(h1:1<=ords.length)(h16:ords.length<=16)(hord:∀x∈ords,x.length=W/\(x.mergeSort λa b=>decide (a<=b))=upto W)(h0:ords[0]?=some (upto W))(hF:∀b,F b->b<A.size)(hz:H0.size<=A.size)(hfree:∀j,M (cS name j)=none)
  (hK:∀R B,Ci name W ords R->aO H0 B F p M R->Ext A B->(∀b,R.O b->A.size<=b)->K (aD R.rb,0) B):Du.sp (aD p) name (W:Int) os A K:=by
 have hon:=ho.len
 refine Du.of ?_
 unfold Du.vc
 refine⟨λ_ B=>A=B,?_,?_⟩
 ·refine ax rfl ?_
  refine kZ ?_
  have hr:=(jV hW).2.2.1
  refine ax (by simp;omega) ?_
  refine ax (by simp;omega) ?_
  refine ax (by simp;omega) ?_
  refine ho.ld (i:=0) (by omega) rfl λad r _ _ hi _=>?_
  have e0:ords[0]=upto W:=by rw[Kg (by omega)] at h0;exact Kq h0
  rw[e0] at hi
  exact vm hi (by omega) (ax rfl rfl)
 rintro _ _ rfl
 refine ar λB0 z0 r0 e0=>?_
 obtain⟨rb,hrb⟩:∃rb,rb=A.size:=⟨_,rfl⟩
 rw[<-hrb] at r0 ⊢
 refine av ords.length (λi z B=>z=(i:Int)/\∃s rs,ag B rb EJ (wZ p name W s none none none)/\az B 0 gy 1 s (rs.map Sl.v)/\rs.length=i/\(∀(j:Nat) (r:Sl) (x:List Int),rs[j]?=some r->ords[j]?=some x->az B 0 dA 1 r (x.map (Km .i64))/\∀b,ai r b->rb<b)/\(∀b,ai s b->rb<b)/\Ext A B/\rb<B.size) ⟨rfl,Sl.mk none 0 0,[],r0,az.nil _ _ _ _,rfl,by simp,λb u=>(by obtain⟨ad,ha,_⟩:=u;cases ha),e0,by omega⟩ ?_
 rintro i _ B next hi ⟨rfl,s,rs,rB,oB,lB,rowB,fB,eB,hBz⟩ hnext
 refine ak (λhc=>?_) (λhc=>?_)
 ·have hlt:i<ords.length:=by
   have:(i:Int)<(os.n:Int):=by simpa using hc
   omega
  refine(ho.grow eB).ld hlt rfl λad r _ _ hir _=>?_
  obtain⟨w1,w2⟩:=hord _ (Kt hlt)
  refine wJ hir w1 (by omega) w2 λC eC=>?_
  refine ax rfl ?_
  refine⟨Ext C,.refl _ _,?_⟩
  simp only[add_add,MD]
  refine ag.cP (c:=ao) (i:=3) (x:=s) (cs:=λ_=>wZ p name W s none none none) (λD hD=>(rB.ext eC).ext hD) (λ_ _=>rfl) ?_
  refine p9 (hir.ext eC) (by omega) λr' D oD eD fD=>⟨eD,?_⟩
  have eBD:=eC.trans eD
  refine⟨eD.trans (Mod.push (λ_=>False) D (.cells #[r'.v] gy)),?_⟩
  have hsn:s.n=i:=by have:=oB.1;simp at this;omega
  have key:=Iq.push (ty:=HG) (H:=D) (base:=0) (s:=s) (xs:=rs.map Sl.v) (v:=r'.v) (oB.ext eBD) (by cases r';rfl) (by omega) (by omega) (KU _)
   (K:=λs' E=>Go.Proofs.YtkehfflpbpdokaaGreatDoor.st E (K0 ⟨rb,0,none⟩ 3) s'.v λE'=>next (Ke.wrap ((i:Int)+(1:Int))) E')
  refine key λs' E n' oE mE bE _=>?_
  have hzC:=eC.size
  have hzD:=eD.size
  have hzE:=mE.size
  have rE:ag E rb EJ (wZ p name W s none none none):=((rB.ext eC).ext eD).mod mE λu=>by have:=fB _ u;omega
  refine ag.st rE (i:=3) (by simp[wZ]) (by cases s';rfl) λG rG mG zG=>?_
  have fE:∀b,ai s' b->rb<b:=λb hb=>by
   rcases bE b hb with v|v
   ·exact fB b v
   ·omega
  refine hnext hlt _ _ ⟨aK i (by omega),s',rs++[r'],rG,?_,by simp[lB],λj r2 x hr2 hx=>?_,fE,?_,by omega⟩
  ·rw[KX]
   exact oE.mod mG λb hb u=>by have:=fE b hb;omega
  ·by_cases hj:j<i
   ·rw[KT (by omega)] at hr2
    obtain⟨q1,q2⟩:=rowB j r2 x hr2 hx
    have q3:=q1.ext eBD
    exact⟨(q3.mod mE λb hb hb'=>q3.apart (oB.ext eBD) (by decide) b hb hb').mod mG λb hb u=>(by have:=q2 b hb;omega),q2⟩
   ·have hji:j=i:=by
     have:=(Kj.1 hr2).1
     simp at this;omega
    subst hji
    rw[Lf (by omega),lB] at hr2
    have:r2=r':=by simpa using hr2.symm
    subst this
    have hx':x=ords[j]:=by rw[Kg hlt] at hx;exact(Kq hx).symm
    subst hx'
    refine⟨(oD.mod mE λb hb hb'=>oD.apart (oB.ext eBD) (by decide) b hb hb').mod mG λb hb u=>(by have:=fD b hb;omega),λb hb=>by have:=fD b hb;omega⟩
  ·have eBE:Ext A E:=⟨by have:=eB.size;omega,λb hb _=>by
    rw[mE.same b (by have:=eB.size;omega) λu=>by have:=fB b u;omega]
    exact(eB.trans eBD).same b hb id⟩
   exact⟨by have:=eBE.size;omega,λb hb _=>by
    rw[mG.same b (by have:=eBE.size;omega) λu=>by omega]
    exact eBE.same b hb id⟩
 ·have hge:i=ords.length:=by
   have:¬(i:Int)<(os.n:Int):=by simpa using hc
   omega
  subst hge
  refine mw λC zC rC eC=>?_
  refine mw λD zD rD eD=>?_
  refine mw λE zE rE eE=>?_
  have eBE:=(eC.trans eD).trans eE
  refine ag.st (rB.ext eBE) (i:=6) (by simp[wZ]) rfl λG1 q1 m1 z1=>?_
  refine ag.st q1 (i:=7) (by simp[wZ]) rfl λG2 q2 m2 z2=>?_
  refine ag.st q2 (i:=8) (by simp[wZ]) rfl λG3 q3 m3 z3=>?_
  have m123:Mod (λb=>b=rb) E G3:=(m1.trans m2).trans m3
  have hAB:=eB.size
  have eAG:Ext A G3:=⟨by omega,λb hb _=>by rw[m123.same b (by omega) λu=>by omega];exact(eB.trans eBE).same b hb id⟩
  have hsn:s.n=ords.length:=by have:=oB.1;simp at this;omega
  have key:=hK ⟨rb,name,W,s,ords,⟨B.size,Sl.mk none 0 0,[]⟩,⟨C.size,Sl.mk none 0 0,[]⟩,⟨D.size,Sl.mk none 0 0,[]⟩,[],0,0,0⟩ G3 ⟨rfl,rfl,rfl,rfl,rfl,rfl,rfl,rfl,rfl,rfl⟩
  have hO:∀b,ah.O ⟨rb,name,W,s,ords,⟨B.size,Sl.mk none 0 0,[]⟩,⟨C.size,Sl.mk none 0 0,[]⟩,⟨D.size,Sl.mk none 0 0,[]⟩,[],0,0,0⟩ b->b=rb\/B.size<=b:=by
   rintro b (u|⟨q,hq,u⟩|⟨t,ht,u⟩)
   ·exact .inl u
   ·unfold ah.parts at hq
    simp only[Ku,KN,or_false] at hq
    rcases hq with rfl|rfl|rfl
    ·right;show B.size<=b;rw[u];exact Kl _
    ·right;rw[u];show B.size<=C.size;omega
    ·right;rw[u];show B.size<=D.size;omega
   ·cases ht
  have offS:∀b,rb<b->b<B.size->¬ah.X ⟨rb,name,W,s,ords,⟨B.size,Sl.mk none 0 0,[]⟩,⟨C.size,Sl.mk none 0 0,[]⟩,⟨D.size,Sl.mk none 0 0,[]⟩,[],0,0,0⟩ F b:=by
   rintro b hb1 hb2 (u|u)
   ·have:=hF b u;omega
   ·rcases hO b u with v|v<;>omega
  have keepB:∀{b:Nat},rb<b->b<B.size->G3[b]?=B[b]?:=λ{b} h1 h2=>by
   rw[m123.same b (by omega) λu=>by omega];exact eBE.same b h2 id
  refine key ⟨q3,?_,⟨hsn,?_,?_⟩,?_,?_,?_,MF,MF,?_,λj _=>hfree j⟩ eAG λb hb=>by rcases hO b hb with v|v<;>omega
  ·intro q hq
   unfold ah.parts at hq
   simp only[Ku,KN,or_false] at hq
   rcases hq with rfl|rfl|rfl
   ·exact⟨((rC.ext eD).ext eE).mod m123 (by show ¬B.size=rb;omega),ia.nil _ _⟩
   ·exact⟨(rD.ext eE).mod m123 (by show ¬C.size=rb;omega),ia.nil _ _⟩
   ·exact⟨rE.mod m123 (by show ¬D.size=rb;omega),ia.nil _ _⟩
  ·intro ad ha
   have h1:=fB _ ⟨ad,ha,rfl⟩
   have h2:=(oB.block _ ⟨ad,ha,rfl⟩).2
   exact⟨by omega,offS _ h1 h2⟩
  ·intro i hi
   have hir:i<rs.length:=by rw[lB];exact hi
   obtain⟨ad,ha,hcl⟩:=oB.reads.at (i:=i) (by simpa using hir)
   have h1:=fB _ ⟨ad,ha,rfl⟩
   have h2:=(oB.block _ ⟨ad,ha,rfl⟩).2
   obtain⟨w1,w2⟩:=rowB i rs[i] ords[i] (Kg hir) (Kg hi)
   refine⟨ad,rs[i],ha,?_,λa q=>?_,?_,w1.cap⟩
   ·rw[dx (keepB (by rw[bO];exact h1) (by rw[bO];exact h2))]
    simpa using hcl
   ·have h3:=w2 _ ⟨a,q,rfl⟩
    have h4:=(w1.block _ ⟨a,q,rfl⟩).2
    exact⟨by omega,offS _ h3 h4⟩
   ·have:=(w1.ext eBE).mod m123 λb hb u=>by have:=w2 b hb;omega
    exact this.ints
  ·intro t ht;cases ht
  ·intro b hb
   rcases hO b hb with v|v
   ·exact⟨λu=>by have:=hF b u;omega,by omega⟩
   ·exact⟨λu=>by have:=hF b u;omega,by omega⟩
  ·show [B.size,C.size,D.size].Nodup
   simp;omega
  ·intro t ht;cases ht
end
section
variable {H0 A B:aa}{F F':Nat->Prop}{p dp Q U most m c:Nat}{s s':Pl}{M M':aU}{R:ah}{l:Sl}{ll:List Int}
theorem Step.rel {R:ah}(S:Step F F' A B):Step (R.X F) (R.X F') A B:=S.fg (λ_ u=>.inl u) λb u=>u.elim .inr λv=>.inl (.inr v)
theorem jB (q:aE):q.rows=q.aH 0:=by
 unfold aE.rows aE.aH
 cases q.ts<;>rfl
set_option maxHeartbeats 1000000 in
theorem nF {w:Nat}{K:(Bool×Int)->aa->Prop}(h:eS H0 A F p dp s M Q U most m c R)(hg:Gl H0)(hpw:Pw H0)(hF:R.Fit)(hQ:Q<=1048576)(hm:m+4000000<=30000000000)(hw:∀i,((R.get 2).aH i).length<=w)(hw4:w<=400)(hq:U+R.ords.length*(2*w+6)+w+4<Q)(hc:c+R.ords.length<4096)(ho:R.ords.length<=16)(hts:(R.get 2).ts=[]\/(R.get 2).ts.length=R.ords.length)(hex:R.ex=[])(hnb:R.nb=R.next)(hn:R.next+R.ords.length<=1000)
  (hl:Ints .u64 A l ll) (hlo:fL (R.X F) A l) (hll:ll.length=R.W) (ht:∀i (hi:i<R.ords.length),R.ords[i].length<=1000/\(aL ll R.ords[i]).length=R.W/\bQ (aL ll R.ords[i]))
  (hK0:(∃q∈R.parts,ll∈q.rows)->∀F' s' B,eS H0 B F' p dp s' M Q U most (m+4000000) c R->Step (R.X F) (R.X F') A B->K (false,0) B)
  (hK1:(¬∃q∈R.parts,ll∈q.rows)->∀F' s' M' U' q' nx B,eS H0 B F' p dp s' M' Q U' most (m+4000000) (c+R.ords.length) ((R.put 2 q').dM nx nx)->Ins R.ords ll (R.get 2) q'->U'<=U+R.ords.length*(2*w+6)->nx<=R.next+R.ords.length->Step (R.X F) (ah.X ((R.put 2 q').dM nx nx) F') A B->(∀a,(∀i,a≠cS R.name i)->M' a=M a)->(q'.s=R.e.s\/∀b,ai q'.s b->A.size<=b)->K (true,0) B):wF.sp (aD R.rb) l A K:=by
 refine wF.of ?_
 unfold wF.vc
 refine iE h.rel.row ?_
 refine ax rfl ?_
 simp only[aq,aD,add_add,MD]
 refine ag.ld (c:=af .i64) (i:=2) (x:=(R.W:Int)) h.rel.row rfl ?_
 have hln:=hl.len
 refine ax (by simp;omega) ?_
 refine ag.ld (c:=au) (i:=6) (x:=aD R.f.pb) h.rel.row rfl ?_
 refine ag.ld (c:=au) (i:=7) (x:=aD R.d.pb) h.rel.row rfl ?_
 refine ag.ld (c:=au) (i:=8) (x:=aD R.e.pb) h.rel.row rfl ?_
 refine yp (qs:=[R.f,R.d,R.e]) (X:=F) h.al.al.lt λB sB eB=>?_
 have hB:=h.grow eB
 have S0:Step (R.X F) (R.X F) A B:=Step.bp eB
 have eqs:(m+1000000*[R.f,R.d,R.e].length)=m+3000000:=rfl
 refine Cq (qs:=[R.f,R.d,R.e]) hB.rel hB.al hg hF hQ (by rw[eqs];omega) (λq hq=>hq) sB (hlo.ints hl S0) ((hlo.step S0).mono λb _ u=>.inl u) hll λb F1 s1 C hb p1 r1 S1=>?_
 rw[eqs] at p1
 have S01:=S0.trans (Step.rel (R:=R) S1)
 cases b with
 |true=>
   refine ax rfl ?_
   refine l9 ?_
   exact hK0 (hb.1 rfl) F1 s1 C ⟨p1.later (by omega),r1,h.nW⟩ S01
 |false=>
   refine aT rfl ?_
   refine ag.ld (c:=au) (i:=8) (x:=aD R.e.pb) r1.row rfl ?_
   refine sC (j:=2) (w:=w) ⟨p1,r1,h.nW⟩ hg hpw hF hQ (by omega) hw hw4 hq hc ho hts hex hnb hn (hlo.ints hl S01) (hlo.step S01) ht λF2 s2 M2 U2 q2 nx D p2 I2 hU2 hnx S2 hM2 hs2=>?_
   refine l9 ?_
   exact hK1 (λu=>by have:=hb.2 u;cases this) F2 s2 M2 U2 q2 nx D ⟨p2.al.later (by omega),p2.rel,p2.nW⟩ I2 hU2 hnx (S01.trans S2) hM2 (hs2.imp id λu b hb=>K4 S01.mod.size (u b hb))
def ah.dv (R:ah)(nb:Nat):ah:=⟨R.rb,R.name,R.W,R.os,R.ords,R.f,R.e,⟨nb,Sl.mk none 0 0,[]⟩,R.ex,R.next,R.nb,R.turns+1⟩
theorem ah.kg {nb b:Nat}(u:(R.dv nb).O b):R.O b\/b=nb:=by
 rcases u with u|⟨q,hq,u⟩|⟨t,ht,u⟩
 ·exact .inl (.inl u)
 ·unfold ah.parts ah.dv at hq
  simp only[Ku,KN,or_false] at hq
  rcases hq with rfl|rfl|rfl
  ·exact .inl (.inr (.inl ⟨_,by simp[ah.parts],u⟩))
  ·exact .inl (.inr (.inl ⟨_,by simp[ah.parts],u⟩))
  ·exact .inr u
 ·refine .inl (.inr (.inr ⟨t,?_,u⟩))
  unfold ah.all ah.dv at ht
  unfold ah.all
  simp only[Kk,KN,false_or] at ht ⊢
  rcases ht with v|v|v
  ·exact .inl v
  ·exact .inr (.inr (.inl v))
  ·exact .inr (.inr (.inr v))
theorem aO.dv {nb:Nat}(h:aO H0 A F p M R)(hd:R.d.ts=[])(hF:∀b,F b->b<A.size)(hz:H0.size<=A.size)(hnb:A.size<=nb)(r:ag B R.rb EJ (ju p (R.dv nb)))(rn:ag B nb AI (gk R.rb (Sl.mk none 0 0)))(mm:Mod (λb=>b=R.rb) A B):aO H0 B F p M (R.dv nb):=by
 have hall:(R.dv nb).all=R.all:=by
  unfold ah.all ah.dv
  simp only[hd,LN]
 have S':Step (R.X F) ((R.dv nb).X F) A B:=⟨mm.mono λb _ u=>.inr (.inl u),λb u=>by
  rcases u with u|u
  ·exact .inl (.inl u)
  ·rcases R.kg u with v|v
   ·exact .inl (.inr v)
   ·exact .inr (by omega)⟩
 have same:∀b,R.O b->b≠R.rb->B[b]?=A[b]?:=λb hb e=>mm.same b (h.lt b hb) e
 have part:∀q∈R.parts,ag B q.pb AI (gk R.rb q.s)/\ia ((R.dv nb).X F) B q.s (l6 q.ts):=λq hq=>⟨(same _ (.inr (.inl ⟨q,hq,rfl⟩)) (h.HE hq)).trans (h.pt q hq).1,(h.pt q hq).2.step S'⟩
 have mf:R.f∈R.parts:=by simp[ah.parts]
 have md:R.d∈R.parts:=by simp[ah.parts]
 have me:R.e∈R.parts:=by simp[ah.parts]
 have lf:=h.lt _ (.inr (.inl ⟨_,mf,rfl⟩))
 have le:=h.lt _ (.inr (.inl ⟨_,me,rfl⟩))
 have hnd:[R.f.pb,R.d.pb,R.e.pb].Nodup:=h.pbs
 simp only[Lw,Ku,KN,or_false,not_or] at hnd
 refine⟨r,λq hq=>?_,h.ords.step S',λt ht=>?_,λb hb=>?_,?_,by rw[hall];exact h.ks,by rw[hall];exact h.ns,by rw[hall];exact h.nms,by rw[hall];exact h.free⟩
 ·unfold ah.parts ah.dv at hq
  simp only[Ku,KN,or_false] at hq
  rcases hq with rfl|rfl|rfl
  ·exact part _ mf
  ·exact part _ me
  ·exact⟨rn,ia.nil _ _⟩
 ·rw[hall] at ht
  exact(h.tr t ht).aA (same _ (.inr (.inr ⟨t,ht,rfl⟩)) (h.Dn ht h.row (by decide))) rfl
 ·rcases R.kg hb with v|v
  ·exact h.off b v
  ·exact⟨λu=>by have:=hF b u;omega,by omega⟩
 ·show [R.f.pb,R.e.pb,nb].Nodup
  simp only[Lw,Ku,KN,or_false,not_or]
  exact⟨⟨hnd.1.2,by omega⟩,by omega,by simp,MF⟩
theorem xk {K:(Int×Int)->aa->Prop}(h:eS H0 A F p dp s M Q U most m c R)(hd:R.d.ts=[])(htu:R.turns<=1000000)
  (hK:∀nb B,eS H0 B F p dp s M Q U most m c (R.dv nb)->Step (R.X F) ((R.dv nb).X F) A B->K ((R.e.rows.length:Int),0) B):ss.sp (aD R.rb) A K:=by
 refine ss.of ?_
 unfold ss.vc
 refine iE h.rel.row ?_
 refine ax rfl ?_
 simp only[aq,aD]
 refine ag.ld (c:=af .i64) (i:=10) (x:=(R.turns:Int)) h.rel.row rfl ?_
 refine ag.st h.rel.row (i:=10) (by simp[ju]) rfl λB rB mB zB=>?_
 rw[aK R.turns (by omega)] at rB
 have rB':=h.rel.cell (nx:=R.next) (tu:=R.turns+1) rB mB
 have md:R.d∈ah.parts {R with next:=R.next,turns:=R.turns+1}:=by simp[ah.parts]
 refine⟨λ_ C=>B=C,?_,?_⟩
 ·refine ag.ld (c:=au) (i:=7) (x:=aD R.d.pb) rB'.row rfl ?_
  simp only[aq,aD]
  obtain⟨rp,sp⟩:=rB'.pt _ md
  refine ag.ld (c:=ao) (i:=1) (x:=R.d.s) rp rfl ?_
  have hsn:=sp.len
  rw[hd] at hsn
  exact ax (by rw[hsn];rfl) trivial
 rintro _ _ rfl
 refine⟨Ext B,.refl _ _,?_⟩
 refine ag.cP (c:=au) (i:=8) (x:=aD R.e.pb) (cs:=λ_=>ju p {R with next:=R.next,turns:=R.turns+1}) (λD hD=>rB'.row.ext hD) (λ_ _=>rfl) ?_
 refine mw λC zC rC eC=>⟨eC,?_⟩
 have r1:=rB'.row.ext eC
 refine ag.st r1 (i:=7) (by simp[ju]) rfl λD rD mD zD=>?_
 refine ag.st rD (i:=8) (by simp[ju]) rfl λE rE mE zE=>?_
 have hpl:=h.al.al.lt
 have hFr:∀b,F b->b≠R.rb:=λb hb e=>(h.rel.off _ (.inl rfl)).1 (e▸hb)
 have mCE:Mod (λb=>b=R.rb) C E:=mD.trans mE
 have hrl:=h.rel.lt _ (.inl rfl)
 have hoff:=(h.rel.off _ (.inl rfl)).2
 have mAE:Mod (λb=>b=R.rb) A E:=(mB.trans eC.mod).trans mCE
 have rel:aO H0 E F p M (R.dv B.size):=by
  refine aO.dv (A:=A) h.rel hd hpl h.al.ext.size (by omega) rE (rC.mod mCE (by omega)) mAE
 have al:aJ H0 E F p dp s M Q U most m:=h.al.aside ⟨by have:=h.al.ext.size;have:=mAE.size;omega,λb hb _=>(mAE.same b (by have:=h.al.ext.size;omega) (by omega)).trans (h.al.ext.same b hb id)⟩ λb hb=>mAE.same b (hpl b hb) (hFr b hb)
 refine ag.ld (c:=au) (i:=7) (x:=aD R.e.pb) rel.row rfl ?_
 refine ng (q:=R.e) rel (by simp[ah.parts,ah.dv]) ?_
 refine hK B.size E ⟨al,rel,h.nW⟩ ⟨mAE.mono λb _ u=>.inr (.inl u),λb u=>?_⟩
 rcases u with u|u
 ·exact .inl (.inl u)
 ·rcases R.kg u with v|v
  ·exact .inl (.inr v)
  ·exact .inr (by omega)
end
section
variable {H0 A B:aa}{F F':Nat->Prop}{p dp Q U most m c:Nat}{s s':Pl}{M M':aU}{R:ah}{l:Sl}{ll:List Int}
theorem Ints.take {k:IntKind}{l:Sl}{x:List Int}(h:Ints k A l x){i:Nat}(hi:i<=x.length):Ints k A ⟨bw l.a l.c 0 1,i - 0,l.c - 0⟩ (x.take i):=by
 rw[fS]
 refine⟨by rw[KF];show i - 0=_;omega,?_⟩
 rw[List.map_take]
 exact h.reads.take i
theorem sg {l:Sl}{x:List Int}{v:Int}{K:Int->aa->Prop}(h:Ints .i64 A l x)(hl:x.length<=1000000)(hK1:∀i,i<x.length->x.getD i 0=v->(∀j,j<i->x.getD j 0≠v)->K (i:Int) A)(hK0:v∉x->K (-1) A):EZ.sp l v A K:=by
 refine EZ.of ?_
 unfold EZ.vc
 have hn:=h.len
 refine av x.length (λi z B=>z=(i:Int)/\A=B/\∀j,j<i->x.getD j 0≠v) ⟨rfl,rfl,λj hj=>by omega⟩ ?_
 rintro i _ _ next hi ⟨rfl,rfl,hno⟩ hnext
 refine ak (λhc=>?_) (λhc=>?_)
 ·have hlt:i<x.length:=by
   have:(i:Int)<(l.n:Int):=by simpa using hc
   omega
  refine bB h (i:=(i:Int)) (j:=i) rfl hlt λad _=>?_
  refine ak (λhe=>?_) (λhe=>?_)
  ·have he:v=x.getD i 0:=by simpa using he
   exact hK1 i hlt he.symm hno
  ·have he:v≠x.getD i 0:=by simpa using he
   refine hnext hlt _ _ ⟨aK i (by omega),rfl,λj hj=>?_⟩
   by_cases e:j=i
   ·subst e;exact λq=>he q.symm
   ·exact hno j (by omega)
 ·have hge:i=x.length:=by
   have:¬(i:Int)<(l.n:Int):=by simpa using hc
   omega
  subst hge
  refine hK0 λu=>?_
  obtain⟨j,hj⟩:=Ko.1 u
  have hlt:=(Kj.1 hj).1
  exact hno j hlt (by simp[KQ,hj])
theorem mq {l:Sl}{x:List Int}{v:Int}{K:Bool->aa->Prop}(h:Ints .i64 A l x)(hl:x.length<=1000000)(hK:K (decide (v∈x)) A):Ec.sp l v A K:=by
 refine Ec.of ?_
 unfold Ec.vc
 refine sg h hl (λi hi e _=>?_) (λhno=>?_)
 ·have hm:v∈x:=by
   rw[<-e,KQ,Kg hi]
   exact Kt hi
  rw[decide_eq_true hm] at hK
  rw[decide_eq_true (show (i:Int)>=0 by omega)]
  exact hK
 ·rw[decide_eq_false hno] at hK
  rw[decide_eq_false (by decide)]
  exact hK
def dX (cl o:List Int):Bool:=(o.take cl.length).all λc=>decide (c∈cl)
theorem GQ {cols:Sl}{cl:List Int}{K:(Int×Bool)->aa->Prop}(h:aO H0 A F p M R)(hc:Ints .i64 A cols cl)(hcl:∀o∈R.ords,cl.length<=o.length)(hl:cl.length<=1000)(ho:R.ords.length<=16)
  (hK1:∀i (hi:i<R.ords.length),dX cl R.ords[i]=true->(∀j (hj:j<i),dX cl (R.ords[j]'(by omega))=false)->K ((i:Int),true) A) (hK0:(∀o∈R.ords,dX cl o=false)->K (0,false) A):Fo.sp (aD R.rb) cols A K:=by
 refine Fo.of ?_
 unfold Fo.vc
 simp only[aq,aD,add_add,MD]
 refine ag.ld (c:=ao) (i:=3) (x:=R.os) h.row rfl ?_
 have hon:=h.ords.len
 have hcn:=hc.len
 refine av R.ords.length (λi z B=>z=(i:Int)/\A=B/\∀j (hj:j<R.ords.length),j<i->dX cl R.ords[j]=false) ⟨rfl,rfl,λj _ hj=>by omega⟩ ?_
 rintro i _ _ next hi ⟨rfl,rfl,hno⟩ hnext
 refine ak (λhcd=>?_) (λhcd=>?_)
 ·have hlt:i<R.ords.length:=by
   have:(i:Int)<(R.os.n:Int):=by simpa using hcd
   omega
  refine h.ords.ld hlt rfl λad r _ _ hr hcap=>?_
  have hm:=hcl _ (Kt hlt)
  have hrn:=hr.len
  refine⟨⟨by omega,by omega⟩,?_⟩
  have ht:=hr.take (i:=cl.length) hm
  have en:((cols.n:Int).toNat) - 0=cl.length - 0:=by omega
  rw[en]
  have hlen:(R.ords[i].take cl.length).length=cl.length:=by rw[KF];omega
  refine av cl.length (λk z B=>z=(k:Int)/\A=B/\((R.ords[i].take cl.length).take k).all (λc=>decide (c∈cl))=true) ⟨rfl,rfl,by simp⟩ ?_
  rintro k _ _ next1 hk ⟨rfl,rfl,hall⟩ hnext1
  refine ak (λhcd2=>?_) (λhcd2=>?_)
  ·have hkl:k<cl.length:=by
    have:(k:Int)<((cl.length - 0:Nat):Int):=by simpa using hcd2
    omega
   refine bB ht (i:=(k:Int)) (j:=k) rfl (by omega) λad2 _=>?_
   have e1:(R.ords[i].take cl.length).take (k+1)=(R.ords[i].take cl.length).take k++[(R.ords[i].take cl.length).getD k 0]:=by
    rw[Mv,Kg (by omega)];simp[KQ,Kg (show k<(R.ords[i].take cl.length).length by omega)]
   refine mq hc (by omega) ?_
   refine ak (λhb=>?_) (λhb=>?_)
   ·have hb:(R.ords[i].take cl.length).getD k 0∉cl:=by simpa using hb
    refine hnext hlt _ _ ⟨aK i (by omega),rfl,λj hj hji=>?_⟩
    by_cases e:j=i
    ·subst e
     unfold dX
     rw[List.all_eq_false]
     refine⟨(R.ords[j].take cl.length).getD k 0,?_,by simpa using hb⟩
     rw[KQ,Kg (by omega)]
     exact Kt _
    ·exact hno j hj (by omega)
   ·have hb:(R.ords[i].take cl.length).getD k 0∈cl:=by simpa using hb
    refine hnext1 hkl _ _ ⟨aK k (by omega),rfl,?_⟩
    rw[e1,List.all_append,hall]
    simp only[List.all_cons,List.all_nil,Bool.and_true,Bool.true_and]
    exact decide_eq_true hb
  ·have hge:k=cl.length:=by
    have:¬(k:Int)<((cl.length - 0:Nat):Int):=by simpa using hcd2
    omega
   subst hge
   rw[MR,RW] at hall
   exact hK1 i hlt hall λj hj=>hno j (by omega) hj
 ·have hge:i=R.ords.length:=by
   have:¬(i:Int)<(R.os.n:Int):=by simpa using hcd
   omega
  subst hge
  refine hK0 λo ho=>?_
  obtain⟨j,hj⟩:=Ko.1 ho
  have hlt:=(Kj.1 hj).1
  have:=hno j hlt hlt
  rw[Kg hlt] at hj
  rw[<-Kq hj];exact this
end
structure TC where
 t:Tx
 cb:Nat
 lo:Sl
 ll:List Int
 strict:Bool
structure bc where
 cb:Nat
 order:Nat
 low:Sl
 lowL:List Int
 cols:Sl
 colsL:List Int
 words:Sl
 wordsL:List Int
 fr:Sl
 tcs:List TC
 bn:Sl
 hs:List (Sl×Option (List Int))
 turns:Nat
 begun:Bool
 ext:Nat->Prop
def iI (rb order:Nat)(low cols words fr bn:Sl)(turns:Nat)(bad begun:Bool):Array Value:=#[.pointer (some ⟨rb,0,none⟩),.int .i64 order,low.v,cols.v,words.v,fr.v,bn.v,.int .i64 turns,.bool bad,.bool begun]
def bc.pa (C:bc)(b:Nat):Prop:=b=C.cb\/(∃t∈C.tcs,b=t.cb)\/ai C.bn b\/C.ext b
def bc.Z (C:bc)(F:Nat->Prop)(b:Nat):Prop:=F b\/C.pa b
def bc.rI (C:bc)(b:Nat):Prop:=b=C.cb\/(∃t∈C.tcs,b=t.cb)\/ai C.bn b
def bc.Z0 (C:bc)(F:Nat->Prop)(b:Nat):Prop:=F b\/C.rI b
theorem bc.xz {C:bc}{b:Nat}(u:C.rI b):C.pa b:=by
 rcases u with u|u|u
 ·exact .inl u
 ·exact .inr (.inl u)
 ·exact .inr (.inr (.inl u))
theorem bc.An {C:bc}{b:Nat}(u:C.pa b):C.rI b\/C.ext b:=by
 rcases u with u|u|u|u
 ·exact .inl (.inl u)
 ·exact .inl (.inr (.inl u))
 ·exact .inl (.inr (.inr u))
 ·exact .inr u
theorem Step.full {R:ah}{C C':bc}{F F':Nat->Prop}{A B:aa}(S:Step (R.X (C.Z0 F)) (R.X (C'.Z0 F')) A B)(e:C'.ext=C.ext):Step (R.X (C.Z F)) (R.X (C'.Z F')) A B:=S.fg (λb u=>by
  rcases u with (u|u)|u
  ·exact .inl (.inl u)
  ·exact .inl (.inr (bc.xz u))
  ·exact .inr u) λb u=>by
  rcases u with (u|u)|u
  ·exact .inr (.inl (.inl u))
  ·rcases bc.An u with v|v
   ·exact .inr (.inl (.inr v))
   ·exact .inl (.inl (.inr (.inr (.inr (.inr (e▸v))))))
  ·exact .inr (.inr u)
def pU (Y:Nat->Prop)(A:aa)(h:Sl×Option (List Int)):Prop:=(h.2=none->h.1.a=none)/\∀y,h.2=some y->h.1.a≠none/\Ints .u64 A h.1 y/\fL Y A h.1
structure cp (H0 A:aa)(F:Nat->Prop)(p:Nat)(M:aU)(R:ah)(C:bc):Prop where
 rel:aO H0 A (C.Z F) p M R
 row:ag A C.cb Dp (iI R.rb C.order C.low C.cols C.words C.fr C.bn C.turns false C.begun)
 low:Ints .u64 A C.low C.lowL/\fL (R.X (C.Z F)) A C.low
 cols:Ints .i64 A C.cols C.colsL/\fL (R.X (C.Z F)) A C.cols
 words:Ints .u64 A C.words C.wordsL/\fL (R.X (C.Z F)) A C.words
 fr:ia (R.X (C.Z F)) A C.fr (C.tcs.map λt=>bX t.cb)
 tc:∀t∈C.tcs,t.t∈R.all/\iu A F t.t.k t.cb t.lo t.ll t.strict/\fL (R.X (C.Z F)) A t.lo
 hd:az A 0 dn 1 C.bn (C.hs.map λh=>h.1.v)
 hr:∀h∈C.hs,pU (R.X (C.Z F)) A h
 cbs:(C.tcs.map (·.cb)).Nodup
 off:∀b,C.pa b->¬F b/\H0.size<=b
 ext:∀b,C.ext b->b<A.size
 sep:∀b,C.ext b->¬C.rI b
section
variable {H0 A B D:aa}{F F' X:Nat->Prop}{p dp Q U most m c k cb:Nat}{s s':Pl}{M M':aU}{R:ah}{l lo:Sl}{ll:List Int}{strict:Bool}
theorem iu.mod (h:iu A F k cb lo ll strict)(mm:Mod X A B)(h1:¬X cb)(h2:∀b,ai lo b->¬X b):iu B F k cb lo ll strict:=
 ⟨h.row.mod mm h1,h.ints.mod mm λad ha=>h2 _ ⟨ad,ha,rfl⟩,λad ha=>⟨K9 (h.off ad ha).1 mm.size,(h.off ad ha).2⟩,h.cb⟩
theorem nJ {K:Option Addr->aa->Prop}(hl:Ints .u64 A l ll)(hlen:ll.length<=17592186044416)(hF:∀b,F b->b<A.size)(hkl:k<A.size)
  (hK:∀B cb lo,Ext A B->iu B F k cb lo ll false->A.size<=cb->cb<B.size->(∀b,ai lo b->A.size<=b/\b≠cb)->K (aD cb) B):Dr.sp (aD k) l A K:=by
 refine Dr.of ?_
 unfold Dr.vc
 refine ax rfl ?_
 refine kJ hl hlen λcl H1 o1 e1 f1=>?_
 refine ar λH2 z2 r2 e2=>?_
 have hz:=e1.size
 refine hK H2 H1.size cl (e1.trans e2) ⟨r2,(o1.ext e2).ints,λad ha=>?_,λu=>by have:=hF _ u;omega,by omega⟩ (by omega) (by omega) λb hb=>⟨f1 b hb,by have:=(o1.block b hb).2;omega⟩
 have h1:=(o1.block _ ⟨ad,ha,rfl⟩).2
 have h2:=f1 _ ⟨ad,ha,rfl⟩
 exact⟨by omega,λu=>by
  rcases u with u|u|u
  ·have:=hF _ u;omega
  ·omega
  ·omega⟩
theorem aO.fresh (h:aO H0 A F p M R)(e:Ext A B)(hX:∀b,X b->A.size<=b):aO H0 B (λb=>F b\/X b) p M R:=
 h.aside ⟨e.mod,λb u=>by
  rcases u with (u|u)|u
  ·exact .inl (.inl u)
  ·exact .inr (hX b u)
  ·exact .inl (.inr u)⟩ (λb hb=>⟨e.same b (h.lt b hb) id,λu=>u.elim (h.off b hb).1 λv=>by have:=hX b v;have:=h.lt b hb;omega⟩) (λ_ _=>rfl) h.free
theorem jM.old {X:Nat->Prop}{os:Sl}{ls:List (List Int)}(h:jM X A os ls)(e:Ext A B):jM (λb=>A.size<=b) B os ls:=
 jM.step (X:=λb=>A.size<=b) (A:=A) ⟨h.len,λad ha=>⟨(h.off ad ha).1,by have:=(h.off ad ha).1;omega⟩,λi hi=>by
  obtain⟨ad,r,q1,q2,q3,q4,q5⟩:=h.at' i hi
  exact⟨ad,r,q1,q2,λa ha=>⟨(q3 a ha).1,by have:=(q3 a ha).1;omega⟩,q4,q5⟩⟩ ⟨e.mod,λ_ u=>.inl u⟩
def fC (cl wl:List Int)(x:Int):Int:=wl.getD (cl.findIdx (·==x)) 0
theorem G8:El Kf Fu Ia 8 (.pointer none):=nL (zb:=tX) sW rfl (by kernel_rfl)
set_option maxHeartbeats 4000000 in
theorem pd {V:Nat->Prop}{n:Int}{cols words:Sl}{cl wl:List Int}{K:Option Addr->aa->Prop}(h:eS H0 A F p dp s M Q U most m c R)(hE:∀b,V b->b<A.size/\¬F b/\H0.size<=b)(hrel:aO H0 A (λb=>F b\/V b) p M R)(hn:R.asked n≠[])(hF:R.Fit)(ho:R.ords.length<=16)(h1:1<=R.ords.length)(hord:∀o∈R.ords,o.length=R.W)
  (hc:Ints .i64 A cols cl) (hcc:cols.n<=cols.c) (hw:Ints .u64 A words wl) (hwl:wl.length=cl.length) (hcl:∀x∈cl,0<=x/\x<(R.W:Int)) (hnd:cl.Nodup) (hclW:cl.length<=R.W) (hts:∀q∈R.asked n,q.ts=[]\/q.ts.length=R.ords.length)
  (hK:∀C B,cp H0 B F p M R C->Ext A B->(∀b,C.pa b->A.size<=b\/V b)->C.ext=V->C.colsL=cl->C.wordsL=wl->C.turns=R.turns->C.begun=false->C.hs=[]->C.bn=Sl.mk none 0 0->C.order<R.ords.length->
   (dX cl (R.ords.getD C.order [])=true/\(∀j,j<C.order->dX cl (R.ords.getD j [])=false)/\C.lowL=((R.ords.getD C.order []).take cl.length).map (fC cl wl)\/(∀o∈R.ords,dX cl o=false)/\C.order=0/\C.lowL=[])->
   C.tcs.map (·.t)=(R.asked n).filterMap (λq=>q.ts[C.order]?)->(∀t∈C.tcs,t.ll=C.lowL/\t.strict=false)->K (aD C.cb) B):Ew.sp (aD R.rb) n cols words A K:=by
 refine Ew.of ?_
 unfold Ew.vc
 refine ax rfl ⟨Ext A,.refl _ _,?_⟩
 have hW:=hF.W
 refine p9 hc (by omega) λcc H1 o1 e1 f1=>⟨e1,?_⟩
 refine kJ (hw.ext e1) (by omega) λwc H2 o2 e2 f2=>⟨e1.trans e2,?_⟩
 simp only[aq,aD]
 refine ag.cP (c:=af .i64) (i:=10) (x:=(R.turns:Int)) (cs:=λ_=>ju p R) (λD hD=>h.rel.row.ext hD) (λ_ _=>rfl) ?_
 refine ar λH3 z3 r3 e3=>?_
 obtain⟨cb,hcb⟩:∃cb,cb=H2.size:=⟨_,rfl⟩
 rw[<-hcb] at r3 ⊢
 have e13:=(e1.trans e2).trans e3
 have hlt:=h.I7
 have z1:=e1.size
 have z2:=e2.size
 refine vt (X:=λb=>b=cb) (h.rel.grow e13) (λb u=>by omega) λps D hps hnone eD=>?_
 have eAD:=e13.trans eD
 have zD:=eD.size
 have hpn:=hps.len
 rw[KM] at hpn
 have hqs:=R.ke n
 have hql:(R.asked n).length<=1000000:=by unfold ah.asked;split<;>(try split)<;>(try split)<;>simp
 generalize R.asked n=qs at*
 have rD:=r3.ext eD
 have rel:∀{B:aa},Mod (λb=>b=cb) D B->Ext A B:=λ{B} mm=>⟨by have:=mm.size;omega,λb hb _=>by rw[mm.same b (by omega) (by omega)];exact eAD.same b hb id⟩
 have hcn:=hc.len
 have hwn:=hw.len
 refine⟨λ_ B=>ag B cb Dp (iI R.rb 0 (Sl.mk none 0 0) cc wc (Sl.mk none 0 0) (Sl.mk none 0 0) R.turns false false)/\Mod (λb=>b=cb) D B,?_,?_⟩
 ·refine ax ?_ ?_
  ·have:ps.a.isNone=false:=by
    cases hp:ps.a.isNone with
    |true=>exact absurd (hnone.1 hp) hn
    |false=>rfl
   rw[this];simp;omega
  ·simp only[aq,add_add,MD]
   refine ag.ld (c:=af .i64) (i:=2) (x:=(R.W:Int)) (h.rel.grow eAD).row rfl ?_
   have:decide ((cols.n:Int)>(R.W:Int))=false:=by simp;omega
   rw[this]
   exact ag.st rD (i:=8) (by simp) rfl λB rB mB zB=>⟨rB,mB⟩
 rintro _ B0 ⟨r0,m0⟩
 refine av cl.length (λi z B=>z=(i:Int)/\ag B cb Dp (iI R.rb 0 (Sl.mk none 0 0) cc wc (Sl.mk none 0 0) (Sl.mk none 0 0) R.turns false false)/\Mod (λb=>b=cb) D B) ⟨rfl,r0,m0⟩ ?_
 rintro i _ B next hi ⟨rfl,rB,mB⟩ hnext
 have eB:=rel mB
 refine ak (λhcd=>?_) (λhcd=>?_)
 ·have hil:i<cl.length:=by
   have:(i:Int)<(cols.n:Int):=by simpa using hcd
   omega
  refine bB (hc.ext eB) (i:=(i:Int)) (j:=i) rfl hil λad _=>?_
  have hx:cl.getD i 0=cl[i]:=by simp[KQ,Kg hil]
  obtain⟨x0,x1⟩:=hcl _ (Kt hil)
  rw[hx]
  refine ag.ld (c:=aw) (i:=8) (x:=false) rB rfl ?_
  refine ax (by simp;omega) ?_
  simp only[aq,add_add,MD]
  refine ag.ld (c:=af .i64) (i:=2) (x:=(R.W:Int)) (h.rel.grow eB).row rfl ?_
  refine ax (by simp;omega) ⟨⟨by omega,by omega⟩,?_⟩
  rw[KI]
  refine mq ((hc.ext eB).take (by omega)) (by rw[KF];omega) ?_
  have hno:cl[i]∉cl.take i:=λu=>by
   obtain⟨j,hj⟩:=Ko.1 u
   have hjl:=(Kj.1 hj).1
   rw[KF] at hjl
   rw[Lh,if_pos (by omega)] at hj
   have:=(LH (l:=cl) (i:=j) (j:=i) (by omega) hnd).1 (by rw[hj,Kg hil])
   omega
  rw[decide_eq_false hno]
  refine ag.st rB (i:=8) (by simp[iI]) rfl λC rC mC zC=>?_
  exact hnext hil _ _ ⟨aK i (by omega),rC,mB.trans mC⟩
 clear hnext next hi hcd
 refine ag.ld (c:=aw) (i:=8) (x:=false) rB rfl ?_
 refine ax rfl ?_
 have relB:=h.rel.grow eB
 -- behind the order
 have tail:∀o:Nat,o<R.ords.length->∀(E:aa) (low:Sl) (lowL:List Int),ag E cb Dp (iI R.rb o low cc wc (Sl.mk none 0 0) (Sl.mk none 0 0) R.turns false false)->Mod (λb=>b=cb) D E->Ints .u64 E low lowL->lowL.length<=1000->(∀b,ai low b->D.size<=b/\b<E.size)->
   (dX cl (R.ords.getD o [])=true/\(∀j,j<o->dX cl (R.ords.getD j [])=false)/\lowL=((R.ords.getD o []).take cl.length).map (fC cl wl)\/(∀x∈R.ords,dX cl x=false)/\o=0/\lowL=[])->
   aI Int (0:Int) E λnext_2 z_4 H21=>br (decide (z_4<(ps.n:Int))) (ae ps.a λa_8=>(0<=z_4/\z_4<(ps.n:Int))/\Go.Proofs.YtkehfflpbpdokaaGreatDoor.ld au H21 (a_8.add (z_4.toNat*1)) λ(t:Option Addr)=>ae t λa_9=>Go.Proofs.YtkehfflpbpdokaaGreatDoor.ld ao H21 (a_9.add 1) λ(x_11:Sl)=>br (decide ((x_11.n:Int)>(0:Int))) (∃G_2:aa->Prop,G_2 H21/\cP ao G_2 (K0 ⟨cb,0,none⟩ 5) λ(x_12:Sl)=>ae t λa_10=>Go.Proofs.YtkehfflpbpdokaaGreatDoor.ld ao H21 (a_10.add 1) λ(x_13:Sl)=>ae x_13.a λa_11=>(0<=(o:Int)/\(o:Int)<(x_13.n:Int))/\Go.Proofs.YtkehfflpbpdokaaGreatDoor.ld au H21 (a_11.add ((o:Int).toNat*1)) λ(x_14:Option Addr)=>cP ao G_2 (K0 ⟨cb,0,none⟩ 2) λ(x_15:Sl)=>Dr.sp x_14 x_15 H21 λ(r_6:Option Addr) H22=>G_2 H22/\aM H22 #[(.pointer r_6)] Ia λp_1 H23=>G_2 H23/\bo ao Kf (Ks #[Fu,Fu] Fu #[x_12.v,(.slice (some p_1) 1 1)]) H23 λ(s_1:Sl) H24=>st H24 (K0 ⟨cb,0,none⟩ 5) s_1.v λH25=>next_2 (Ke.wrap (z_4+(1:Int))) H25) (next_2 (Ke.wrap (z_4+(1:Int))) H21)) (K (some ⟨cb,0,none⟩) H21):=by
  intro o hol E low lowL rE mE hlow hll hlb hcond
  have eE:=rel mE
  have zE:=mE.size
  refine av qs.length (λi z B=>z=(i:Int)/\∃(fr:Sl) (tcs:List TC),ag B cb Dp (iI R.rb o low cc wc fr (Sl.mk none 0 0) R.turns false false)/\Mod (λb=>b=cb) E B/\az B 0 Ia 1 fr (tcs.map λt:TC=>bX t.cb)/\(∀b,ai fr b->E.size<=b)/\tcs.map (·.t)=(qs.take i).filterMap (λq=>q.ts[o]?)/\
   (∀t∈tcs,iu B F t.t.k t.cb t.lo lowL false/\t.ll=lowL/\t.strict=false/\E.size<=t.cb/\(∀b,ai t.lo b->E.size<=b)/\(∀b,ai fr b->b≠t.cb/\¬ai t.lo b)/\∀u∈tcs,¬ai t.lo u.cb)/\(tcs.map (·.cb)).Nodup) ⟨rfl,Sl.mk none 0 0,[],rE,.refl _ _,az.nil _ _ _ _,λb u=>(by obtain⟨ad,ha,_⟩:=u;cases ha),rfl,λt ht=>(by cases ht),MF⟩ ?_
  rintro i _ B next hi ⟨rfl,fr,tcs,rB,mB,oB,fB,hmap,htc,hcbs⟩ hnext
  have mDB:=mE.trans mB
  have eB:=rel mDB
  have zB:=mB.size
  have relB:=h.rel.grow eB
  have hFl:∀b,F b->b<B.size:=λb u=>by have:=h.al.al.lt b u;have:=eB.size;omega
  have tcl:∀t∈tcs,t.cb<B.size/\∀b,ai t.lo b->b<B.size:=λt ht=>by
   have hcu:=(htc t ht).1
   exact⟨aG hcu.row,λb ⟨ad,ha,e⟩=>e▸(hcu.off ad ha).1⟩
  have frl:∀b,ai fr b->b<B.size:=λb hb=>(oB.block b hb).2
  have hlowB:Ints .u64 B low lowL:=hlow.mod mB λad ha u=>by have:=(hlb _ ⟨ad,ha,rfl⟩).1;omega
  refine ak (λhcd=>?_) (λhcd=>?_)
  ·have hil:i<qs.length:=by
    have:(i:Int)<(ps.n:Int):=by simpa using hcd
    omega
   have hSp:Step (λb=>b=cb) (λb=>b=cb) D B:=⟨mDB,λ_ u=>.inl u⟩
   refine ia.ld (c:=au) (x:=aD qs[i].pb) (i:=i) (hps.step hSp) (by rw[KC,Kg hil];rfl) rfl λad _=>?_
   have hqi:=hqs _ (Kt hil)
   obtain⟨rp,sp⟩:=relB.pt _ hqi
   have hspn:=sp.len
   unfold l6 at hspn
   rw[KM] at hspn
   have htk:qs.take (i+1)=qs.take i++[qs[i]]:=by rw[Mv,Kg hil];rfl
   simp only[aq,aD]
   refine ag.ld (c:=ao) (i:=1) (x:=qs[i].s) rp rfl ?_
   refine ak (λhb=>?_) (λhb=>?_)
   ·have hpos:((qs[i].s.n:Nat):Int)>0:=by simpa using hb
    have hlen:qs[i].ts.length=R.ords.length:=(hts _ (Kt hil)).resolve_left λe=>by rw[e] at hspn;simp at hspn;omega
    have hot:o<qs[i].ts.length:=by omega
    have hto:qs[i].ts[o]?=some qs[i].ts[o]:=Kg hot
    have hta:qs[i].ts[o]∈R.all:=ah.cI hqi _ (Kt hot)
    refine⟨Ext B,.refl _ _,?_⟩
    refine ag.cP (c:=ao) (i:=5) (x:=fr) (cs:=λ_=>iI R.rb o low cc wc fr (Sl.mk none 0 0) R.turns false false) (λD hD=>rB.ext hD) (λ_ _=>rfl) ?_
    refine ag.ld (c:=ao) (i:=1) (x:=qs[i].s) rp rfl ?_
    refine ia.ld (c:=au) (x:=aD qs[i].ts[o].k) (i:=o) sp (tZ hto) rfl λad2 _=>?_
    refine ag.cP (c:=ao) (i:=2) (x:=low) (cs:=λ_=>iI R.rb o low cc wc fr (Sl.mk none 0 0) R.turns false false) (λD hD=>rB.ext hD) (λ_ _=>rfl) ?_
    refine nJ hlowB (by omega) hFl (relB.tr _ hta).lt λC tb lo eC curC htb1 htb2 hlo=>⟨eC,?_⟩
    refine⟨eC.trans (Mod.push (λ_=>False) C (.cells #[.pointer (aD tb)] Ia)),?_⟩
    have zC:=eC.size
    have hfn:fr.n=tcs.length:=by have:=oB.1;simp at this;omega
    have htl:tcs.length<=qs.length:=by
     have:=congrArg NH hmap
     rw[KM] at this
     have h2:=QD (λq:aE=>q.ts[o]?) (qs.take i)
     rw[KF] at h2
     omega
    have key:=G8.push (ty:=Fu) (H:=C) (base:=0) (s:=fr) (xs:=tcs.map λt:TC=>bX t.cb) (v:=.pointer (aD tb)) (oB.ext eC) rfl (by omega) (by omega) (KU _)
     (K:=λs' G=>Go.Proofs.YtkehfflpbpdokaaGreatDoor.st G (K0 ⟨cb,0,none⟩ 5) s'.v λG'=>next (Ke.wrap ((i:Int)+(1:Int))) G')
    refine key λfr' G n' oG mG bG _=>?_
    have zG:=mG.size
    have rG:ag G cb Dp (iI R.rb o low cc wc fr (Sl.mk none 0 0) R.turns false false):=(rB.ext eC).mod mG λu=>by have:=fB _ u;omega
    refine ag.st rG (i:=5) (by simp[iI]) (by cases fr';rfl) λJ rJ mJ zJ=>?_
    have fG:∀b,ai fr' b->E.size<=b:=λb hb=>by
     rcases bG b hb with v|v
     ·exact fB b v
     ·omega
    have frN:∀b,ai fr' b->ai fr b\/C.size<=b:=bG
    have mCJ:Mod (λb=>ai fr b\/b=cb) C J:=(mG.mono λb _ u=>.inl u).trans (mJ.mono λb _ u=>.inr u)
    refine hnext hil _ _ ⟨aK i (by omega),fr',tcs++[⟨qs[i].ts[o],tb,lo,lowL,false⟩],rJ,?_,?_,fG,?_,?_,?_⟩
    ·refine⟨by omega,λb hb hne=>?_⟩
     rw[mCJ.same b (by omega) λu=>u.elim (λv=>by have:=fB b v;omega) hne,eC.same b (by omega) id]
     exact mB.same b hb hne
    ·rw[KX]
     exact oG.mod mJ λb hb u=>by have:=fG b hb;omega
    ·rw[KX,hmap,htk,Rz]
     simp[hto]
    ·intro t ht
     rcases Kk.1 ht with v|v
     ·obtain⟨q1,q2,q3,q4,q5,q6,q7⟩:=htc t v
      obtain⟨l1,l2⟩:=tcl t v
      refine⟨(q1.mod eC id λ_ _=>id).mod mCJ (λu=>u.elim (λw=>(q6 _ w).1 rfl) λw=>by omega) (λb hb u=>u.elim (λw=>(q6 _ w).2 hb) λw=>by have:=q5 b hb;omega),q2,q3,q4,q5,λb hb=>?_,λu hu=>?_⟩
      ·rcases frN b hb with w|w
       ·exact q6 b w
       ·exact⟨by omega,λu=>by have:=l2 b u;omega⟩
      ·rcases Kk.1 hu with w|w
       ·exact q7 u w
       ·have:u=⟨qs[i].ts[o],tb,lo,lowL,false⟩:=by simpa using w
        subst this
        intro x
        have:=l2 _ x
        simp at this
        omega
     ·have:t=⟨qs[i].ts[o],tb,lo,lowL,false⟩:=by simpa using v
      subst this
      refine⟨curC.mod mCJ (λu=>u.elim (λw=>by have:=frl _ w;omega) λw=>by omega) (λb hb u=>u.elim (λw=>by have:=frl _ w;have:=(hlo b hb).1;omega) λw=>by have:=(hlo b hb).1;omega),rfl,rfl,by show E.size<=tb;omega,λb hb=>by have:=(hlo b hb).1;omega,λb hb=>?_,λu hu=>?_⟩
      ·rcases frN b hb with w|w
       ·have:=frl b w
        exact⟨by show b≠tb;omega,λu=>by have:=(hlo b u).1;omega⟩
       ·have hlC:∀x,ai lo x->x<C.size:=λx ⟨ad,ha,e⟩=>e▸(curC.off ad ha).1
        exact⟨by show b≠tb;omega,λu=>by have:=hlC b u;omega⟩
      ·rcases Kk.1 hu with w|w
       ·intro x
        have h1:=(hlo _ x).1
        have h2:=(tcl u w).1
        omega
       ·have:u=⟨qs[i].ts[o],tb,lo,lowL,false⟩:=by simpa using w
        subst this
        exact λx=>(hlo _ x).2 rfl
    ·rw[KX,La]
     refine⟨hcbs,by simp,λa ha b hb e=>?_⟩
     obtain⟨t,ht,rfl⟩:=Kz.1 ha
     have:=(tcl t ht).1
     simp at hb
     omega
   ·have hz:¬((qs[i].s.n:Nat):Int)>0:=by simpa using hb
    have hts0:qs[i].ts=[]:=KY (by omega)
    refine hnext hil _ _ ⟨aK i (by omega),fr,tcs,rB,mB,oB,fB,?_,htc,hcbs⟩
    rw[hmap,htk,Rz]
    simp[hts0]
  ·have hge:i=qs.length:=by
    have:¬(i:Int)<(ps.n:Int):=by simpa using hcd
    omega
   subst hge
   rw[MP] at hmap
   have own:∀b,bc.pa ⟨cb,o,low,lowL,cc,cl,wc,wl,fr,tcs,Sl.mk none 0 0,[],R.turns,false,V⟩ b->b=cb\/(∃t∈tcs,b=t.cb)\/V b:=by
    rintro b (u|u|⟨ad,ha,_⟩|u)
    ·exact .inl u
    ·exact .inr (.inl u)
    ·cases ha
    ·exact .inr (.inr u)
   have ownA:∀b,bc.pa ⟨cb,o,low,lowL,cc,cl,wc,wl,fr,tcs,Sl.mk none 0 0,[],R.turns,false,V⟩ b->A.size<=b\/V b:=λb hb=>by
    rcases own b hb with u|⟨t,ht,u⟩|u
    ·left;omega
    ·left;have:=(htc t ht).2.2.2.1;omega
    ·exact .inr u
   have offY:∀b,A.size<=b->b≠cb->(∀t∈tcs,b≠t.cb)->¬R.X (bc.Z ⟨cb,o,low,lowL,cc,cl,wc,wl,fr,tcs,Sl.mk none 0 0,[],R.turns,false,V⟩ F) b:=by
    rintro b hb1 hb2 hb3 ((u|u)|u)
    ·have:=h.al.al.lt b u;omega
    ·rcases own b u with v|⟨t,ht,v⟩|v
     ·exact hb2 v
     ·exact hb3 t ht v
     ·have:=(hE b v).1;omega
    ·have:=h.rel.lt b u;omega
   have c1:∀b,ai cc b->A.size<=b/\b<H1.size:=λb hb=>⟨f1 b hb,(o1.block b hb).2⟩
   have c2:∀b,ai wc b->H1.size<=b/\b<H2.size:=λb hb=>⟨f2 b hb,(o2.block b hb).2⟩
   have hA0:=h.al.ext.size
   have hZ:aO H0 B (bc.Z ⟨cb,o,low,lowL,cc,cl,wc,wl,fr,tcs,Sl.mk none 0 0,[],R.turns,false,V⟩ F) p M R:=by
    refine(hrel.fresh (X:=λb=>b=cb\/∃t∈tcs,b=t.cb) eB λb u=>?_).congr λb=>⟨λu=>?_,λu=>?_⟩
    ·rcases u with u|⟨t,ht,u⟩
     ·omega
     ·have:=(htc t ht).2.2.2.1;omega
    ·rcases u with (u|u)|u|u
     ·exact .inl u
     ·exact .inr (.inr (.inr (.inr u)))
     ·exact .inr (.inl u)
     ·exact .inr (.inr (.inl u))
    ·rcases u with u|u
     ·exact .inl (.inl u)
     ·rcases own b u with v|v|v
      ·exact .inr (.inl v)
      ·exact .inr (.inr v)
      ·exact .inl (.inr v)
   refine hK ⟨cb,o,low,lowL,cc,cl,wc,wl,fr,tcs,Sl.mk none 0 0,[],R.turns,false,V⟩ B ⟨hZ,rB,⟨hlowB,λad ha=>?_⟩,⟨?_,λad ha=>?_⟩,⟨?_,λad ha=>?_⟩,⟨?_,λad ha=>?_,oB.reads⟩,λt ht=>?_,az.nil _ _ _ _,λx hx=>(by cases hx),hcbs,λb hb=>?_,λb hb=>by have:=(hE b hb).1;have:=eB.size;omega,λb hb u=>?_⟩ eB ownA rfl rfl rfl rfl rfl rfl rfl hol hcond hmap λt ht=>⟨(htc t ht).2.1,(htc t ht).2.2.1⟩
   ·have h1:=hlb _ ⟨ad,ha,rfl⟩
    exact⟨by omega,offY _ (by omega) (by omega) λt ht e=>by have:=(htc t ht).2.2.2.1;omega⟩
   ·exact((((o1.ext e2).ext e3).ext eD).mod mDB λb hb u=>by have:=(c1 b hb).2;omega).ints
   ·have h1:=c1 _ ⟨ad,ha,rfl⟩
    exact⟨by omega,offY _ (by omega) (by omega) λt ht e=>by have:=(htc t ht).2.2.2.1;omega⟩
   ·exact(((o2.ext e3).ext eD).mod mDB λb hb u=>by have:=(c2 b hb).2;omega).ints
   ·have h1:=c2 _ ⟨ad,ha,rfl⟩
    exact⟨by omega,offY _ (by omega) (by omega) λt ht e=>by have:=(htc t ht).2.2.2.1;omega⟩
   ·have:=oB.1
    simp at this ⊢
    omega
   ·have h1:=fB _ ⟨ad,ha,rfl⟩
    exact⟨frl _ ⟨ad,ha,rfl⟩,offY _ (by omega) (by omega) λt ht e=>((htc t ht).2.2.2.2.2.1 _ ⟨ad,ha,rfl⟩).1 e⟩
   ·obtain⟨q1,q2,q3,q4,q5,q6,q7⟩:=htc t ht
    refine⟨?_,by rw[q2,q3];exact q1,λad ha=>?_⟩
    ·have:t.t∈tcs.map (·.t):=Lp ht
     rw[hmap] at this
     obtain⟨q,hq,e⟩:=List.mem_filterMap.1 this
     exact ah.cI (hqs q hq) _ (Ki e)
    ·have h1:=q5 _ ⟨ad,ha,rfl⟩
     exact⟨(q1.off ad ha).1,offY _ (by omega) (by omega) λu hu e=>q7 u hu ⟨ad,ha,e⟩⟩
   ·rcases own b hb with u|⟨t,ht,u⟩|u
    ·exact⟨λv=>by have:=h.al.al.lt b v;omega,by omega⟩
    ·have:=(htc t ht).2.2.2.1
     exact⟨λv=>by have:=h.al.al.lt b v;omega,by omega⟩
    ·exact(hE b u).2
   ·have hb:=(hE b hb).1
    rcases u with u|⟨t,ht,u⟩|⟨ad,ha,_⟩
    ·have u:b=cb:=u
     omega
    ·have:=(htc t ht).2.2.2.1;omega
    ·cases ha
 -- which order fits
 refine GQ relB (hc.ext eB) (λo ho=>by rw[hord o ho];exact hclW) (by omega) ho (λi hi hfit hno=>?_) (λhno=>?_)
 ·refine ag.st rB (i:=1) (by simp[iI]) rfl λE0 rE0 mE0 zE0=>?_
  have egd:R.ords.getD i []=R.ords[i]:=by simp[KQ,Kg hi]
  have hlen:=hord _ (Kt hi)
  refine⟨λ_ E=>∃low,ag E cb Dp (iI R.rb i low cc wc (Sl.mk none 0 0) (Sl.mk none 0 0) R.turns false false)/\Mod (λb=>b=cb) D E/\Ints .u64 E low ((R.ords[i].take cl.length).map (fC cl wl))/\(∀b,ai low b->D.size<=b/\b<E.size),?_,?_⟩
  ·refine aT rfl ?_
   simp only[aq,add_add,MD]
   have mDE:=mB.trans mE0
   have relE:=h.rel.grow (rel mDE)
   refine ag.ld (c:=ao) (i:=3) (x:=R.os) relE.row rfl ?_
   have zDB:=mB.size
   refine(h.rel.ords.old (rel mDE)).ld hi rfl λad r _ ra hr hcap=>?_
   have hrn:=hr.len
   refine⟨⟨by omega,by omega⟩,?_⟩
   have en:((cols.n:Int).toNat) - 0=cl.length - 0:=by omega
   rw[en]
   have htl:(R.ords[i].take cl.length).length=cl.length:=by rw[KF];omega
   refine av cl.length (λk z E=>z=(k:Int)/\∃low,ag E cb Dp (iI R.rb i low cc wc (Sl.mk none 0 0) (Sl.mk none 0 0) R.turns false false)/\Mod (λb=>b=cb) E0 E/\az E 0 iB 1 low ((((R.ords[i].take cl.length).take k).map (fC cl wl)).map (Km .u64))/\(∀b,ai low b->E0.size<=b)) ⟨rfl,Sl.mk none 0 0,rE0,.refl _ _,az.nil _ _ _ _,λb u=>(by obtain⟨ad,ha,_⟩:=u;cases ha)⟩ ?_
   rintro k _ E next1 hk ⟨rfl,low,rE,mE,oE,fE⟩ hnext1
   have zE:=mE.size
   have mDE':=mDE.trans mE
   have eE:=rel mDE'
   have hr':Ints .i64 E r R.ords[i]:=hr.mod mE λad ha u=>by
    have h2:¬A.size<=ad.block:=(ra ad ha).2
    omega
   refine ak (λhcd2=>?_) (λhcd2=>?_)
   ·have hkl:k<cl.length:=by
     have:(k:Int)<((cl.length - 0:Nat):Int):=by simpa using hcd2
     omega
    refine bB (hr'.take (i:=cl.length) (by omega)) (i:=(k:Int)) (j:=k) rfl (by omega) λad2 _=>?_
    refine⟨Ext E,.refl _ _,?_⟩
    refine ag.cP (c:=ao) (i:=2) (x:=low) (cs:=λ_=>iI R.rb i low cc wc (Sl.mk none 0 0) (Sl.mk none 0 0) R.turns false false) (λD hD=>rE.ext hD) (λ_ _=>rfl) ?_
    have hv:(R.ords[i].take cl.length).getD k 0∈cl:=by
     unfold dX at hfit
     rw[List.all_eq_true] at hfit
     refine of_decide_eq_true (hfit _ ?_)
     rw[KQ,Kg (by omega)]
     exact Kt _
    refine sg (hc.ext eE) (by omega) (λj hj he hmin=>⟨.refl _ _,?_⟩) (λu=>absurd hv u)
    refine bB (hw.ext eE) (i:=(j:Int)) (j:=j) rfl (by omega) λad3 _=>?_
    have hwa:wl.getD j 0=fC cl wl ((R.ords[i].take cl.length).getD k 0):=by
     unfold fC
     have:cl.findIdx (·==(R.ords[i].take cl.length).getD k 0)=j:=by
      rw[List.findIdx_eq hj]
      refine⟨?_,λa ha=>?_⟩
      ·have:cl.getD j 0=cl[j]:=by simp[KQ,Kg hj]
       rw[this] at he
       simp[he]
      ·have h1:=hmin a ha
       have:cl.getD a 0=cl[a]:=by simp[KQ,Kg (show a<cl.length by omega)]
       rw[this] at h1
       simpa using h1
     rw[this]
    rw[hwa]
    refine⟨Mod.push (λ_=>False) E (.cells #[.int .u64 (fC cl wl ((R.ords[i].take cl.length).getD k 0))] iB),?_⟩
    have hln:low.n=k:=by have:=oE.1;simp at this;omega
    have key:=iY.push (ty:=dn) (H:=E) (base:=0) (s:=low) (v:=.int .u64 (fC cl wl ((R.ords[i].take cl.length).getD k 0))) oE rfl (by omega) (by omega) (KU _)
     (K:=λs' G=>Go.Proofs.YtkehfflpbpdokaaGreatDoor.st G (K0 ⟨cb,0,none⟩ 2) s'.v λG'=>next1 (Ke.wrap ((k:Int)+(1:Int))) G')
    refine key λlow' G n' oG mG bG _=>?_
    have zG:=mG.size
    have rG:=rE.mod mG λu=>by have:=fE _ u;omega
    refine ag.st rG (i:=2) (by simp[iI]) (by cases low';rfl) λJ rJ mJ zJ=>?_
    have fG:∀b,ai low' b->E0.size<=b:=λb hb=>by
     rcases bG b hb with v|v
     ·exact fE b v
     ·omega
    refine hnext1 hkl _ _ ⟨aK k (by omega),low',rJ,?_,?_,fG⟩
    ·refine⟨by omega,λb hb hne=>?_⟩
     rw[mJ.same b (by omega) hne,mG.same b (by omega) λu=>by have:=fE b u;omega]
     exact mE.same b hb hne
    ·have e1:(R.ords[i].take cl.length).take (k+1)=(R.ords[i].take cl.length).take k++[(R.ords[i].take cl.length).getD k 0]:=by
      rw[Mv,Kg (by omega)];simp[KQ,Kg (show k<(R.ords[i].take cl.length).length by omega)]
     rw[e1,KX,KX]
     exact oG.mod mJ λb hb u=>by have:=fG b hb;omega
   ·have hge:k=cl.length:=by
     have:¬(k:Int)<((cl.length - 0:Nat):Int):=by simpa using hcd2
     omega
    subst hge
    rw[MR,RW] at oE
    exact⟨low,rE,mDE',oE.ints,λb hb=>⟨by have:=fE b hb;have:=mDE.size;omega,(oE.block b hb).2⟩⟩
  ·rintro _ E ⟨low,rE,mE,il,lb⟩
   refine tail i hi E low _ rE mE il (by rw[KM,KF];omega) lb (.inl ⟨by rw[egd];exact hfit,λj hj=>?_,by rw[egd]⟩)
   have:=hno j hj
   simpa[KQ,Kg (show j<R.ords.length by omega)] using this
 ·refine ag.st rB (i:=1) (by simp[iI]) rfl λE0 rE0 mE0 zE0=>?_
  refine⟨λ_ E=>E0=E,ax rfl rfl,?_⟩
  rintro _ _ rfl
  exact tail 0 (by omega) E0 (Sl.mk none 0 0) [] rE0 (mB.trans mE0) ⟨rfl,Reads.nil _ _⟩ (by simp) (λb u=>by obtain⟨ad,ha,_⟩:=u;cases ha) (.inr ⟨hno,rfl,rfl⟩)
end
theorem yg {R:ah}(hks:(R.all.map (·.k)).Nodup){t:Tx}(ht:t∈R.all):R.up t.k t.L=R:=by
 have key:∀l:List Tx,(∀x∈l,x∈R.all)->l.map (Tx.up t.k t.L)=l:=λl hl=>by
  have:l.map (Tx.up t.k t.L)=l.map id:=Lx λx hx=>by
   unfold Tx.up
   split
   ·rename_i e
    obtain⟨i,hi⟩:=Ko.1 (hl x hx)
    obtain⟨j,hj⟩:=Ko.1 ht
    have hlt:=(Kj.1 hi).1
    have hij:=(LH (l:=R.all.map (·.k)) (i:=i) (j:=j) (by simpa using hlt) hks).1 (by rw[KC,KC,hi,hj];simp[e])
    subst hij
    rw[hi] at hj
    have:x=t:=Kq hj
    subst this
    rfl
   ·rfl
  rw[this,List.map_id]
 have hp:∀q∈R.parts,q.up t.k t.L=q:=λq hq=>by
  unfold aE.up
  rw[key _ (ah.cI hq)]
 unfold ah.up
 rw[hp R.f (by simp[ah.parts]),hp R.d (by simp[ah.parts]),hp R.e (by simp[ah.parts]),key R.ex λx hx=>by unfold ah.all;simp[hx]]
def TC.rest (t:TC):List (List Int):=t.t.L.filter (pq t.ll t.strict)
def js (lowL:List Int)(t t':TC)(h':Option (List Int)):Prop:=
 t'.t=t.t/\t'.cb=t.cb/\((t.rest.head?=none/\t'.ll=t.ll/\t'.strict=t.strict/\h'=none)\/∃y,t.rest.head?=some y/\t'.ll=y/\t'.strict=true/\h'=if cL y lowL then some y else none)
def bc.with (C:bc)(tcs:List TC)(hs:List (Sl×Option (List Int))):bc:=⟨C.cb,C.order,C.low,C.lowL,C.cols,C.colsL,C.words,C.wordsL,C.fr,tcs,C.bn,hs,C.turns,C.begun,C.ext⟩
section
variable {H0 A B D:aa}{F F' X:Nat->Prop}{p dp Q U most m c:Nat}{s s':Pl}{M M':aU}{R:ah}{C:bc}{ll:List Int}
theorem cp.lt (h:cp H0 A F p M R C):∀b,C.pa b->b<A.size:=by
 rintro b (rfl|⟨t,ht,rfl⟩|hb|hb)
 ·exact aG h.row
 ·exact aG (h.tc t ht).2.1.row
 ·exact(h.hd.block b hb).2
 ·exact h.ext b hb
theorem pU.step {Y Y':Nat->Prop}{x:Sl×Option (List Int)}(h:pU Y A x)(S:Step Y Y' A B):pU Y' B x:=
 ⟨h.1,λy hy=>⟨(h.2 y hy).1,(h.2 y hy).2.2.ints (h.2 y hy).2.1 S,(h.2 y hy).2.2.step S⟩⟩
theorem cp.Jj (h:cp H0 A F p M R C){t:TC}(ht:t∈C.tcs):C.cb≠t.cb:=λe=>by
 have h1:=(h.tc t ht).2.1.row
 rw[<-e] at h1
 exact absurd (aW h1 h.row) (by decide)
theorem cp.Jr (h:cp H0 A F p M R C){t:TC}(ht:t∈C.tcs):¬ai C.bn t.cb:=λu=>by
 obtain⟨cur,e⟩:=h.hd.obj _ u
 exact absurd (aW e (h.tc t ht).2.1.row) (by decide)
theorem cp.Jx (h:cp H0 A F p M R C):¬ai C.bn C.cb:=λu=>by
 obtain⟨cur,e⟩:=h.hd.obj _ u
 exact absurd (aW e h.row) (by decide)
theorem Ej {C:bc}{i:Nat}{t t':TC}{hs:List (Sl×Option (List Int))}(hi:C.tcs[i]?=some t)(he:t'.cb=t.cb):(C.tcs.set i t').map (·.cb)=C.tcs.map (·.cb)/\(∀b,(C.with (C.tcs.set i t') hs).pa b↔C.pa b)/\∀b,(C.with (C.tcs.set i t') hs).rI b↔C.rI b:=by
 have hm:(C.tcs.set i t').map (·.cb)=C.tcs.map (·.cb):=by
  apply MG
  intro j
  rw[KC,KC,Le]
  by_cases e:i=j
  ·subst e
   have:=(Kj.1 hi).1
   rw[if_pos rfl,if_pos this,hi]
   simp[he]
  ·rw[if_neg e]
 have key:∀{b:Nat} (l:List TC),(∃t∈l,b=t.cb)↔b∈l.map (·.cb):=λl=>by
  rw[Kz]
  exact⟨λ⟨q,a,c⟩=>⟨q,a,c.symm⟩,λ⟨q,a,c⟩=>⟨q,a,c.symm⟩⟩
 refine⟨hm,λb=>?_,λb=>?_⟩
 ·unfold bc.pa bc.with
  simp only
  rw[key,key,hm]
 ·unfold bc.rI bc.with
  simp only
  rw[key,key,hm]
theorem cp.Fb {i:Nat}{t t':TC}(h:cp H0 A F p M R C)(hi:C.tcs[i]?=some t)(ht:t'.t=t.t)(hcb:t'.cb=t.cb)(S:Step (λb=>F b\/b=t.t.k\/b=t.cb) (λb=>F' b\/b=t.t.k\/b=t.cb) A B)(hk:¬F' t.t.k)(hT:cr B p M t.t.k t.t.n R.W t.t.L)(hcu:iu B F' t.t.k t.cb t'.lo t'.ll t'.strict)(hlo:t'.lo=t.lo\/∀b,ai t'.lo b->A.size<=b):
  cp H0 B F' p M R (C.with (C.tcs.set i t') C.hs)/\Step (R.X (C.Z0 F)) (R.X ((C.with (C.tcs.set i t') C.hs).Z0 F')) A B:=by
 have htm:t∈C.tcs:=Ki hi
 obtain⟨htR,hcuA,hloA⟩:=h.tc t htm
 obtain⟨hmap,hown,hown0⟩:=Ej (hs:=C.hs) hi hcb
 have hOk:R.O t.t.k:=.inr (.inr ⟨_,htR,rfl⟩)
 have hkZ:=(h.rel.off _ hOk).1
 have hOt:C.pa t.cb:=.inr (.inl ⟨t,htm,rfl⟩)
 have ownF:∀b,C.pa b->¬F' b:=λb hb u=>by
  rcases S.own b (.inl u) with (v|v|v)|v
  ·exact(h.off b hb).1 v
  ·subst v;exact hkZ (.inr hb)
  ·subst v;exact hcu.cb.1 u
  ·have:=h.lt b hb;omega
 have SY:Step (R.X (C.Z F)) (R.X ((C.with (C.tcs.set i t') C.hs).Z F')) A B:=S.fg (λb u=>by
  rcases u with u|u|u
  ·exact .inl (.inl u)
  ·exact .inr (u▸hOk)
  ·exact .inl (.inr (u▸hOt))) λb u=>by
  rcases u with (u|u)|u
  ·exact .inr (.inl u)
  ·exact .inl (.inl (.inr ((hown b).1 u)))
  ·exact .inl (.inr u)
 have S0:Step (R.X (C.Z0 F)) (R.X ((C.with (C.tcs.set i t') C.hs).Z0 F')) A B:=S.fg (λb u=>by
  rcases u with u|u|u
  ·exact .inl (.inl u)
  ·exact .inr (u▸hOk)
  ·exact .inl (.inr (.inr (.inl ⟨t,htm,u⟩)))) λb u=>by
  rcases u with (u|u)|u
  ·exact .inr (.inl u)
  ·exact .inl (.inl (.inr ((hown0 b).1 u)))
  ·exact .inl (.inr u)
 have rel:=h.rel.xq (F':=(C.with (C.tcs.set i t') C.hs).Z F') (M':=M) htR (S.fg (λb u=>by
  rcases u with u|u|u
  ·exact .inl (.inl u)
  ·exact .inr u
  ·exact .inl (.inr (u▸hOt))) λb u=>by
  rcases u with (u|u)|u
  ·exact .inr (.inl u)
  ·exact .inl (.inl (.inr ((hown b).1 u)))
  ·exact .inl (.inr u)) (λu=>by
  rcases u with u|u
  ·exact hk u
  ·exact hkZ (.inr ((hown _).1 u))) hT (λ_ _=>rfl)
 rw[yg h.rel.ks htR] at rel
 have ownS:∀b,C.pa b->b≠t.cb->B[b]?=A[b]?:=λb hb e=>S.mod.same b (h.lt b hb) λu=>by
  rcases u with u|u|u
  ·exact(h.off b hb).1 u
  ·subst u;exact hkZ (.inr hb)
  ·exact e u
 have cbne:=h.Jj htm
 refine⟨⟨rel,(ownS _ (.inl rfl) cbne).trans h.row,⟨h.low.2.ints h.low.1 SY,h.low.2.step SY⟩,⟨h.cols.2.ints h.cols.1 SY,h.cols.2.step SY⟩,⟨h.words.2.ints h.words.1 SY,h.words.2.step SY⟩,?_,λu hu=>?_,?_,λx hx=>(h.hr x hx).step SY,by rw[show (C.with (C.tcs.set i t') C.hs).tcs=C.tcs.set i t' from rfl,hmap];exact h.cbs,λb hb=>⟨ownF b ((hown b).1 hb),(h.off b ((hown b).1 hb)).2⟩,λb hb=>K9 (h.ext b hb) S.mod.size,λb hb u=>h.sep b hb ((hown0 b).1 u)⟩,S0⟩
 ·have e:∀l:List TC,(l.map λt=>bX t.cb)=(l.map (·.cb)).map bX:=λl=>by rw[Ly];rfl
  have:=h.fr.step SY
  rw[e] at this ⊢
  rw[show (C.with (C.tcs.set i t') C.hs).tcs=C.tcs.set i t' from rfl,hmap]
  exact this
 ·have hu:u∈C.tcs.set i t':=hu
  obtain⟨j,hj⟩:=Ko.1 hu
  rw[Le] at hj
  by_cases e:i=j
  ·subst e
   rw[if_pos rfl,if_pos (Kj.1 hi).1] at hj
   have:u=t':=(Kq hj).symm
   subst this
   refine⟨ht▸htR,by rw[ht,hcb];exact hcu,?_⟩
   rcases hlo with e|e
   ·rw[e];exact hloA.step SY
   ·intro ad ha
    have h1:=e _ ⟨ad,ha,rfl⟩
    obtain⟨o1,o2⟩:=hcu.off ad ha
    refine⟨o1,λx=>?_⟩
    rcases x with (x|x)|x
    ·exact o2 (.inl x)
    ·have:=h.lt _ ((hown _).1 x);omega
    ·have:=h.rel.lt _ x;omega
  ·rw[if_neg e] at hj
   have hum:u∈C.tcs:=Ki hj
   obtain⟨a1,a2,a3⟩:=h.tc u hum
   have hne:u.cb≠t.cb:=λq=>e ((LH (l:=C.tcs.map (·.cb)) (i:=i) (j:=j) (by simpa using (Kj.1 hi).1) h.cbs).1 (by rw[KC,KC,hi,hj];simp[q]))
   have hOu:C.pa u.cb:=.inr (.inl ⟨u,hum,rfl⟩)
   have a4:=a3.step SY
   refine⟨a1,⟨(ownS _ hOu hne).trans a2.row,a3.ints a2.ints SY,a4.mono λb _ x=>?_,ownF _ hOu,a2.cb.2⟩,a4⟩
   rcases x with x|x|x
   ·exact .inl (.inl x)
   ·exact .inr (x▸.inr (.inr ⟨_,a1,rfl⟩))
   ·exact .inl (.inr ((hown b).2 (x▸hOu)))
 ·exact h.hd.mod S.mod λb hb u=>by
   rcases u with u|u|u
   ·exact(h.off b (.inr (.inr (.inl hb)))).1 u
   ·subst u;exact hkZ (.inr (.inr (.inr (.inl hb))))
   ·subst u;exact h.Jr htm hb
theorem cp.head {i:Nat}{x:Sl×Option (List Int)}(h:cp H0 A F p M R C)(ho:az B 0 dn 1 C.bn ((C.hs.set i x).map λh=>h.1.v))(mm:Mod (ai C.bn) A B)(hx:pU (R.X (C.Z F)) B x):
  cp H0 B F p M R (C.with C.tcs (C.hs.set i x))/\Step (R.X (C.Z0 F)) (R.X ((C.with C.tcs (C.hs.set i x)).Z0 F)) A B:=by
 have SZ:Step (C.Z F) (C.Z F) A B:=⟨mm.mono λb _ u=>.inr (.inr (.inr (.inl u))),λ_ u=>.inl u⟩
 have SY:Step (R.X (C.Z F)) (R.X (C.Z F)) A B:=Step.rel SZ
 refine⟨⟨h.rel.al SZ,h.row.mod mm h.Jx,⟨h.low.2.ints h.low.1 SY,h.low.2.step SY⟩,⟨h.cols.2.ints h.cols.1 SY,h.cols.2.step SY⟩,⟨h.words.2.ints h.words.1 SY,h.words.2.step SY⟩,h.fr.step SY,λu hu=>?_,ho,λy hy=>?_,h.cbs,h.off,λb hb=>K9 (h.ext b hb) mm.size,h.sep⟩,Step.rel (R:=R) (F:=C.Z0 F) (F':=C.Z0 F) ⟨mm.mono λb _ u=>.inr (.inr (.inr u)),λ_ u=>.inl u⟩⟩
 ·obtain⟨a1,a2,a3⟩:=h.tc u hu
  refine⟨a1,⟨a2.row.mod mm (h.Jr hu),a3.ints a2.ints SY,λad ha=>⟨K9 (a2.off ad ha).1 mm.size,(a2.off ad ha).2⟩,a2.cb⟩,a3.step SY⟩
 ·have hy:y∈C.hs.set i x:=hy
  rcases Nf hy with u|u
  ·exact(h.hr y u).step SY
  ·rw[u];exact hx
end
section
variable {H0 A B D:aa}{F F' X:Nat->Prop}{p dp Q U most m c:Nat}{s s':Pl}{M M':aU}{R:ah}{C:bc}{ll:List Int}
theorem cp.grow (h:cp H0 A F p M R C)(e:Ext A B):cp H0 B F p M R C:=by
 have SY:Step (R.X (C.Z F)) (R.X (C.Z F)) A B:=Step.bp e
 refine⟨h.rel.grow e,h.row.ext e,⟨h.low.1.ext e,h.low.2.step SY⟩,⟨h.cols.1.ext e,h.cols.2.step SY⟩,⟨h.words.1.ext e,h.words.2.step SY⟩,h.fr.step SY,λu hu=>?_,h.hd.ext e,λy hy=>(h.hr y hy).step SY,h.cbs,h.off,λb hb=>K9 (h.ext b hb) e.size,h.sep⟩
 obtain⟨a1,a2,a3⟩:=h.tc u hu
 exact⟨a1,a2.mod e id λ_ _=>id,a3.step SY⟩
theorem aJ.bn (h:aJ H0 A F p dp s M Q U most m)(hc:cp H0 A F p M R C)(mm:Mod (ai C.bn) A B):aJ H0 B F p dp s M Q U most m:=
 h.aside ⟨K4 h.ext.size mm.size,λb hb _=>(mm.same b (K9 hb h.ext.size) λu=>by have:=(hc.off b (.inr (.inr (.inl u)))).2;omega).trans (h.ext.same b hb id)⟩ λb hb=>mm.same b (h.al.lt b hb) λu=>(hc.off b (.inr (.inr (.inl u)))).1 hb
theorem tY (h:cp H0 A F p M R C):C.bn.n=C.hs.length:=by
 have:=h.hd.1
 rw[KM] at this
 omega
set_option maxHeartbeats 2000000 in
theorem yj {i:Nat}{t:TC}{K:Int->aa->Prop}(hP:aJ H0 A F p dp s M Q U most m)(h:cp H0 A F p M R C)(hg:Gl H0)(hF:R.Fit)(hQ:Q<=1048576)(hm:m+1000000<=30000000000)(hi:C.tcs[i]?=some t)(hhs:C.hs.length=C.tcs.length)
  (hK:∀F' s' t' h' B,aJ H0 B F' p dp s' M Q U most (m+1000000)->cp H0 B F' p M R (C.with (C.tcs.set i t') (C.hs.set i h'))->js C.lowL t t' h'.2->Step (R.X (C.Z0 F)) (R.X ((C.with (C.tcs.set i t') (C.hs.set i h')).Z0 F')) A B->K 0 B):Ds.sp (aD C.cb) (i:Int) A K:=by
 refine Ds.of ?_
 unfold Ds.vc
 simp only[aq,aD]
 refine ag.ld (c:=ao) (i:=5) (x:=C.fr) h.row rfl ?_
 have hil:=(Kj.1 hi).1
 refine ia.ld (c:=au) (x:=aD t.cb) (i:=i) h.fr (by rw[KC,hi];rfl) rfl λad _=>?_
 have htm:t∈C.tcs:=Ki hi
 obtain⟨htR,hcu,hlo⟩:=h.tc t htm
 have hOk:R.O t.t.k:=.inr (.inr ⟨_,htR,rfl⟩)
 have hkZ:=h.rel.off _ hOk
 have hOt:C.pa t.cb:=.inr (.inl ⟨t,htm,rfl⟩)
 have hT:=h.rel.tr _ htR
 have plain0:ka (.slice none 0 0)=true:=rfl
 refine hT.next hP hg ⟨λu=>hkZ.1 (.inl u),hkZ.2⟩ (h.off _ hOt).2 (hF.nm h.rel htR) hF.W (hF.rows _ htR) hQ hm hcu (λhno F1 s1 B p1 T1 S1 k1 c1=>?_) (λy hy F1 s1 B sl lo' p1 T1 S1 k1 c1 o1 f1=>?_)
 ·obtain⟨cm,SY⟩:=h.Fb (t':=t) hi rfl rfl S1 k1 T1 c1 (.inl rfl)
  refine ag.ld (c:=ao) (i:=6) (x:=C.bn) cm.row rfl ?_
  have hn:=tY cm
  have hn:C.bn.n=C.hs.length:=hn
  refine az.st cm.hd (by omega) (by show (i:Int)<(C.bn.n:Int);omega) plain0 λD oD mD zD=>?_
  have oD':az D 0 dn 1 C.bn ((C.hs.set i (Sl.mk none 0 0,none)).map λh=>h.1.v):=by
   rw[Nt]
   rw[KI] at oD
   exact oD
  obtain⟨cm2,SY2⟩:=cm.head (i:=i) (x:=(Sl.mk none 0 0,none)) oD' mD ⟨λ_=>rfl,λy hy=>by cases hy⟩
  refine ax rfl ?_
  exact hK F1 s1 t (Sl.mk none 0 0,none) D (p1.bn cm mD) cm2 ⟨rfl,rfl,.inl ⟨hno,rfl,rfl,rfl⟩⟩ (SY.trans SY2)
 ·obtain⟨cm,SY⟩:=h.Fb (t':=⟨t.t,t.cb,lo',y,true⟩) hi rfl rfl S1 k1 T1 c1 (.inr f1.2)
  refine ag.ld (c:=ao) (i:=6) (x:=C.bn) cm.row rfl ?_
  have hn:=tY cm
  have hn:C.bn.n=C.hs.length:=hn
  have hBz:=S1.mod.size
  refine az.st cm.hd (by omega) (by show (i:Int)<(C.bn.n:Int);omega) plain0 λD oD mD zD=>?_
  have oD':az D 0 dn 1 C.bn ((C.hs.set i (Sl.mk none 0 0,none)).map λh=>h.1.v):=by
   rw[Nt]
   rw[KI] at oD
   exact oD
  obtain⟨cm2,SY2⟩:=cm.head (i:=i) (x:=(Sl.mk none 0 0,none)) oD' mD ⟨λ_=>rfl,λy hy=>by cases hy⟩
  have pD:=p1.bn cm mD
  refine aT rfl ?_
  refine ag.ld (c:=ao) (i:=2) (x:=C.low) cm2.row rfl ?_
  have hyL:y∈t.t.L:=by
   have:y∈t.t.L.filter (pq t.ll t.strict):=RA hy
   exact(KP.1 this).1
  have hyl:=(hT.rows y hyL).1
  have hW:=hF.W
  have o1D:az D 0 iB 1 sl (y.map (Km .u64)):=o1.mod mD λb hb hb'=>by
   have h1:=(f1.1 b hb).1
   have h2:=h.lt b (.inr (.inr (.inl hb')))
   omega
  refine tV o1D.ints cm2.low.1 o1D.cap (by omega) ?_
  refine ak (λhb=>?_) (λhb=>?_)
  ·refine⟨Ext D,.refl _ _,?_⟩
   refine ag.cP (c:=ao) (i:=6) (x:=C.bn) (cs:=λ_=>iI R.rb C.order C.low C.cols C.words C.fr C.bn C.turns false C.begun) (λG hG=>cm2.row.ext hG) (λ_ _=>rfl) ?_
   have hsn:=o1D.ints.len
   rw[show Ke.wrap ((sl.n:Int)+1)=((y.length+1:Nat):Int) by rw[wrap64 (by omega) (by omega)];omega]
   refine iY.make (base:=0) (by omega) (by omega) (by omega) (by omega) (KU _) λsl2 E n2 o2 e2 b2 hne=>⟨e2,?_⟩
   have hzE:=e2.size
   refine iY.append (base:=0) (s:=sl2) (x:=sl) (xs:=[]) (ws:=y.map (Km .u64)) o2 (by simp;omega) (o1D.ext e2).ints.reads (ic _ _) (by simp at n2;omega) (by simp at n2;omega) (KU _) λs3 G n3 o3 m3 b3 hnil=>?_
   have eG:Ext D G:=((Ext.mod e2).trans m3).ext b2
   refine⟨eG,?_⟩
   have cm3:=cm2.grow eG
   have hn2:C.bn.n=(C.hs.set i (Sl.mk none 0 0,none)).length:=by rw[Ob];exact hn
   refine az.st cm3.hd (by omega) (by show (i:Int)<(C.bn.n:Int);omega) (by cases s3;rfl) λJ oJ mJ zJ=>?_
   have f3:∀b,ai s3 b->D.size<=b:=λb hb=>by
    rcases b3 b hb with v|v
    ·exact b2 b v
    ·omega
   have oJ':az J 0 dn 1 C.bn (((C.hs.set i (Sl.mk none 0 0,none)).set i (s3,some y)).map λh=>h.1.v):=by
    rw[Nt]
    rw[KI] at oJ
    exact oJ
   have hlt3:=cm2.lt
   have i3:Ints .u64 J s3 y:=by
    have:az J 0 iB 1 s3 (y.map (Km .u64)):=by
     have:=o3.mod mJ λb hb hb'=>by
      have h1:=f3 b hb
      have h2:=hlt3 b (.inr (.inr (.inl hb')))
      omega
     simpa using this
    exact this.ints
   obtain⟨cm4,SY4⟩:=cm3.head (i:=i) (x:=(s3,some y)) oJ' mJ ⟨λu=>(by cases u),λz hz=>by
    have:z=y:=(Kq hz).symm
    subst this
    refine⟨λu=>hne (hnil.1 u).1,i3,λad ha=>⟨?_,λu=>?_⟩⟩
    ·have:=(o3.block _ ⟨ad,ha,rfl⟩).2;omega
    ·have h1:=f3 _ ⟨ad,ha,rfl⟩
     rcases u with (u|u)|u
     ·have:=pD.al.lt _ u;omega
     ·have:=cm2.lt _ u;omega
     ·have:=cm2.rel.lt _ u;omega⟩
   have e:(C.with (C.tcs.set i ⟨t.t,t.cb,lo',y,true⟩) ((C.hs.set i (Sl.mk none 0 0,none)).set i (s3,some y)))=C.with (C.tcs.set i ⟨t.t,t.cb,lo',y,true⟩) (C.hs.set i (s3,some y)):=by rw[List.set_set]
   have cm4':cp H0 J F1 p M R (C.with (C.tcs.set i ⟨t.t,t.cb,lo',y,true⟩) (C.hs.set i (s3,some y))):=e▸cm4
   refine hK F1 s1 _ (s3,some y) J ((pD.grow eG).bn cm3 mJ) cm4' ⟨rfl,rfl,.inr ⟨y,hy,rfl,rfl,?_⟩⟩ (((SY.trans SY2).trans (Step.bp eG)).trans SY4)
   exact(if_pos (show cL y C.lowL=true from hb)).symm
  ·refine hK F1 s1 _ (Sl.mk none 0 0,none) D pD cm2 ⟨rfl,rfl,.inr ⟨y,hy,rfl,rfl,?_⟩⟩ (SY.trans SY2)
   have hb':cL y C.lowL=false:=hb
   exact(if_neg (by rw[hb'];simp)).symm
end
def bc.start (C:bc)(bn:Sl)(hs:List (Sl×Option (List Int))):bc:=⟨C.cb,C.order,C.low,C.lowL,C.cols,C.colsL,C.words,C.wordsL,C.fr,C.tcs,bn,hs,C.turns,true,C.ext⟩
structure fZ (C C1:bc):Prop where
 begun:C1.begun=true
 cb:C1.cb=C.cb
 order:C1.order=C.order
 lowL:C1.lowL=C.lowL
 colsL:C1.colsL=C.colsL
 wordsL:C1.wordsL=C.wordsL
 turns:C1.turns=C.turns
 ext:C1.ext=C.ext
 len:C1.hs.length=C1.tcs.length
 old:C.begun=true->C1=C
 new:C.begun=false->C1.tcs.length=C.tcs.length/\∀(i:Nat) (t:TC),C.tcs[i]?=some t->∃(t':TC) (h':Sl×Option (List Int)),C1.tcs[i]?=some t'/\C1.hs[i]?=some h'/\js C.lowL t t' h'.2
section
variable {H0 A B D:aa}{F F' X:Nat->Prop}{p dp Q U most m c:Nat}{s s':Pl}{M M':aU}{R:ah}{C:bc}{ll:List Int}
theorem cp.begin {sl:Sl}{n:Nat}(h:cp H0 A F p M R C)(hn:C.bn=Sl.mk none 0 0)(hlt:∀b,F b->b<A.size)(hz:H0.size<=A.size)(ho:az B 0 dn 1 sl (KG n (RB none 0 0)))(fo:∀b,ai sl b->A.size<=b)(mm:Mod (λb=>b=C.cb) A B)
  (r:ag B C.cb Dp (iI R.rb C.order C.low C.cols C.words C.fr sl C.turns false true)):cp H0 B F p M R (C.start sl (KG n (Sl.mk none 0 0,none)))/\Step (R.X (C.Z0 F)) (R.X ((C.start sl (KG n (Sl.mk none 0 0,none))).Z0 F)) A B:=by
 have own:∀b,(C.start sl (KG n (Sl.mk none 0 0,none))).pa b↔C.pa b\/ai sl b:=by
  intro b
  unfold bc.pa bc.start
  simp only
  have:¬ai C.bn b:=by rw[hn];rintro⟨ad,ha,_⟩;cases ha
  constructor
  ·rintro(u|u|u|u)
   ·exact .inl (.inl u)
   ·exact .inl (.inr (.inl u))
   ·exact .inr u
   ·exact .inl (.inr (.inr (.inr u)))
  ·rintro((u|u|u|u)|u)
   ·exact .inl u
   ·exact .inr (.inl u)
   ·exact absurd u this
   ·exact .inr (.inr (.inr u))
   ·exact .inr (.inr (.inl u))
 have hZe:(C.start sl (KG n (Sl.mk none 0 0,none))).Z F=λb=>C.Z F b\/ai sl b:=by
  funext b
  refine propext ?_
  unfold bc.Z
  rw[own b]
  exact⟨λu=>u.elim (λv=>.inl (.inl v)) λv=>v.elim (λw=>.inl (.inr w)) .inr,λu=>u.elim (λv=>v.elim .inl λw=>.inr (.inl w)) λw=>.inr (.inr w)⟩
 have SZ:Step (C.Z F) ((C.start sl (KG n (Sl.mk none 0 0,none))).Z F) A B:=by
  rw[hZe]
  exact⟨mm.mono λb _ u=>.inr (.inl u),λb u=>u.imp id (fo b)⟩
 have SY:=Step.rel (R:=R) SZ
 have S0:Step (R.X (C.Z0 F)) (R.X ((C.start sl (KG n (Sl.mk none 0 0,none))).Z0 F)) A B:=Step.rel (R:=R) ⟨mm.mono λb _ u=>.inr (.inl u),λb u=>by
  rcases u with u|u|u|u
  ·exact .inl (.inl u)
  ·exact .inl (.inr (.inl u))
  ·exact .inl (.inr (.inr (.inl u)))
  ·exact .inr (fo b u)⟩
 refine⟨⟨h.rel.al SZ,r,⟨h.low.2.ints h.low.1 SY,h.low.2.step SY⟩,⟨h.cols.2.ints h.cols.1 SY,h.cols.2.step SY⟩,⟨h.words.2.ints h.words.1 SY,h.words.2.step SY⟩,h.fr.step SY,λu hu=>?_,?_,λx hx=>?_,h.cbs,λb hb=>?_,λb hb=>K9 (h.ext b hb) mm.size,λb hb u=>?_⟩,S0⟩
 ·obtain⟨a1,a2,a3⟩:=h.tc u hu
  exact⟨a1,⟨a2.row.mod mm (λe=>h.Jj hu e.symm),a3.ints a2.ints SY,λad ha=>⟨K9 (a2.off ad ha).1 mm.size,(a2.off ad ha).2⟩,a2.cb⟩,a3.step SY⟩
 ·have:(C.start sl (KG n (Sl.mk none 0 0,none))).hs.map (λh=>h.1.v)=KG n (RB none 0 0):=by
   show (KG n ((Sl.mk none 0 0:Sl),(none:Option (List Int)))).map _=_
   rw[N6]
  rw[this];exact ho
 ·have hx:x∈KG n ((Sl.mk none 0 0:Sl),(none:Option (List Int))):=hx
  rw[NQ hx]
  exact⟨λ_=>rfl,λy hy=>by cases hy⟩
 ·rcases (own b).1 hb with u|u
  ·exact h.off b u
  ·exact⟨λv=>by have:=hlt b v;have:=fo b u;omega,by have:=fo b u;omega⟩
 ·rcases u with u|u|u
  ·exact h.sep b hb (.inl u)
  ·exact h.sep b hb (.inr (.inl u))
  ·have:=h.ext b hb
   have:=fo b u
   omega
def I5 (hs:List (Sl×Option (List Int)))(n:Nat)(b:Int):Prop:=
 (b=-1/\∀i,i<n->∀x,hs[i]?=some x->x.2=none)\/∃(j:Nat) (r:Sl) (y:List Int),b=(j:Int)/\j<n/\hs[j]?=some (r,some y)/\∀i,i<n->∀x l,hs[i]?=some x->x.2=some l->¬aP l y<0
theorem ia.HR {Y:Nat->Prop}{e:TypeId}{sl:Sl}{vs:List Value}(ho:az A 0 e 1 sl vs)(hY:∀b,ai sl b->¬Y b):ia Y A sl vs:=
 ⟨by have:=ho.1;omega,λad ha=>⟨(ho.block _ ⟨ad,ha,rfl⟩).2,hY _ ⟨ad,ha,rfl⟩⟩,ho.reads⟩
set_option maxHeartbeats 2000000 in
theorem oH {K:(Sl×Int)->aa->Prop}(hP:aJ H0 A F p dp s M Q U most m)(h:cp H0 A F p M R C)(hg:Gl H0)(hF:R.Fit)(hQ:Q<=1048576)(hm:m+1000000<=30000000000)(hhs:C.hs.length=C.tcs.length)(hl:C.hs.length<=1000)
  (hrow:∀x∈C.hs,∀y,x.2=some y->y.length<=1000)
  (hK0:(∀x∈C.hs,x.2=none)->K (Sl.mk none 0 0,0) A)
  (hK1:∀i y t r F' s' t' h' B,C.tcs[i]?=some t->C.hs[i]?=some (r,some y)->(∀x∈C.hs,∀l,x.2=some l->¬aP l y<0)->aJ H0 B F' p dp s' M Q U most (m+1000000)->cp H0 B F' p M R (C.with (C.tcs.set i t') (C.hs.set i h'))->js C.lowL t t' h'.2->Ints .u64 B r y->fL (R.X ((C.with (C.tcs.set i t') (C.hs.set i h')).Z F')) B r->r.a≠none->Step (R.X (C.Z0 F)) (R.X ((C.with (C.tcs.set i t') (C.hs.set i h')).Z0 F')) A B->K (r,0) B):
  ae (aD C.cb) λa_5=>Go.Proofs.YtkehfflpbpdokaaGreatDoor.ld ao A (a_5.add 6) λ(x_3:Sl)=>aI (Int×Int) ((-1:Int),(0:Int)) A λnext_1 z_2 H7=>br (decide (z_2.2<(x_3.n:Int))) (ae x_3.a λa_6=>(0<=z_2.2/\z_2.2<(x_3.n:Int))/\Go.Proofs.YtkehfflpbpdokaaGreatDoor.ld ao H7 (a_6.add (z_2.2.toNat*1)) λ(l:Sl)=>br ((!l.a.isNone)==true) (br (decide (z_2.1<(0:Int))) (next_1 (z_2.2,Ke.wrap (z_2.2+(1:Int))) H7) (ae (aD C.cb) λa_7=>Go.Proofs.YtkehfflpbpdokaaGreatDoor.ld ao H7 (a_7.add 6) λ(x_4:Sl)=>ae x_4.a λa_8=>(0<=z_2.1/\z_2.1<(x_4.n:Int))/\Go.Proofs.YtkehfflpbpdokaaGreatDoor.ld ao H7 (a_8.add (z_2.1.toNat*1)) λ(x_5:Sl)=>rR.sp l x_5 H7 λ(r:Int) H8=>br (decide (r<(0:Int))) (next_1 (z_2.2,Ke.wrap (z_2.2+(1:Int))) H8) (next_1 (z_2.1,Ke.wrap (z_2.2+(1:Int))) H8))) (next_1 (z_2.1,Ke.wrap (z_2.2+(1:Int))) H7)) (br (decide (z_2.1<(0:Int))) (K ((Sl.mk none 0 0),(0:Int)) H7) (ae (aD C.cb) λa_9=>Go.Proofs.YtkehfflpbpdokaaGreatDoor.ld ao H7 (a_9.add 6) λ(x_6:Sl)=>ae x_6.a λa_10=>(0<=z_2.1/\z_2.1<(x_6.n:Int))/\Go.Proofs.YtkehfflpbpdokaaGreatDoor.ld ao H7 (a_10.add (z_2.1.toNat*1)) λ(l_1:Sl)=>Ds.sp (aD C.cb) z_2.1 H7 λ(r_1:Int) H9=>K (l_1,r_1) H9)):=by
 simp only[aq,aD]
 refine ag.ld (c:=ao) (i:=6) (x:=C.bn) h.row rfl ?_
 have hn:=tY h
 have hsx:ia (λ_=>False) A C.bn (C.hs.map λh=>h.1.v):=ia.HR h.hd λ_ _=>id
 have at':∀{i:Nat} {x:Sl×Option (List Int)},C.hs[i]?=some x->(C.hs.map λh=>h.1.v)[i]?=some (ao.enc x.1):=λ{i x} e=>by rw[KC,e];rfl
 refine av C.hs.length (λi z B=>z.2=(i:Int)/\A=B/\I5 C.hs i z.1) ⟨rfl,rfl,.inl ⟨rfl,λi hi=>by omega⟩⟩ ?_
 rintro i ⟨b,_⟩ _ next hi ⟨rfl,rfl,hb⟩ hnext
 dsimp only at hb ⊢
 refine ak (λhcd=>?_) (λhcd=>?_)
 ·have hlt:i<C.hs.length:=by
   have:(i:Int)<(C.bn.n:Int):=by simpa using hcd
   omega
  obtain⟨⟨r,o⟩,hx⟩:∃x,C.hs[i]?=some x:=⟨_,Kg hlt⟩
  refine ia.ld (c:=ao) (x:=r) (i:=i) hsx (at' hx) rfl λad _=>?_
  have hxm:=Ki hx
  have hok:=h.hr _ hxm
  cases o with
  |none=>
    have hr0:r.a=none:=hok.1 rfl
    refine ax (by rw[hr0];rfl) ?_
    refine hnext hlt _ _ ⟨aK i (by omega),rfl,?_⟩
    rcases hb with ⟨e,hno⟩|⟨j,r2,y,e,hj,hjx,hmin⟩
    ·refine .inl ⟨e,λa ha x hax=>?_⟩
     by_cases q:a=i
     ·subst q;rw[hx] at hax;rw[<-Kq hax]
     ·exact hno a (by omega) x hax
    ·refine .inr ⟨j,r2,y,e,by omega,hjx,λa ha x l hax hl=>?_⟩
     by_cases q:a=i
     ·subst q;rw[hx] at hax;rw[<-Kq hax] at hl;cases hl
     ·exact hmin a (by omega) x l hax hl
  |some l=>
    obtain⟨q1,q2,q3⟩:=hok.2 l rfl
    have hrn:r.a.isNone=false:=by
     cases hra:r.a with
     |none=>exact absurd hra q1
     |some _=>rfl
    refine aT (by rw[hrn];rfl) ?_
    rcases hb with ⟨e,hno⟩|⟨j,r2,y,e,hj,hjx,hmin⟩
    ·subst e
     refine aT rfl ?_
     refine hnext hlt _ _ ⟨aK i (by omega),rfl,.inr ⟨i,r,l,rfl,by omega,hx,λa ha x l' hax hl'=>?_⟩⟩
     by_cases q:a=i
     ·subst q;rw[hx] at hax
      rw[<-Kq hax] at hl'
      have:l=l':=Kq hl'
      subst this
      exact bM l
     ·rw[hno a (by omega) x hax] at hl';cases hl'
    ·subst e
     refine ax (by simp) ?_
     refine ag.ld (c:=ao) (i:=6) (x:=C.bn) h.row rfl ?_
     refine ia.ld (c:=ao) (x:=r2) (i:=j) hsx (at' hjx) rfl λad2 _=>?_
     have hjm:=Ki hjx
     obtain⟨w1,w2,w3⟩:=(h.hr _ hjm).2 y rfl
     refine dW q2 w2 (by have:=hrow _ hxm l rfl;omega) ?_
     refine ak (λhc=>?_) (λhc=>?_)
     ·have hc:aP l y<0:=of_decide_eq_true hc
      refine hnext hlt _ _ ⟨aK i (by omega),rfl,.inr ⟨i,r,l,rfl,by omega,hx,λa ha x l' hax hl' hlt'=>?_⟩⟩
      by_cases q:a=i
      ·subst q;rw[hx] at hax
       rw[<-Kq hax] at hl'
       have:l=l':=Kq hl'
       subst this
       exact bM l hlt'
      ·exact hmin a (by omega) x l' hax hl' (bJ hlt' hc)
     ·have hc:¬aP l y<0:=of_decide_eq_false hc
      refine hnext hlt _ _ ⟨aK i (by omega),rfl,.inr ⟨j,r2,y,rfl,by omega,hjx,λa ha x l' hax hl'=>?_⟩⟩
      by_cases q:a=i
      ·subst q;rw[hx] at hax
       rw[<-Kq hax] at hl'
       have:l=l':=Kq hl'
       subst this
       exact hc
      ·exact hmin a (by omega) x l' hax hl'
 ·have hge:i=C.hs.length:=by
   have:¬(i:Int)<(C.bn.n:Int):=by simpa using hcd
   omega
  subst hge
  rcases hb with ⟨e,hno⟩|⟨j,r2,y,e,hj,hjx,hmin⟩
  ·subst e
   refine aT rfl (hK0 λx hx=>?_)
   obtain⟨a,ha⟩:=Ko.1 hx
   exact hno a (Kj.1 ha).1 x ha
  ·subst e
   refine ax (by simp) ?_
   refine ag.ld (c:=ao) (i:=6) (x:=C.bn) h.row rfl ?_
   refine ia.ld (c:=ao) (x:=r2) (i:=j) hsx (at' hjx) rfl λad2 _=>?_
   have hjm:=Ki hjx
   obtain⟨w1,w2,w3⟩:=(h.hr _ hjm).2 y rfl
   have hjt:C.tcs[j]?=some C.tcs[j]:=Kg (by omega)
   refine yj hP h hg hF hQ hm hjt hhs λF' s' t' h' B p1 c1 pt S1=>?_
   refine hK1 j y C.tcs[j] r2 F' s' t' h' B hjt hjx (λx hx l hl=>?_) p1 c1 pt (w3.ints w2 (S1.full rfl)) (w3.step (S1.full rfl)) w1 S1
   obtain⟨a,ha⟩:=Ko.1 hx
   exact hmin a (Kj.1 ha).1 x l ha hl
end
section
variable {H0 A B D:aa}{F F' X:Nat->Prop}{p dp Q U most m c:Nat}{s s':Pl}{M M':aU}{R:ah}{C:bc}{ll:List Int}
structure Ic (C C1:bc)(i:Nat):Prop where
 same:∃tcs hs,C1=C.with tcs hs/\tcs.length=C.tcs.length/\hs.length=C.tcs.length
 done:∀(j:Nat) (t:TC),j<i->C.tcs[j]?=some t->∃(t':TC) (h':Sl×Option (List Int)),C1.tcs[j]?=some t'/\C1.hs[j]?=some h'/\js C.lowL t t' h'.2
 left:∀(j:Nat),i<=j->C1.tcs[j]?=C.tcs[j]?
set_option maxHeartbeats 2000000 in
theorem vu {w:Nat}{K:(Sl×Int)->aa->Prop}(hP:aJ H0 A F p dp s M Q U most m)(h:cp H0 A F p M R C)(hg:Gl H0)(hF:R.Fit)(hQ:Q<=1048576)(hw:w=1000000)(hm:m+w*(C.tcs.length+1)<=30000000000)(ht:C.tcs.length<=1000)
  (hst:(C.begun=true/\C.hs.length=C.tcs.length)\/(C.begun=false/\C.bn=Sl.mk none 0 0)) (hrow:∀x∈C.hs,∀y,x.2=some y->y.length<=1000)
  (hK0:∀C1 F' s' B,fZ C C1->(∀x∈C1.hs,x.2=none)->aJ H0 B F' p dp s' M Q U most (m+w*(C.tcs.length+1))->cp H0 B F' p M R C1->Step (R.X (C.Z0 F)) (R.X (C1.Z0 F')) A B->K (Sl.mk none 0 0,0) B)
  (hK1:∀C1 i y t r F' s' t' h' B,fZ C C1->C1.tcs[i]?=some t->C1.hs[i]?=some (r,some y)->(∀x∈C1.hs,∀l,x.2=some l->¬aP l y<0)->aJ H0 B F' p dp s' M Q U most (m+w*(C.tcs.length+1))->cp H0 B F' p M R (C1.with (C1.tcs.set i t') (C1.hs.set i h'))->js C1.lowL t t' h'.2->Ints .u64 B r y->fL (R.X ((C1.with (C1.tcs.set i t') (C1.hs.set i h')).Z F')) B r->r.a≠none->Step (R.X (C.Z0 F)) (R.X ((C1.with (C1.tcs.set i t') (C1.hs.set i h')).Z0 F')) A B->K (r,0) B):FL.sp (aD C.cb) A K:=by
 have hwl:w*(C.tcs.length+1)=w*C.tcs.length+w:=Oo _ _
 refine FL.of ?_
 unfold FL.vc
 -- where the ways meet
 refine⟨λ_ B=>∃C1 F' s',fZ C C1/\aJ H0 B F' p dp s' M Q U most (m+w*C.tcs.length)/\cp H0 B F' p M R C1/\Step (R.X (C.Z0 F)) (R.X (C1.Z0 F')) A B/\C1.tcs.length=C.tcs.length/\(∀x∈C1.hs,∀y,x.2=some y->y.length<=1000),?_,?_⟩
 ·refine cg _ rfl ?_
  refine ag.ld (c:=aw) (i:=9) (x:=C.begun) h.row rfl ?_
  rcases hst with ⟨hb,hlen⟩|⟨hb,hhd⟩
  ·refine ax (by rw[hb];rfl) ?_
   exact⟨C,F,s,⟨hb,rfl,rfl,rfl,rfl,rfl,rfl,rfl,hlen,λ_=>rfl,λu=>by rw[hb] at u;cases u⟩,hP.later (by omega),h,Step.refl _ _,rfl,hrow⟩
  ·refine aT (by rw[hb];rfl) ?_
   simp only[aq,aD]
   refine ag.st h.row (i:=9) (by simp[iI]) rfl λA1 r1 m1 z1=>?_
   refine ag.ld (c:=ao) (i:=5) (x:=C.fr) r1 rfl ?_
   have hfn:=h.fr.len
   rw[KM] at hfn
   refine oS.make (base:=0) (by omega) (by omega) (by omega) (by omega) (KU _) λsl A2 n2 o2 e2 b2 _=>?_
   refine ag.st (r1.ext e2) (i:=6) (by simp[iI]) (by cases sl;rfl) λA3 r3 m3 z3=>?_
   refine ag.ld (c:=ao) (i:=5) (x:=C.fr) r3 rfl ?_
   have hpl:=hP.al.lt
   have hcl:=h.lt _ (.inl rfl)
   have hco:=h.off _ (.inl rfl)
   have z2:=e2.size
   have m13:Mod (λb=>b=C.cb) A A3:=(m1.trans e2.mod).trans m3
   have o3:az A3 0 dn 1 sl (KG C.tcs.length (RB none 0 0)):=by
    have:=o2.mod m3 λb hb u=>by have:=b2 b hb;omega
    rw[show ((C.fr.n:Int)).toNat=C.tcs.length by omega] at this
    exact this
   obtain⟨cm,SY⟩:=h.begin hhd hpl hP.ext.size o3 (λb hb=>by have:=b2 b hb;omega) m13 r3
   have p3:aJ H0 A3 F p dp s M Q U most m:=hP.aside ⟨by have:=hP.ext.size;omega,λb hb _=>(m13.same b (by have:=hP.ext.size;omega) (by omega)).trans (hP.ext.same b hb id)⟩ λb hb=>m13.same b (hpl b hb) λu=>hco.1 (u▸hb)
   refine av C.tcs.length (λi z B=>z=(i:Int)/\∃C1 F' s',Ic (C.start sl (KG C.tcs.length (Sl.mk none 0 0,none))) C1 i/\aJ H0 B F' p dp s' M Q U most (m+w*i)/\cp H0 B F' p M R C1/\Step (R.X (C.Z0 F)) (R.X (C1.Z0 F')) A B/\(∀x∈C1.hs,∀y,x.2=some y->y.length<=1000)) ⟨rfl,_,F,s,⟨⟨C.tcs,_,rfl,rfl,by rw[List.length_replicate];rfl⟩,λj t hj=>(by omega),λ_ _=>rfl⟩,p3,cm,SY,λx hx y hy=>?_⟩ ?_
   ·have hx:x∈KG C.tcs.length ((Sl.mk none 0 0:Sl),(none:Option (List Int))):=hx
    rw[NQ hx] at hy;cases hy
   rintro i _ B next hi ⟨rfl,C1,F1,s1,⟨⟨tcs,hs,eC,l1,l2⟩,hdone,hleft⟩,p1,c1,S1,hrw⟩ hnext
   have l1:tcs.length=C.tcs.length:=l1
   have l2:hs.length=C.tcs.length:=l2
   refine ak (λhcd=>?_) (λhcd=>?_)
   ·have hlt:i<C.tcs.length:=by
     have:(i:Int)<(C.fr.n:Int):=by simpa using hcd
     omega
    have hti:C1.tcs[i]?=some C.tcs[i]:=by
     rw[hleft i (Kl _)]
     exact Kg hlt
    have ecb:C1.cb=C.cb:=by rw[eC];rfl
    have elow:C1.lowL=C.lowL:=by rw[eC];rfl
    have ets:C1.tcs=tcs:=by rw[eC];rfl
    have ehs:C1.hs=hs:=by rw[eC];rfl
    rw[<-ecb]
    have hw1:w*(i+1)=w*i+w:=Oo _ _
    have hw2:w*(i+1)<=w*C.tcs.length:=LM _ hlt
    refine yj p1 c1 hg hF hQ (by omega) hti (by rw[ets,ehs,l1,l2]) λF2 s2 t' h' D p2 c2 pt S2=>?_
    refine ax rfl ?_
    have htm:C.tcs[i]∈C1.tcs:=Ki hti
    refine hnext hlt _ _ ⟨aK i (by omega),_,F2,s2,⟨⟨C1.tcs.set i t',C1.hs.set i h',by rw[eC];rfl,by rw[Ob,ets];exact l1,by rw[Ob,ehs];exact l2⟩,λj t hj hjt=>?_,λj hj=>?_⟩,p2.later (by omega),c2,S1.trans S2,λx hx y hy=>?_⟩
    ·by_cases e:j=i
     ·subst e
      have:t=C.tcs[j]:=by
       have hjt:C.tcs[j]?=some t:=hjt
       rw[Kg hlt] at hjt
       exact(Kq hjt).symm
      subst this
      refine⟨t',h',?_,?_,by rw[elow] at pt;exact pt⟩
      ·show (C1.tcs.set j t')[j]?=_
       rw[Le,if_pos rfl,if_pos (by rw[ets,l1];exact hlt)]
      ·show (C1.hs.set j h')[j]?=_
       rw[Le,if_pos rfl,if_pos (by rw[ehs,l2];exact hlt)]
     ·obtain⟨t2,h2,a1,a2,a3⟩:=hdone j t (by omega) hjt
      refine⟨t2,h2,?_,?_,a3⟩
      ·show (C1.tcs.set i t')[j]?=_
       rw[Le,if_neg (by omega)];exact a1
      ·show (C1.hs.set i h')[j]?=_
       rw[Le,if_neg (by omega)];exact a2
    ·show (C1.tcs.set i t')[j]?=_
     rw[Le,if_neg (by omega)]
     exact hleft j (by omega)
    ·have hx:x∈C1.hs.set i h':=hx
     rcases Nf hx with u|u
     ·exact hrw x u y hy
     ·subst u
      obtain⟨_,_,q|⟨z,q1,q2,q3,q4⟩⟩:=pt
      ·rw[q.2.2.2] at hy;cases hy
      ·rw[q4] at hy
       split at hy
       ·have:z=y:=Kq hy
        subst this
        have hz:z∈C.tcs[i].t.L:=(KP.1 (RA q1)).1
        have:=((c1.rel.tr _ (c1.tc _ htm).1).rows z hz).1
        have:=hF.W
        omega
       ·cases hy
   ·have hge:i=C.tcs.length:=by
     have:¬(i:Int)<(C.fr.n:Int):=by simpa using hcd
     omega
    subst hge
    have ets:C1.tcs=tcs:=by rw[eC];rfl
    have ehs:C1.hs=hs:=by rw[eC];rfl
    refine⟨C1,F1,s1,⟨by rw[eC];rfl,by rw[eC];rfl,by rw[eC];rfl,by rw[eC];rfl,by rw[eC];rfl,by rw[eC];rfl,by rw[eC];rfl,by rw[eC];rfl,by rw[ets,ehs,l1,l2],λu=>(by rw[hb] at u;cases u),λ_=>⟨by rw[ets,l1],λj t hj=>hdone j t (Kj.1 hj).1 hj⟩⟩,p1,c1,S1,by rw[ets,l1],hrw⟩
 ·rintro _ B ⟨C1,F1,s1,hbg,p1,c1,S1,hl1,hrw⟩
  have key:=oH (K:=K) p1 c1 hg hF hQ (by omega) hbg.len (by rw[hbg.len];omega) hrw
   (λhno=>hK0 C1 F1 s1 B hbg hno (p1.later (by omega)) c1 S1)
   (λi y t r F' s' t' h' D hti hhi hmin p2 c2 pt ir ro rn S2=>hK1 C1 i y t r F' s' t' h' D hbg hti hhi hmin (p2.later (by omega)) c2 pt ir ro rn (S1.trans S2))
  rw[hbg.cb] at key
  exact key
end
def cZ (W:Nat)(o l:List Int):Nat->List Int
 |0=>KG W 0
 |i+1=>(cZ W o l i).set (o.getD i 0).toNat (l.getD i 0)
section
variable {H0 A B D:aa}{F F' X:Nat->Prop}{p dp Q U most m c:Nat}{s s':Pl}{M M':aU}{R:ah}{C:bc}{ll:List Int}{l:Sl}
theorem vR {i:Nat}{K:Sl->aa->Prop}(h:aO H0 A F p M R)(hl:Ints .u64 A l ll)(hi:i<R.ords.length)(hW:R.W<=16)(ho:R.ords[i].length=R.W)(hll:ll.length=R.W)(hc:∀x∈R.ords[i],0<=x/\x<(R.W:Int))
  (hK:∀out B,az B 0 iB 1 out ((cZ R.W R.ords[i] ll R.W).map (Km .u64))->Ext A B->(∀b,ai out b->A.size<=b)->K out B):Fw.sp (some ⟨R.rb,0,none⟩) l (i:Int) A K:=by
 refine Fw.of ?_
 unfold Fw.vc
 simp only[aq]
 refine ag.ld (c:=af .i64) (i:=2) (x:=(R.W:Int)) h.row rfl ?_
 refine iY.make (base:=0) (by omega) (by omega) (by omega) (by omega) (KU _) λout A1 n1 o1 e1 b1 _=>?_
 have h1:=h.grow e1
 refine ag.ld (c:=ao) (i:=3) (x:=R.os) h1.row rfl ?_
 refine(h.ords.old e1).ld hi rfl λad r _ ra hr _=>?_
 have hrn:=hr.len
 have hln:=hl.len
 have hon:out.n=R.W:=by rw[n1];omega
 refine av R.W (λk z B=>z=(k:Int)/\az B 0 iB 1 out ((cZ R.W R.ords[i] ll k).map (Km .u64))/\Mod (ai out) A1 B) ⟨rfl,by
  have e:(cZ R.W R.ords[i] ll 0).map (Km .u64)=KG ((R.W:Int).toNat) (Km .u64 0):=by
   show (KG R.W (0:Int)).map _=_
   rw[N6,KI]
  rw[e];exact o1,.refl _ _⟩ ?_
 rintro k _ B next hk ⟨rfl,oB,mB⟩ hnext
 have zB:=mB.size
 have z1:=e1.size
 have eB:Ext A B:=((Ext.mod e1).trans mB).ext b1
 refine ak (λhcd=>?_) (λhcd=>?_)
 ·have hkl:k<R.W:=by
   have:(k:Int)<(r.n:Int):=by simpa using hcd
   omega
  have hr':Ints .i64 B r R.ords[i]:=hr.mod mB λa ha u=>by
   have h2:¬A.size<=a.block:=(ra a ha).2
   exact h2 (b1 _ u)
  refine bB hr' (i:=(k:Int)) (j:=k) rfl (by omega) λad2 _=>?_
  refine bB (hl.ext eB) (i:=(k:Int)) (j:=k) rfl (by omega) λad3 _=>?_
  have hx:R.ords[i].getD k 0∈R.ords[i]:=by
   rw[KQ,Kg (by omega)]
   exact Kt _
  obtain⟨x0,x1⟩:=hc _ hx
  refine az.st oB x0 (by omega) rfl λD oD mD zD=>?_
  refine hnext hkl _ _ ⟨aK k (by omega),?_,mB.trans mD⟩
  have e:(cZ R.W R.ords[i] ll (k+1)).map (Km .u64)=((cZ R.W R.ords[i] ll k).map (Km .u64)).set (R.ords[i].getD k 0).toNat (.int .u64 (ll.getD k 0)):=by
   show ((cZ R.W R.ords[i] ll k).set _ _).map _=_
   rw[Nt]
  rw[e]
  exact oD
 ·have hge:k=R.W:=by
   have:¬(k:Int)<(r.n:Int):=by simpa using hcd
   omega
  subst hge
  exact hK out B oB eB b1
set_option maxHeartbeats 2000000 in
theorem qC {w:Nat}{K:(Sl×Bool×Int)->aa->Prop}(hP:aJ H0 A F p dp s M Q U most m)(h:cp H0 A F p M R C)(hg:Gl H0)(hF:R.Fit)(hQ:Q<=1048576)(hw:w=1000000)(hm:m+w*(C.tcs.length+1)<=30000000000)(ht:C.tcs.length<=1000)(htu:C.turns=R.turns)(hol:C.order<R.ords.length)(hord:R.ords[C.order].length=R.W)(hcol:∀x∈R.ords[C.order],0<=x/\x<(R.W:Int))(hcl:C.colsL.length<=1000)
  (hst:(C.begun=true/\C.hs.length=C.tcs.length)\/(C.begun=false/\C.bn=Sl.mk none 0 0)) (hrow:∀x∈C.hs,∀y,x.2=some y->y.length<=1000)
  (hall:∀C1,fZ C C1->∀x∈C1.hs,∀y,x.2=some y->y.length=R.W/\aL (cZ R.W R.ords[C.order] y R.W) C.colsL=C.wordsL)
  (hK0:∀C1 F' s' B,fZ C C1->(∀x∈C1.hs,x.2=none)->aJ H0 B F' p dp s' M Q U most (m+w*(C.tcs.length+1))->cp H0 B F' p M R C1->Step (R.X (C.Z0 F)) (R.X (C1.Z0 F')) A B->K (Sl.mk none 0 0,false,0) B)
  (hK1:∀C1 i y t r F' s' t' h' out B,fZ C C1->C1.tcs[i]?=some t->C1.hs[i]?=some (r,some y)->(∀x∈C1.hs,∀l,x.2=some l->¬aP l y<0)->aJ H0 B F' p dp s' M Q U most (m+w*(C.tcs.length+1))->cp H0 B F' p M R (C1.with (C1.tcs.set i t') (C1.hs.set i h'))->js C1.lowL t t' h'.2->az B 0 iB 1 out ((cZ R.W R.ords[C.order] y R.W).map (Km .u64))->(∀b,ai out b->A.size<=b/\¬R.X ((C1.with (C1.tcs.set i t') (C1.hs.set i h')).Z F') b)->Step (R.X (C.Z0 F)) (R.X ((C1.with (C1.tcs.set i t') (C1.hs.set i h')).Z0 F')) A B->K (out,true,0) B):yN.sp (aD C.cb) A K:=by
 refine yN.of ?_
 unfold yN.vc
 refine ax rfl ?_
 simp only[aq,aD]
 refine ag.ld (c:=au) (i:=0) (x:=aD R.rb) h.row rfl ?_
 refine iE h.rel.row ?_
 refine ax rfl ?_
 refine ag.ld (c:=aw) (i:=8) (x:=false) h.row rfl ?_
 refine ax rfl ?_
 refine ag.ld (c:=af .i64) (i:=7) (x:=(C.turns:Int)) h.row rfl ?_
 refine ag.ld (c:=au) (i:=0) (x:=aD R.rb) h.row rfl ?_
 simp only[aq,aD]
 refine ag.ld (c:=af .i64) (i:=10) (x:=(R.turns:Int)) h.rel.row rfl ?_
 refine ax (by rw[htu];simp) ?_
 refine av 0 (λ_ _ B=>A=B) rfl ?_
 rintro _ _ _ next _ rfl _
 refine vu hP h hg hF hQ hw hm ht hst hrow (λC1 F1 s1 B hbg hno p1 c1 S1=>?_) (λC1 i y t r F1 s1 t' h' B hbg hti hhi hmin p1 c1 pt ir ro rn S1=>?_)
 ·refine ax rfl ?_
  refine aT rfl ?_
  have rw1:=c1.row
  rw[hbg.cb] at rw1
  refine ag.ld (c:=au) (i:=0) (x:=aD R.rb) rw1 rfl ?_
  refine cg _ rfl ?_
  refine l9 ?_
  exact hK0 C1 F1 s1 B hbg hno p1 c1 S1
 ·refine ax rfl ?_
  have hrn:r.a.isNone=false:=by
   cases hra:r.a with
   |none=>exact absurd hra rn
   |some _=>rfl
  refine ax hrn ?_
  obtain⟨y1,y2⟩:=hall C1 hbg _ (Ki hhi) y rfl
  have rw1:=c1.row
  have ecb:(C1.with (C1.tcs.set i t') (C1.hs.set i h')).cb=C.cb:=hbg.cb
  rw[ecb] at rw1
  refine ag.ld (c:=au) (i:=0) (x:=aD R.rb) rw1 rfl ?_
  refine cg _ rfl ?_
  refine ag.ld (c:=af .i64) (i:=1) (x:=(C.order:Int)) rw1 (by show some (Km .i64 (C1.order:Int))=_;rw[hbg.order]) ?_
  refine vR c1.rel ir hol hF.W hord y1 hcol λout D oD eD fD=>?_
  have c2:=c1.grow eD
  have rw2:=rw1.ext eD
  refine ag.ld (c:=ao) (i:=3) (x:=C1.cols) rw2 rfl ?_
  have hcols:Ints .i64 D C1.cols C.colsL:=hbg.colsL▸c2.cols.1
  refine kV oD.ints hcols (by omega) λtr E oE eE=>?_
  have c3:=c2.grow eE
  refine ag.ld (c:=ao) (i:=4) (x:=C1.words) (rw2.ext eE) rfl ?_
  have hwords:Ints .u64 E C1.words C.wordsL:=hbg.wordsL▸c3.words.1
  rw[y2] at oE
  have hlw:C.wordsL.length<=1000:=by
   rw[<-y2]
   unfold aL
   split
   ·rw[KM];exact hcl
   ·simp
  refine gH oE.ints hwords (by omega) ?_
  refine aT (by simp) ?_
  have eDE:=eD.trans eE
  have pE:=p1.grow eDE
  have hzB:=S1.mod.size
  refine hK1 C1 i y t r F1 s1 t' h' out E hbg hti hhi hmin pE c3 pt (oD.ext eE) (λb hb=>⟨by have:=fD b hb;omega,λu=>?_⟩) (S1.trans (Step.bp eDE))
  have hb2:=fD b hb
  rcases u with (u|u)|u
  ·have:=p1.al.lt b u;omega
  ·have:=c1.lt b u;omega
  ·have:=c1.rel.lt b u;omega
end
end Go.Proofs.YtkehfflpbpdokaaGreatDoor
namespace Go.Proofs.YtkehfflpbpdokaaGreatDoor
theorem sq {L:List (List Int)}{low y:List Int}{strict:Bool}(h:gS L)(hy:(L.filter (pq low strict)).head?=some y):L.filter (pq y true)=(L.filter (pq low strict)).tail:=by
 obtain⟨t,ht⟩:∃t,L.filter (pq low strict)=y::t:=by
  cases hl:L.filter (pq low strict) with
  |nil=>rw[hl] at hy;cases hy
  |cons a t=>rw[hl] at hy;cases hy;exact⟨t,rfl⟩
 have ha:gS (y::t):=ht▸h.sublist Mg
 obtain⟨a1,a2⟩:=LR.1 ha
 have hm:∀x,x∈y::t↔x∈L/\pq low strict x=true:=λx=>by rw[<-ht,KP]
 rw[ht]
 refine qL (h.sublist Mg) a2 λx=>?_
 have hyp:=((hm y).1 Kw).2
 constructor
 ·intro u
  obtain⟨u1,u2⟩:=KP.1 u
  have u3:aP y x<0:=of_decide_eq_true u2
  rcases Ku.1 ((hm x).2 ⟨u1,Il _ _ u3 hyp⟩) with v|v
  ·subst v;exact absurd u3 (bM _)
  ·exact v
 ·intro u
  exact KP.2 ⟨((hm x).1 (KO _ u)).1,decide_eq_true (p:=aP y x<0) (a1 x u)⟩
def ki (p:List Int)(l:List (List Int)):List (List Int):=l.takeWhile λy=>cL y p
def zW (p:List Int)(t:TC):List (List Int):=ki p t.rest
def E4 (p:List Int)(t:TC)(h:Option (List Int)):List (List Int):=match h with|none=>[]|some y=>y::ki p t.rest
theorem jO (p:List Int)(l:List (List Int)):(ki p l).Sublist l:=List.takeWhile_sublist _
theorem js.rem {p:List Int}{t t':TC}{h':Option (List Int)}(h:js p t t' h')(ha:gS t.t.L):E4 p t' h'=zW p t:=by
 obtain⟨e1,_,⟨h1,_,_,rfl⟩|⟨y,h1,h2,h3,rfl⟩⟩:=h
 ·have:t.rest=[]:=by cases hr:t.rest with
   |nil=>rfl
   |cons a l=>rw[hr] at h1;cases h1
  unfold zW;rw[this];rfl
 ·have e2:t'.rest=t.rest.tail:=by
   unfold TC.rest
   rw[e1,h2,h3]
   exact sq ha h1
  obtain⟨l,hl⟩:∃l,t.rest=y::l:=by
   cases hr:t.rest with
   |nil=>rw[hr] at h1;cases h1
   |cons a l=>rw[hr] at h1;cases h1;exact⟨l,rfl⟩
  rw[hl] at e2
  unfold zW ki
  rw[hl,List.takeWhile_cons]
  split
  ·show y::ki p t'.rest=_
   rw[e2];rfl
  ·rfl
def bc.rem (C:bc):List (List (List Int)):=if C.begun then Te (λt h=>E4 C.lowL t h.2) C.tcs C.hs else C.tcs.map (zW C.lowL)
def bc.fU (C:bc):Prop:=∀t∈C.tcs,gS t.t.L
theorem fZ.rem {C C1:bc}(h:fZ C C1)(ha:C.fU):C1.rem=C.rem:=by
 cases hb:C.begun with
 |true=>rw[h.old hb]
 |false=>
   obtain⟨n1,n2⟩:=h.new hb
   unfold bc.rem
   rw[h.begun,hb,if_pos rfl,if_neg (by simp),h.lowL]
   apply MG
   intro i
   rw[MM,KC]
   cases hi:C.tcs[i]? with
   |none=>
     have:C1.tcs[i]?=none:=by rw[List.getElem?_eq_none_iff] at hi ⊢;omega
     rw[this];rfl
   |some t=>
     obtain⟨t',h',a1,a2,a3⟩:=n2 i t hi
     rw[a1,a2]
     show some _=some _
     rw[a3.rem (ha t (Ki hi))]
theorem fZ.fU {C C1:bc}(h:fZ C C1)(ha:C.fU):C1.fU:=by
 cases hb:C.begun with
 |true=>rw[h.old hb];exact ha
 |false=>
   obtain⟨n1,n2⟩:=h.new hb
   intro t ht
   obtain⟨i,hi⟩:=Ko.1 ht
   have hl:=(Kj.1 hi).1
   obtain⟨t',h',a1,a2,a3⟩:=n2 i C.tcs[i] (Kg (by omega))
   rw[hi] at a1
   cases a1
   rw[a3.1]
   exact ha _ (Kt _)
theorem bc.CS {C:bc}(hb:C.begun=true)(hn:∀x∈C.hs,x.2=none):∀l∈C.rem,l=[]:=by
 intro l hl
 unfold bc.rem at hl
 rw[hb,if_pos rfl] at hl
 obtain⟨i,hi⟩:=Ko.1 hl
 rw[MM] at hi
 split at hi
 ·rename_i t x _ hx
  cases hi
  rw[hn x (Ki hx)];rfl
 ·cases hi
inductive gI:List (List (List Int))->List (List Int)->List (List (List Int))->Prop
 |nil (X:List (List (List Int))):gI X [] X
 |cons {X X':List (List (List Int))} {i:Nat} {y:List Int} {ys es:List (List Int)}:X[i]?=some (y::ys)->(∀l∈X,∀z,l.head?=some z->¬aP z y<0)->gI (X.set i ys) es X'->gI X (y::es) X'
theorem gI.trans {X Y Z:List (List (List Int))}{a b:List (List Int)}(h:gI X a Y)(k:gI Y b Z):gI X (a++b) Z:=by
 induction h with
 |nil=>exact k
 |cons h1 h2 _ ih=>exact .cons h1 h2 (ih k)
theorem nS {X:List (List (List Int))}{i:Nat}{y:List Int}{ys:List (List Int)}(h:X[i]?=some (y::ys)):(y::(X.set i ys).flatten).Perm X.flatten:=by
 induction X generalizing i with
 |nil=>cases h
 |cons x X ih=>
   cases i with
   |zero=>
     cases h
     exact Ol _
   |succ i=>
     show (y::(x++(X.set i ys).flatten)).Perm (x++X.flatten)
     exact List.perm_middle.symm.trans (List.Perm.append_left x (ih h))
theorem gI.perm {X X':List (List (List Int))}{es:List (List Int)}(h:gI X es X'):(es++X'.flatten).Perm X.flatten:=by
 induction h with
 |nil=>exact Ol _
 |cons h1 _ _ ih=>exact(List.Perm.cons _ ih).trans (nS h1)
theorem gI.up {X X':List (List (List Int))}{es:List (List Int)}(h:gI X es X')(ha:∀l∈X,gS l)(hn:X.flatten.Nodup):gS es:=by
 induction h with
 |nil=>exact Oh
 |cons h1 h2 k ih=>
   rename_i X X' i y ys es
   have hp:=nS h1
   have hn1:=hp.nodup_iff.2 hn
   obtain⟨n1,n2⟩:=Lw.1 hn1
   have ha1:∀l∈X.set i ys,gS l:=λl hl=>by
    rcases Nf hl with q|q
    ·exact ha l q
    ·subst q
     exact(LR.1 (ha _ (Ki h1))).2
   refine LR.2 ⟨λz hz=>?_,ih ha1 n2⟩
   have hz1:z∈(X.set i ys).flatten:=k.perm.mem_iff.1 (Kk.2 (.inl hz))
   have hz2:z∈X.flatten:=hp.mem_iff.1 (KO _ hz1)
   obtain⟨l,hl,hzl⟩:=Oz.1 hz2
   have hne:z≠y:=λe=>n1 (e▸hz1)
   have hle:¬je z y:=by
    cases l with
    |nil=>cases hzl
    |cons a t=>
      have h3:=h2 _ hl a rfl
      rcases Ku.1 hzl with q|q
      ·subst q;exact h3
      ·have:=(LR.1 (ha _ hl)).1 z q
       exact λu=>h3 (bJ this u)
   rcases mg y z with q|q|q
   ·exact q
   ·exact absurd q.symm hne
   ·exact absurd q hle
theorem bc.Jh {C:bc}{i:Nat}{t t':TC}{y:List Int}{r:Sl}{h':Sl×Option (List Int)}(hb:C.begun=true)(ha:C.fU)(ht:C.tcs[i]?=some t)(hh:C.hs[i]?=some (r,some y))(hmin:∀x∈C.hs,∀l,x.2=some l->¬aP l y<0)(hp:js C.lowL t t' h'.2):gI C.rem [y] (C.with (C.tcs.set i t') (C.hs.set i h')).rem:=by
 have e:(C.with (C.tcs.set i t') (C.hs.set i h')).rem=C.rem.set i (zW C.lowL t):=by
  show (if C.begun then _ else _)=_
  unfold bc.rem
  rw[hb,if_pos rfl,if_pos rfl]
  show Te (λt h=>E4 C.lowL t h.2) (C.tcs.set i t') (C.hs.set i h')=_
  apply MG
  intro j
  have hil:=(Kj.1 ht).1
  have hil2:=(Kj.1 hh).1
  rw[MM,Le,Le,Le,MM]
  by_cases q:i=j
  ·subst q
   rw[if_pos rfl,if_pos rfl,if_pos rfl,if_pos hil,if_pos hil2,if_pos (by rw[List.length_zipWith];omega)]
   show some _=some _
   rw[hp.rem (ha t (Ki ht))]
  ·rw[if_neg q,if_neg q,if_neg q]
 rw[e]
 refine .cons (i:=i) (y:=y) (ys:=zW C.lowL t) ?_ (λl hl z hz=>?_) (.nil _)
 ·unfold bc.rem
  rw[hb,if_pos rfl,MM,ht,hh];rfl
 ·unfold bc.rem at hl
  rw[hb,if_pos rfl] at hl
  obtain⟨j,hj⟩:=Ko.1 hl
  rw[MM] at hj
  split at hj
  ·rename_i t1 x _ hx
   cases hj
   cases hx2:x.2 with
   |none=>rw[hx2] at hz;cases hz
   |some w=>
     rw[hx2] at hz
     cases hz
     exact hmin x (Ki hx) _ hx2
  ·cases hj
open Go.MapKept
structure lh (C C2:bc):Prop where
 cb:C2.cb=C.cb
 order:C2.order=C.order
 lowL:C2.lowL=C.lowL
 colsL:C2.colsL=C.colsL
 wordsL:C2.wordsL=C.wordsL
 turns:C2.turns=C.turns
 ext:C2.ext=C.ext
 len:C2.tcs.length=C.tcs.length
 st:(C2.begun=true/\C2.hs.length=C2.tcs.length)\/(C2.begun=false/\C2.bn=Sl.mk none 0 0)
 fU:C2.fU
theorem lh.trans {C C1 C2:bc}(h:lh C C1)(k:lh C1 C2):lh C C2:=
 ⟨k.cb.trans h.cb,k.order.trans h.order,k.lowL.trans h.lowL,k.colsL.trans h.colsL,k.wordsL.trans h.wordsL,k.turns.trans h.turns,k.ext.trans h.ext,k.len.trans h.len,k.st,k.fU⟩
theorem fZ.Jg {C C1:bc}(h:fZ C C1):C1.tcs.length=C.tcs.length:=by
 cases hb:C.begun with
 |true=>rw[h.old hb]
 |false=>exact(h.new hb).1
theorem fZ.late {C C1:bc}(h:fZ C C1)(ha:C.fU):lh C C1:=
 ⟨h.cb,h.order,h.lowL,h.colsL,h.wordsL,h.turns,h.ext,h.Jg,.inl ⟨h.begun,h.len⟩,h.fU ha⟩
theorem lh.set {C C1:bc}{i:Nat}{t t':TC}{h':Sl×Option (List Int)}(k:lh C C1)(hb:C1.begun=true)(hl:C1.hs.length=C1.tcs.length)(ht:C1.tcs[i]?=some t)(he:t'.t=t.t):lh C (C1.with (C1.tcs.set i t') (C1.hs.set i h')):=by
 refine⟨k.cb,k.order,k.lowL,k.colsL,k.wordsL,k.turns,k.ext,?_,.inl ⟨hb,?_⟩,λx hx=>?_⟩
 ·show (C1.tcs.set i t').length=_
  rw[Ob];exact k.len
 ·show (C1.hs.set i h').length=(C1.tcs.set i t').length
  rw[Ob,Ob];exact hl
 ·rcases Nf hx with q|q
  ·exact k.fU x q
  ·subst q
   rw[he]
   exact k.fU t (Ki ht)
theorem bc.head_mem {C:bc}(hb:C.begun=true)(hl:C.hs.length=C.tcs.length){x:Sl×Option (List Int)}{y:List Int}(hx:x∈C.hs)(hy:x.2=some y):∃l∈C.rem,y∈l:=by
 obtain⟨i,hi⟩:=Ko.1 hx
 have hil:=(Kj.1 hi).1
 refine⟨E4 C.lowL C.tcs[i] x.2,?_,by rw[hy];exact Kw⟩
 unfold bc.rem
 rw[hb,if_pos rfl]
 refine Ki (i:=i) ?_
 rw[MM,Kg (show i<C.tcs.length by omega),hi]
theorem gI.lens {X X':List (List (List Int))}{es:List (List Int)}(h:gI X es X'):es.length+X'.flatten.length=X.flatten.length:=by
 have:=h.perm.length_eq
 rwa [Kv] at this
theorem gI.mem {X X':List (List (List Int))}{es:List (List Int)}(h:gI X es X'){y:List Int}:(∃l∈X',y∈l)->∃l∈X,y∈l:=by
 intro u
 have h1:y∈X'.flatten:=Oz.2 u
 exact Oz.1 (h.perm.mem_iff.1 (Kk.2 (.inr h1)))
def FI (R:ah)(C:bc)(y:List Int):Prop:=aL (cZ R.W (R.ords.getD C.order []) y R.W) C.colsL=C.wordsL
section
variable {H0 A B D:aa}{F F' X:Nat->Prop}{p dp Q U most m c:Nat}{s s':Pl}{M M':aU}{R:ah}{C:bc}{ll:List Int}{l:Sl}
set_option maxHeartbeats 4000000 in
theorem uN {w W1:Nat}{K:(Sl×Bool×Int)->aa->Prop}(hP:aJ H0 A F p dp s M Q U most m)(h:cp H0 A F p M R C)(hg:Gl H0)(hF:R.Fit)(hQ:Q<=1048576)(hw:w=1000000)(hW1:W1=w*(C.tcs.length+1))(hm:m+W1*(C.rem.flatten.length+1)<=30000000000)(ht:C.tcs.length<=1000)(htu:C.turns=R.turns)(hol:C.order<R.ords.length)(hord:(R.ords.getD C.order []).length=R.W)(hcol:∀x∈R.ords.getD C.order [],0<=x/\x<(R.W:Int))(hcl:C.colsL.length<=1000)(hwl:C.wordsL.length<=1000)
  (hst:(C.begun=true/\C.hs.length=C.tcs.length)\/(C.begun=false/\C.bn=Sl.mk none 0 0)) (hasc:C.fU) (hrow:∀l∈C.rem,∀y∈l,y.length=R.W)
  (hK0:∀C2 es F' s' B,lh C C2->gI C.rem es C2.rem->(∀l∈C2.rem,l=[])->(∀y∈es,¬FI R C y)->aJ H0 B F' p dp s' M Q U most (m+W1*(es.length+1))->cp H0 B F' p M R C2->Step (R.X (C.Z0 F)) (R.X (C2.Z0 F')) A B->K (Sl.mk none 0 0,false,0) B)
  (hK1:∀C2 es y out F' s' B,lh C C2->gI C.rem (es++[y]) C2.rem->(∀z∈es,¬FI R C z)->FI R C y->aJ H0 B F' p dp s' M Q U most (m+W1*(es.length+1))->cp H0 B F' p M R C2->az B 0 iB 1 out ((cZ R.W (R.ords.getD C.order []) y R.W).map (Km .u64))->(∀b,ai out b->A.size<=b/\¬R.X (C2.Z F') b)->Step (R.X (C.Z0 F)) (R.X (C2.Z0 F')) A B->K (out,true,0) B):yN.sp (aD C.cb) A K:=by
 refine yN.of ?_
 unfold yN.vc
 refine ax rfl ?_
 simp only[aq,aD]
 refine ag.ld (c:=au) (i:=0) (x:=aD R.rb) h.row rfl ?_
 refine iE h.rel.row ?_
 refine ax rfl ?_
 refine ag.ld (c:=aw) (i:=8) (x:=false) h.row rfl ?_
 refine ax rfl ?_
 refine ag.ld (c:=af .i64) (i:=7) (x:=(C.turns:Int)) h.row rfl ?_
 refine ag.ld (c:=au) (i:=0) (x:=aD R.rb) h.row rfl ?_
 simp only[aq,aD]
 refine ag.ld (c:=af .i64) (i:=10) (x:=(R.turns:Int)) h.rel.row rfl ?_
 refine ax (by rw[htu];simp) ?_
 have eord:R.ords.getD C.order []=R.ords[C.order]:=by simp[KQ,Kg hol]
 have hW16:=hF.W
 refine av C.rem.flatten.length (λk _ B=>∃C2 es F' s',es.length=k/\lh C C2/\gI C.rem es C2.rem/\(∀y∈es,¬FI R C y)/\aJ H0 B F' p dp s' M Q U most (m+W1*k)/\cp H0 B F' p M R C2/\Step (R.X (C.Z0 F)) (R.X (C2.Z0 F')) A B) ⟨C,[],F,s,rfl,⟨rfl,rfl,rfl,rfl,rfl,rfl,rfl,rfl,hst,hasc⟩,.nil _,(λy hy=>by cases hy),hP.later (M5 _ _),h,Step.refl _ _⟩ ?_
 rintro k _ A1 next hk ⟨C0,es,F0,s0,hes,kn,tk,hno,p0,c0,S0⟩ hnext
 have hmul:W1*(k+1)=W1*k+W1:=Oo _ _
 have hmk:W1*(k+1)<=W1*(C.rem.flatten.length+1):=LM _ (by omega)
 have eW:w*(C0.tcs.length+1)=W1:=by rw[kn.len,hW1]
 have hrow0:∀x∈C0.hs,∀y,x.2=some y->y.length<=1000:=by
  intro x hx y hy
  rcases kn.st with ⟨b1,b2⟩|⟨b1,b2⟩
  ·obtain⟨l,hl,hyl⟩:=tk.mem (bc.head_mem b1 b2 hx hy)
   have:=hrow l hl y hyl
   omega
  ·have h1:=c0.hd.1
   have:C0.hs=[]:=by
    rw[KM,b2] at h1
    exact KY (by simpa using h1)
   rw[this] at hx;cases hx
 rw[<-kn.cb]
 refine vu p0 c0 hg hF hQ hw (by omega) (by rw[kn.len];exact ht) kn.st hrow0 (λC1 F1 s1 B hbg hnone p1 c1 S1=>?_) (λC1 i y t r F1 s1 t' h' B hbg hti hhi hmin p1 c1 pt ir ro rn S1=>?_)
 ·refine ax rfl ?_
  refine aT rfl ?_
  have rw1:=c1.row
  rw[hbg.cb] at rw1
  refine ag.ld (c:=au) (i:=0) (x:=aD R.rb) rw1 rfl ?_
  refine cg _ rfl ?_
  refine l9 ?_
  refine hK0 C1 es F1 s1 B (kn.trans (hbg.late kn.fU)) (by rw[hbg.rem kn.fU];exact tk) (bc.CS hbg.begun hnone) hno (p1.later (by rw[hes];omega)) c1 (S0.trans S1)
 ·refine ax rfl ?_
  have hrn:r.a.isNone=false:=by
   cases hra:r.a with
   |none=>exact absurd hra rn
   |some _=>rfl
  refine ax hrn ?_
  have kb:=kn.trans (hbg.late kn.fU)
  have k2:lh C (C1.with (C1.tcs.set i t') (C1.hs.set i h')):=kb.set hbg.begun hbg.len hti pt.1
  have tk1:gI C.rem es C1.rem:=by rw[hbg.rem kn.fU];exact tk
  have tk2:gI C.rem (es++[y]) (C1.with (C1.tcs.set i t') (C1.hs.set i h')).rem:=tk1.trans (bc.Jh hbg.begun kb.fU hti hhi hmin pt)
  have y1:y.length=R.W:=by
   obtain⟨l,hl,hyl⟩:=tk1.mem (bc.head_mem hbg.begun hbg.len (Ki hhi) rfl)
   exact hrow l hl y hyl
  have hlen2:k<C.rem.flatten.length:=by
   have:=tk2.lens
   rw[Kv,hes,Lq] at this
   omega
  have rw1:=c1.row
  have ecb:(C1.with (C1.tcs.set i t') (C1.hs.set i h')).cb=C0.cb:=hbg.cb
  rw[ecb] at rw1
  refine ag.ld (c:=au) (i:=0) (x:=aD R.rb) rw1 rfl ?_
  refine cg _ rfl ?_
  refine ag.ld (c:=af .i64) (i:=1) (x:=(C.order:Int)) rw1 (by show some (Km .i64 (C1.order:Int))=_;rw[kb.order]) ?_
  refine vR c1.rel ir hol hF.W (by rw[<-eord];exact hord) y1 (by rw[<-eord];exact hcol) λout D oD eD fD=>?_
  rw[<-eord] at oD
  have c2:=c1.grow eD
  have rw2:=rw1.ext eD
  refine ag.ld (c:=ao) (i:=3) (x:=C1.cols) rw2 rfl ?_
  have hcols:Ints .i64 D C1.cols C.colsL:=kb.colsL▸c2.cols.1
  refine kV oD.ints hcols (by omega) λtr E oE eE=>?_
  have c3:=c2.grow eE
  refine ag.ld (c:=ao) (i:=4) (x:=C1.words) (rw2.ext eE) rfl ?_
  have hwords:Ints .u64 E C1.words C.wordsL:=kb.wordsL▸c3.words.1
  have htl:(aL (cZ R.W (R.ords.getD C.order []) y R.W) C.colsL).length<=1000:=by
   unfold aL
   split
   ·rw[KM];exact hcl
   ·simp
  refine gH oE.ints hwords (by omega) ?_
  have eDE:=eD.trans eE
  have pE:=p1.grow eDE
  have hzB:=S1.mod.size
  have hz0:=S0.mod.size
  have SE:=(S0.trans S1).trans (Step.bp eDE)
  have pE':aJ H0 E F1 p dp s1 M Q U most (m+W1*(k+1)):=pE.later (by omega)
  refine ak (λhq=>?_) (λhq=>?_)
  ·have hq:aL (cZ R.W (R.ords.getD C.order []) y R.W) C.colsL=C.wordsL:=of_decide_eq_true hq
   refine hK1 _ es y out F1 s1 E k2 tk2 hno hq (by rw[hes];exact pE') c3 (oD.ext eE) (λb hb=>⟨by have:=fD b hb;omega,λu=>?_⟩) SE
   have hb2:=fD b hb
   rcases u with (u|u)|u
   ·have:=p1.al.lt b u;omega
   ·have:=c1.lt b u;omega
   ·have:=c1.rel.lt b u;omega
  ·have hq:¬aL (cZ R.W (R.ords.getD C.order []) y R.W) C.colsL=C.wordsL:=of_decide_eq_false hq
   refine hnext hlen2 _ _ ⟨_,es++[y],F1,s1,by simp[hes],k2,tk2,λz hz=>?_,pE',c3,SE⟩
   rcases Kk.1 hz with q|q
   ·exact hno z q
   ·rw[Lc.1 q];exact hq
end
def bc.pY (C:bc)(E:Nat->Prop):bc:=⟨C.cb,C.order,C.low,C.lowL,C.cols,C.colsL,C.words,C.wordsL,C.fr,C.tcs,C.bn,C.hs,C.turns,C.begun,E⟩
structure sF (C C2:bc):Prop where
 cb:C2.cb=C.cb
 order:C2.order=C.order
 lowL:C2.lowL=C.lowL
 colsL:C2.colsL=C.colsL
 wordsL:C2.wordsL=C.wordsL
 turns:C2.turns=C.turns
 len:C2.tcs.length=C.tcs.length
 st:(C2.begun=true/\C2.hs.length=C2.tcs.length)\/(C2.begun=false/\C2.bn=Sl.mk none 0 0)
 fU:C2.fU
theorem lh.n {C C1 C2:bc}(h:sF C C1)(k:lh C1 C2):sF C C2:=
 ⟨k.cb.trans h.cb,k.order.trans h.order,k.lowL.trans h.lowL,k.colsL.trans h.colsL,k.wordsL.trans h.wordsL,k.turns.trans h.turns,k.len.trans h.len,k.st,k.fU⟩
def Hu (R:ah)(C:bc)(y:List Int):Bool:=decide (aL (cZ R.W (R.ords.getD C.order []) y R.W) C.colsL=C.wordsL)
theorem sF.mt {R:ah}{C C2:bc}(h:sF C C2)(y:List Int):FI R C2 y↔Hu R C y=true:=by
 unfold FI Hu
 rw[h.order,h.colsL,h.wordsL,decide_eq_true_iff]
section
variable {H0 A B D:aa}{F F' X V:Nat->Prop}{p dp Q U most m c:Nat}{s s':Pl}{M M':aU}{R:ah}{C:bc}{ll:List Int}{l:Sl}
theorem cp.GR (h:cp H0 A F p M R C)(hF:∀b,F b->b<A.size)(hz:H0.size<=A.size)(mm:Mod C.ext A B)(hX:∀b,X b->A.size<=b/\b<B.size):cp H0 B F p M R (C.pY λb=>C.ext b\/X b):=by
 have o1:∀b,(C.pY λb=>C.ext b\/X b).pa b->C.pa b\/X b:=λb u=>by
  rcases u with u|u|u|u|u
  ·exact .inl (.inl u)
  ·exact .inl (.inr (.inl u))
  ·exact .inl (.inr (.inr (.inl u)))
  ·exact .inl (.inr (.inr (.inr u)))
  ·exact .inr u
 have SZ:Step (C.Z F) ((C.pY λb=>C.ext b\/X b).Z F) A B:=⟨mm.mono λb _ u=>.inr (.inr (.inr (.inr u))),λb u=>by
  rcases u with u|u
  ·exact .inl (.inl u)
  ·exact(o1 b u).imp .inr λv=>(hX b v).1⟩
 have SY:Step (R.X (C.Z F)) (R.X ((C.pY λb=>C.ext b\/X b).Z F)) A B:=Step.rel SZ
 have lt0:∀b,C.rI b->b<A.size:=λb u=>h.lt b (bc.xz u)
 refine⟨h.rel.al SZ,h.row.mod mm λu=>h.sep _ u (.inl rfl),⟨h.low.2.ints h.low.1 SY,h.low.2.step SY⟩,⟨h.cols.2.ints h.cols.1 SY,h.cols.2.step SY⟩,⟨h.words.2.ints h.words.1 SY,h.words.2.step SY⟩,h.fr.step SY,λu hu=>?_,h.hd.mod mm λb hb u=>h.sep b u (.inr (.inr hb)),λy hy=>(h.hr y hy).step SY,h.cbs,λb hb=>?_,λb hb=>?_,λb hb u=>?_⟩
 ·obtain⟨a1,a2,a3⟩:=h.tc u hu
  exact⟨a1,⟨a2.row.mod mm λv=>h.sep _ v (.inr (.inl ⟨u,hu,rfl⟩)),a3.ints a2.ints SY,λad ha=>⟨K9 (a2.off ad ha).1 mm.size,(a2.off ad ha).2⟩,a2.cb⟩,a3.step SY⟩
 ·rcases o1 b hb with v|v
  ·exact h.off b v
  ·have:=(hX b v).1
   exact⟨λu=>by have:=hF b u;omega,by omega⟩
 ·rcases hb with v|v
  ·exact K9 (h.ext b v) mm.size
  ·exact(hX b v).2
 ·have u:C.rI b:=u
  rcases hb with v|v
  ·exact h.sep b v u
  ·have:=lt0 b u;have:=(hX b v).1;omega
theorem aJ.Ex (hP:aJ H0 A F p dp s M Q U most m)(h:cp H0 A F p M R C)(mm:Mod C.ext A B):aJ H0 B F p dp s M Q U most m:=
 hP.aside ⟨K4 hP.ext.size mm.size,λb hb _=>(mm.same b (K9 hb hP.ext.size) λu=>by have:=(h.off b (.inr (.inr (.inr u)))).2;omega).trans (hP.ext.same b hb id)⟩ λb hb=>mm.same b (hP.al.lt b hb) λu=>(h.off b (.inr (.inr (.inr u)))).1 hb
theorem cp.yC (h:cp H0 A F p M R C){b:Nat}(hb:C.ext b):¬R.X (C.Z0 F) b:=by
 have hO:C.pa b:=.inr (.inr (.inr hb))
 rintro((u|u)|u)
 ·exact(h.off b hO).1 u
 ·exact h.sep b hb u
 ·exact(h.rel.off b u).1 (.inr hO)
end
section
variable {H0 A B D:aa}{F F' X V:Nat->Prop}{p dp Q U most m c:Nat}{s s':Pl}{M M':aU}{R:ah}{C:bc}{ll:List Int}{l:Sl}
def om (R:ah)(C:bc)(es:List (List Int)):List (List Int):=(es.filter (Hu R C)).map λy=>cZ R.W (R.ords.getD C.order []) y R.W
set_option maxHeartbeats 4000000 in
theorem zu {w W1:Nat}{K:(Sl×Bool)->aa->Prop}(hP:aJ H0 A F p dp s M Q U most m)(h:cp H0 A F p M R C)(hext:C.ext=V)(hg:Gl H0)(hF:R.Fit)(hQ:Q<=1048576)(hw:w=1000000)(hW1:W1=w*(C.tcs.length+1))(hm:m+W1*(C.rem.flatten.length+1)<=30000000000)(ht:C.tcs.length<=1000)(htu:C.turns=R.turns)(hol:C.order<R.ords.length)(hord:(R.ords.getD C.order []).length=R.W)(hcol:∀x∈R.ords.getD C.order [],0<=x/\x<(R.W:Int))(hcl:C.colsL.length<=1000)(hwl:C.wordsL.length<=1000)
  (hst:(C.begun=true/\C.hs.length=C.tcs.length)\/(C.begun=false/\C.bn=Sl.mk none 0 0)) (hasc:C.fU) (hrow:∀l∈C.rem,∀y∈l,y.length=R.W) (hn:C.rem.flatten.length<=1000)
  (hK:∀C2 es F' s' out B,sF C C2->gI C.rem es C2.rem->(∀l∈C2.rem,l=[])->aJ H0 B F' p dp s' M Q U most (m+W1*(C.rem.flatten.length+1))->aO H0 B (λb=>F' b\/V b) p M R->gh (λb=>R.X F' b\/V b) B out (om R C es)->Step (R.X (C.Z0 F)) (R.X (C2.Z0 F')) A B->K (out,true) B):
  aI Sl (Sl.mk none 0 0) A λnext out H2=>yN.sp (aD C.cb) H2 λ(r_1:(Sl×Bool×Int)) H3=>br ((r_1.2.2!=(0:Int))||(!r_1.2.1)) (K (out,r_1.2.2==(0:Int)) H3) (aM H3 #[r_1.1.v] dn λp H4=>bo ao Kf (Ks #[dG,dG] dG #[out.v,(.slice (some p) 1 1)]) H4 λ(out_1:Sl) H5=>next out_1 H5):=by
 have hVl:∀b,V b->b<A.size:=λb hb=>h.ext b (hext▸hb)
 refine av C.rem.flatten.length (λk out B=>∃C2 es F' s' rs,sF C C2/\(∀b,V b\/ai out b->C2.ext b)/\gI C.rem es C2.rem/\aJ H0 B F' p dp s' M Q U most (m+W1*es.length)/\cp H0 B F' p M R C2/\az B A.size dn 1 out (rs.map Sl.v)/\rs.length=k/\(om R C es).length=k/\(∀(j:Nat) (r:Sl) (l:List Int),rs[j]?=some r->(om R C es)[j]?=some l->Ints .u64 B r l)/\(∀r∈rs,fL (R.X (C2.Z F')) B r/\∀b,ai r b->A.size<=b)/\Step (R.X (C.Z0 F)) (R.X (C2.Z0 F')) A B) ⟨C,[],F,s,[],⟨rfl,rfl,rfl,rfl,rfl,rfl,rfl,hst,hasc⟩,(λb u=>?_),.nil _,hP.later (M5 _ _),h,az.nil _ _ _ _,rfl,rfl,(λj r l hj=>by simp at hj),(λr hr=>by cases hr),Step.refl _ _⟩ ?_
 ·rcases u with u|⟨ad,ha,_⟩
  ·rw[hext];exact u
  ·cases ha
 rintro k out B next hk ⟨C2,es,F1,s1,rs,ln,he,tk,p1,c1,ob,hrl,hol2,hr,hap,S1⟩ hnext
 have hlen:=tk.lens
 have zB:=S1.mod.size
 have e1:W1*(C2.rem.flatten.length+1)+W1*es.length=W1*(C.rem.flatten.length+1):=by
  rw[<-OC];congr 1;omega
 have hrow2:∀l∈C2.rem,∀y∈l,y.length=R.W:=λl hl y hy=>by
  obtain⟨l',h1,h2⟩:=tk.mem ⟨l,hl,hy⟩
  exact hrow l' h1 y h2
 have hmt:∀y,FI R C2 y↔Hu R C y=true:=ln.mt
 have filt:∀es3:List (List Int),(∀y∈es3,¬FI R C2 y)->es3.filter (Hu R C)=[]:=λes3 hno=>List.filter_eq_nil_iff.2 λy hy=>by
  have:=hno y hy
  rw[hmt] at this
  exact this
 have aA:∀b,V b\/ai out b->¬R.X (C2.Z0 F1) b:=λb hb=>c1.yC (he b hb)
 rw[<-ln.cb]
 refine uN (W1:=W1) p1 c1 hg hF hQ hw (by rw[ln.len];exact hW1) (by omega) (by rw[ln.len];exact ht) (by rw[ln.turns];exact htu) (by rw[ln.order];exact hol) (by rw[ln.order];exact hord) (by rw[ln.order];exact hcol) (by rw[ln.colsL];exact hcl) (by rw[ln.wordsL];exact hwl) ln.st ln.fU hrow2 (λC3 es3 F3 s3 D lt3 tk3 hnil hno p3 c3 S3=>?_) (λC3 es3 y o3 F3 s3 D lt3 tk3 hno hy p3 c3 oo of S3=>?_)
 ·refine aT rfl ?_
  have zD:=S3.mod.size
  have hes:om R C (es++es3)=om R C es:=by
   unfold om
   rw[LI,filt es3 hno,Lu]
  have l3:=tk3.lens
  have hW3:W1*(es3.length+1)<=W1*(C2.rem.flatten.length+1):=LM _ (by omega)
  have hE3:∀b,V b\/ai out b->C3.pa b:=λb hb=>.inr (.inr (.inr (by rw[lt3.ext];exact he b hb)))
  refine hK C3 (es++es3) F3 s3 out D (lh.n ln lt3) (tk.trans tk3) hnil (p3.later (by omega)) (c3.rel.less λb u=>u.imp id λv=>hE3 b (.inl v)) ?_ (S1.trans S3)
  rw[hes]
  have oD:az D A.size dn 1 out (rs.map Sl.v):=ob.mod S3.mod λb hb u=>aA b (.inr hb) u
  have S3f:Step (R.X (C2.Z F1)) (R.X (C3.Z F3)) B D:=Step.full S3 lt3.ext
  have offX:∀b,¬R.X (C3.Z F3) b->A.size<=b->¬(R.X F3 b\/V b):=λb hb ha u=>by
   rcases u with (u|u)|u
   ·exact hb (.inl (.inl u))
   ·exact hb (.inr u)
   ·have:=hVl b u;omega
  have outX:∀b,ai out b->¬(R.X F3 b\/V b):=λb hb u=>by
   rcases u with (u|u)|u
   ·exact(c3.off b (hE3 b (.inr hb))).1 u
   ·exact(c3.rel.off b u).1 (.inr (hE3 b (.inr hb)))
   ·have:=hVl b u;have:=(ob.block b hb).1;omega
  refine⟨by have:=oD.1;rw[KM] at this;omega,λad ha=>⟨(oD.block _ ⟨ad,ha,rfl⟩).2,outX _ ⟨ad,ha,rfl⟩⟩,λj hj=>?_⟩
  have hjr:j<rs.length:=by omega
  obtain⟨ad,ha,hc⟩:=oD.reads.at (i:=j) (by rw[KM];exact hjr)
  have q1:=hr j rs[j] _ (Kg hjr) (Kg hj)
  obtain⟨a1,a2⟩:=hap _ (Kt hjr)
  have a3:=a1.step S3f
  exact⟨ad,rs[j],ha,by simpa using hc,λa' h'=>⟨(a3 a' h').1,offX _ (a3 a' h').2 (a2 _ ⟨a',h',rfl⟩)⟩,a1.ints q1 S3f⟩
 ·refine ax rfl ?_
  have zD:=S3.mod.size
  have hE3:∀b,V b\/ai out b->C3.ext b:=λb hb=>by rw[lt3.ext];exact he b hb
  have tk4:=tk.trans tk3
  have l4:=tk4.lens
  rw[Kv,Kv,Lq] at l4
  have l3:=tk3.lens
  rw[Kv,Lq] at l3
  have hes:om R C (es++(es3++[y]))=om R C es++[cZ R.W (R.ords.getD C.order []) y R.W]:=by
   unfold om
   rw[LI,LI,filt es3 hno,LN,KX,List.filter_cons,if_pos ((hmt y).1 hy)]
   rfl
  have hol3:(om R C es).length<=es.length:=by
   unfold om
   rw[KM]
   exact Nx _ _
  have S3f:Step (R.X (C2.Z F1)) (R.X (C3.Z F3)) B D:=Step.full S3 lt3.ext
  have oD:az D A.size dn 1 out (rs.map Sl.v):=ob.mod S3.mod λb hb u=>aA b (.inr hb) u
  have on:=oD.1
  rw[KM] at on
  refine oS.push (base:=A.size) oD rfl (by omega) (by omega) (by omega) λout' G n1 o1 m1 b1 _=>?_
  have zG:=m1.size
  have mE:Mod C3.ext D G:=m1.mono λb _ u=>hE3 b (.inr u)
  have p4:=p3.Ex c3 mE
  have c4:=c3.GR (X:=λb=>ai out' b/\D.size<=b) (B:=G) p3.al.lt p3.ext.size mE λb u=>⟨u.2,(o1.block b u.1).2⟩
  have ZX:∀b,b<D.size->R.X ((C3.pY λb=>C3.ext b\/(ai out' b/\D.size<=b)).Z F3) b->R.X (C3.Z F3) b:=λb hb u=>by
   rcases u with (u|u|u|u|u|u)|u
   ·exact .inl (.inl u)
   ·exact .inl (.inr (.inl u))
   ·exact .inl (.inr (.inr (.inl u)))
   ·exact .inl (.inr (.inr (.inr (.inl u))))
   ·exact .inl (.inr (.inr (.inr (.inr u))))
   ·have:=u.2;omega
   ·exact .inr u
  have extO:∀b,C3.ext b->R.X (C3.Z F3) b:=λb u=>.inl (.inr (.inr (.inr (.inr u))))
  have rowK:∀{r:Sl} {l:List Int},fL (R.X (C3.Z F3)) D r->Ints .u64 D r l->Ints .u64 G r l/\fL (R.X ((C3.pY λb=>C3.ext b\/(ai out' b/\D.size<=b)).Z F3)) G r:=λho hi=>
   ⟨hi.mod mE λad ha u=>(ho ad ha).2 (extO _ u),λad ha=>⟨K9 (ho ad ha).1 zG,λu=>(ho ad ha).2 (ZX _ (ho ad ha).1 u)⟩⟩
  rw[ln.order] at oo
  have hoo:fL (R.X (C3.Z F3)) D o3:=λad ha=>⟨(oo.block _ ⟨ad,ha,rfl⟩).2,(of _ ⟨ad,ha,rfl⟩).2⟩
  have hkn:k<C.rem.flatten.length:=by omega
  refine hnext hkn _ _ ⟨C3.pY λb=>C3.ext b\/(ai out' b/\D.size<=b),es++(es3++[y]),F3,s3,rs++[o3],⟨lt3.cb.trans ln.cb,lt3.order.trans ln.order,lt3.lowL.trans ln.lowL,lt3.colsL.trans ln.colsL,lt3.wordsL.trans ln.wordsL,lt3.turns.trans ln.turns,lt3.len.trans ln.len,lt3.st,lt3.fU⟩,λb u=>?_,tk4,?_,c4,by rw[KX];exact o1,by rw[Kv,hrl];rfl,by rw[hes,Kv,hol2];rfl,λj r l hj hl=>?_,λr hr'=>?_,?_⟩
  ·rcases u with u|u
   ·exact .inl (hE3 b (.inl u))
   ·rcases b1 b u with v|v
    ·exact .inl (hE3 b (.inr v))
    ·exact .inr ⟨u,v⟩
  ·have e2:W1*(es++(es3++[y])).length=W1*es.length+W1*(es3.length+1):=by
    rw[Kv,Kv,Lq,OC]
   rw[e2,<-Nat.add_assoc]
   exact p4
  ·rw[hes] at hl
   rcases Nat.lt_or_ge j rs.length with q|q
   ·rw[KT q] at hj
    rw[KT (by omega)] at hl
    have a1:=(hap r (Ki hj)).1
    exact(rowK (a1.step S3f) (a1.ints (hr j r l hj hl) S3f)).1
   ·rw[Lf q] at hj
    rw[Lf (by omega),hol2,<-hrl] at hl
    have e0:j - rs.length=0:=by
     have:=(Kj.1 hj).1
     simp at this;omega
    rw[e0] at hj hl
    cases hj
    cases hl
    exact(rowK hoo oo.ints).1
  ·rcases Kk.1 hr' with q|q
   ·obtain⟨a1,a2⟩:=hap r q
    obtain⟨j,hj⟩:=Ko.1 q
    have hjl:=(Kj.1 hj).1
    have hq:=hr j r _ hj (Kg (by omega))
    exact⟨(rowK (a1.step S3f) (a1.ints hq S3f)).2,a2⟩
   ·rw[Lc.1 q]
    exact⟨(rowK hoo oo.ints).2,λb hb=>by have:=(of b hb).1;omega⟩
  ·exact⟨(S1.trans S3).mod.trans' m1 λb hb u=>by have:=(oD.block b u).1;omega,(S1.trans S3).own⟩
end
theorem yy {α:Type}(g:α->Nat):∀{A B:List α},A.Nodup->(∀a∈A,a∈B)->(A.map g).sum<=(B.map g).sum
 |[],_,_,_=>KU _
 |a::A,B,h,hs=>by
   have ha:=hs a Kw
   obtain⟨C,D,rfl⟩:=List.append_of_mem ha
   obtain⟨h1,h2⟩:=Lw.1 h
   have:=yy g (A:=A) (B:=C++D) h2 λb hb=>by
    have hb2:=hs b (KO _ hb)
    rcases Kk.1 hb2 with u|u
    ·exact Kk.2 (.inl u)
    ·rcases Ku.1 u with v|v
     ·subst v;exact absurd hb h1
     ·exact Kk.2 (.inr v)
   simp only[KX,Ln,OI,Ny] at this ⊢
   omega
def yG (M:aU)(a:ByteArray):Nat:=match M a with|some x=>x.N|none=>0
section
variable {H0 A B:aa}{F F':Nat->Prop}{p dp Q U U' most m:Nat}{s s':Pl}{M M':aU}{n:ByteArray}{x:St}
theorem aV.sum (h:aV s M Q U){ns:List ByteArray}(hs:∀n x,M n=some x->n∈ns):U<=(ns.map (yG M)).sum:=by
 have hn:(s.d.files.map (·.name)).Nodup:=by
  have:=h.nodup
  have e:(s.d.files.map λf=>f.name.toList)=(s.d.files.map (·.name)).map ByteArray.toList:=by rw[Ly];rfl
  rw[e] at this
  exact OY (λ{a b} hne e=>hne (by rw[e])) (List.pairwise_map.1 this)
 have h1:=yy (yG M) hn (B:=ns) λa ha=>by
  obtain⟨f,hf,rfl⟩:=Kz.1 ha
  obtain⟨i,hi⟩:=Ko.1 hf
  obtain⟨y,b1,_⟩:=h.file i f hi
  exact hs _ _ b1
 have h2:U=((s.d.files.map (·.name)).map (yG M)).sum:=by
  rw[<-h.used,Ly]
  unfold Dk.used
  congr 1
  refine Lx λf hf=>?_
  obtain⟨i,hi⟩:=Ko.1 hf
  obtain⟨y,b1,b2,_⟩:=h.file i f hi
  show f.aB.length=yG M f.name
  unfold yG
  rw[b1,b2]
 omega
theorem aJ.HI {K:Int->aa->Prop}(h:aJ H0 A F p dp s M Q U most m)(hg:Gl H0)(hM:M n=some x)
  (hK:∀F' s' B,aJ H0 B F' p dp s' (dP M n none) Q (U - x.N) most (m+2100)->Step F F' A B->K 0 B):Dw.sp (aD p) n A K:=by
 obtain⟨d1,d2,d3,d4⟩:=h.calm.iQ hM
 have dl:=s.wS n
 have hz:=h.ext.size
 have lo:=h.lo
 have hi:=h.hi
 have hl:=h.bf
 refine Em (h.gl hg) h.al λF' B q1 S=>?_
 rw[d1]
 refine hK F' _ B ⟨⟨K4 hz S.mod.size,λb hb _=>(S.mod.same b (by omega) λu=>by have:=h.old b u;omega).trans (h.ext.same b hb id)⟩,q1,λb hb=>?_,d2,by omega,by omega,by omega,by have:=h.le;omega,λa y hy=>?_,d3.trans h.most⟩ S
 ·rcases S.own b hb with u|u
  ·exact h.old b u
  ·omega
 ·by_cases e:a=n
  ·subst e;rw[bd] at hy;cases hy
  ·rw[aQ e] at hy;exact h.room a y hy
end
section
variable {H0 A B:aa}{F F' V V':Nat->Prop}{p dp Q U U' most m m' c:Nat}{s s':Pl}{M M':aU}{R R' T:ah}
theorem aO.beside (h:aO H0 A (λb=>F b\/V b) p M R)(h':aO H0 B F' p M' R')(S:Step (R.X F) (R'.X F') A B)(hV:∀b,V b->b<A.size/\¬F b)(hs:∀q'∈R'.parts,(∃q∈R.parts,q'.s=q.s)\/∀b,ai q'.s b->A.size<=b)(hos:R'.os=R.os)(ho:R'.ords=R.ords):aO H0 B (λb=>F' b\/V b) p M' R':=by
 have S2:Step (R.X (λb=>F b\/V b)) (R'.X (λb=>F' b\/V b)) A B:=S.fg (λb u=>u.elim (λv=>.inl (.inl v)) .inr) λb u=>by
  rcases u with (u|u)|u
  ·exact .inr (.inl u)
  ·exact .inl (.inl (.inr u))
  ·exact .inr (.inr u)
 have off:∀b,R'.O b->¬V b:=λb hb hv=>by
  obtain⟨v1,v2⟩:=hV b hv
  rcases S.own b (.inr hb) with (u|u)|u
  ·exact v2 u
  ·exact(h.off b u).1 (.inr hv)
  ·omega
 refine⟨h'.row,λq hq=>⟨(h'.pt q hq).1,(h'.pt q hq).2.len,λad ha=>⟨((h'.pt q hq).2.off ad ha).1,λu=>?_⟩,(h'.pt q hq).2.reads⟩,?_,h'.tr,λb hb=>⟨λu=>u.elim (h'.off b hb).1 (off b hb),(h'.off b hb).2⟩,h'.pbs,h'.ks,h'.ns,h'.nms,h'.free⟩
 ·rcases u with (u|u)|u
  ·exact((h'.pt q hq).2.off ad ha).2 (.inl u)
  ·rcases hs q hq with ⟨q0,h0,e⟩|e
   ·rw[e] at ha
    exact((h.pt q0 h0).2.off ad ha).2 (.inl (.inr u))
   ·have:=e ad.block ⟨ad,ha,rfl⟩
    have:=(hV _ u).1
    omega
  ·exact((h'.pt q hq).2.off ad ha).2 (.inr u)
 ·have h3:=h.ords.step S2
  rw[hos,ho];exact h3
theorem aO.other (h:aO H0 A (λb=>F b\/(T.O b\/V b)) p M R){T':ah}(S:Step (T.X F) (T'.X F') A B)(hn:∀i j,cS R.name i≠cS T.name j)(hM:∀a,(∀j,a≠cS T.name j)->M' a=M a):aO H0 B (λb=>F' b\/(T'.O b\/V b)) p M' R:=by
 have hM2:∀i,M' (cS R.name i)=M (cS R.name i):=λi=>hM _ λj=>hn i j
 have inX:∀b,T.X F b->F b\/(T.O b\/V b):=λb u=>u.imp id .inl
 refine h.aside (S.fg (λb u=>.inl (inX b u)) λb u=>?_) (λb hb=>⟨S.mod.same b (h.lt b hb) λu=>(h.off b hb).1 (inX b u),λu=>?_⟩) (λt ht=>?_) λj hj=>by rw[hM2];exact h.free j hj
 ·rcases u with (u|u|u)|u
  ·exact .inr (.inl u)
  ·exact .inr (.inr u)
  ·exact .inl (.inl (.inr (.inr u)))
  ·exact .inl (.inr u)
 ·have hl:=h.lt b hb
  have key:T'.X F' b->False:=λw=>(S.own b w).elim (λx=>(h.off b hb).1 (inX b x)) λx=>by omega
  rcases u with u|u|u
  ·exact key (.inl u)
  ·exact key (.inr u)
  ·exact(h.off b hb).1 (.inr (.inr u))
 ·obtain⟨j,_,e⟩:=h.nms t ht
  rw[e];exact hM2 j
end
structure AH (M:aU)(R:ah)(ns:List ByteArray)(base:Nat):Prop where
 all:∀a y,M a=some y->a∈ns\/∃j,a=cS R.name j
 off:∀a∈ns,∀j,a≠cS R.name j
 sum:(ns.map (yG M)).sum<=base
 few:ns.length<=1000
section
variable {H0 A B:aa}{F F' V V':Nat->Prop}{p dp Q U U' most m m' c w:Nat}{s s':Pl}{M M':aU}{R R' T:ah}{ns:List ByteArray}{base:Nat}
theorem AH.go (h:AH M R ns base)(hn:R'.name=R.name)(hM:∀a,(∀j,a≠cS R.name j)->M' a=M a):AH M' R' ns base:=by
 refine⟨λa y hy=>?_,λa ha j=>by rw[hn];exact h.off a ha j,?_,h.few⟩
 ·rw[hn]
  by_cases q:∃j,a=cS R.name j
  ·exact .inr q
  ·rw[hM a λj e=>q ⟨j,e⟩] at hy
   exact h.all a y hy
 ·have:ns.map (yG M')=ns.map (yG M):=Lx λa ha=>by
   unfold yG
   rw[hM a λj=>h.off a ha j]
  rw[this];exact h.sum
theorem uD {α:Type}(g:α->Nat)(k:Nat):∀{l:List α},(∀a∈l,g a<=k)->(l.map g).sum<=l.length*k
 |[],_=>KU _
 |a::l,h=>by
   rw[Ln,Ny,List.length_cons,LU]
   have:=h a Kw
   have:=uD g k (l:=l) λb hb=>h b (KO _ hb)
   omega
theorem AH.names (h:AH M R ns base)(hr:aO H0 A F p M R):∀a y,M a=some y->a∈ns++R.all.map (·.n):=by
 intro a y hy
 rcases h.all a y hy with q|⟨j,q⟩
 ·exact Kk.2 (.inl q)
 ·subst q
  refine Kk.2 (.inr ?_)
  apply NG
  intro hno
  rw[hr.free j λt ht e=>hno (Kz.2 ⟨t,ht,e⟩)] at hy
  cases hy
theorem AH.used (h:AH M R ns base)(hr:aO H0 A F p M R)(hp:aV s M Q U)(hw:∀t∈R.all,t.L.length<=w):U<=base+R.all.length*(2*w+2):=by
 have h1:=hp.sum (h.names hr)
 rw[KX,OI,Ly] at h1
 have h2:=uD (yG M∘λt:Tx=>t.n) (2*w+2) (l:=R.all) λt ht=>by
  obtain⟨x,root,depth,P,_,e,on⟩:=(hr.tr t ht).at_
  show yG M t.n<=_
  unfold yG
  rw[e]
  have:=on.small.2
  have:=hw t ht
  show x.N<=_
  omega
 have:=h.sum
 omega
theorem AH.nW (h:AH M R ns base)(hr:aO H0 A F p M R)(hl:R.all.length<=100):nv M 1100:=
 ⟨_,h.names hr,by have:=h.few;rw[Kv,KM];omega⟩
end
def ah.lost (R:ah):ah:={R with d:=⟨R.d.pb,Sl.mk none 0 0,[]⟩}
theorem ah.jS {R:ah}{t:Tx}:t∈R.lost.all↔t∈R.f.ts\/t∈R.e.ts\/t∈R.ex:=by
 unfold ah.all ah.lost
 simp only[Kk,KN,false_or]
theorem ah.ko {R:ah}{t:Tx}(h:t∈R.lost.all):t∈R.all:=by
 unfold ah.all
 simp only[Kk]
 rcases ah.jS.1 h with u|u|u
 ·exact .inl u
 ·exact .inr (.inr (.inl u))
 ·exact .inr (.inr (.inr u))
theorem ah.qx (R:ah):R.lost.all.Sublist R.all:=by
 unfold ah.all ah.lost
 exact RP (Of _) (RP (List.nil_sublist _) (Of _))
theorem ah.tM {R:ah}{b:Nat}(h:R.lost.O b):R.O b:=by
 rcases h with u|⟨q,hq,u⟩|⟨t,ht,u⟩
 ·exact .inl u
 ·refine .inr (.inl ?_)
  unfold ah.parts ah.lost at hq
  unfold ah.parts
  simp only[Ku,KN,or_false] at hq
  rcases hq with rfl|rfl|rfl
  ·exact⟨R.f,by simp,u⟩
  ·exact⟨R.d,by simp,u⟩
  ·exact⟨R.e,by simp,u⟩
 ·exact .inr (.inr ⟨t,ah.ko ht,u⟩)
section
variable {H0 A B:aa}{F F':Nat->Prop}{p dp Q U U' most m m' c W k:Nat}{s s':Pl}{M M':aU}{R R':ah}{n:ByteArray}{L:List (List Int)}
theorem aO.split (h:aO H0 A F p M R){t u:Tx}(ht:t∈R.lost.all)(hu:u∈R.d.ts):t.k≠u.k/\t.n≠u.n:=by
 have gen:∀{α:Type} (f:Tx->α),(R.all.map f).Nodup->f t≠f u:=λf hn e=>by
  unfold ah.all at hn
  simp only[KX,La,Kk] at hn
  obtain⟨_,⟨_,_,h2⟩,h1⟩:=hn
  rcases ah.jS.1 ht with v|v|v
  ·exact h1 _ (Lp v) _ (.inl (Lp hu)) e
  ·exact h2 _ (Lp hu) _ (.inl (Lp v)) e.symm
  ·exact h2 _ (Lp hu) _ (.inr (Lp v)) e.symm
 exact⟨gen _ h.ks,gen _ h.ns⟩
theorem aO.lost (h:aO H0 A F p M R)(r:ag B R.d.pb AI (gk R.rb (Sl.mk none 0 0)))(mm:Mod (λb=>F b\/(∃t∈R.d.ts,b=t.k)\/b=R.d.pb) A B)(own:∀b,F' b->F b\/A.size<=b)
  (hM:∀a,(∀t∈R.d.ts,a≠t.n)->M' a=M a) (hN:∀t∈R.d.ts,M' t.n=none):aO H0 B F' p M' R.lost:=by
 have md:R.d∈R.parts:=by simp[ah.parts]
 have mf:R.f∈R.parts:=by simp[ah.parts]
 have me:R.e∈R.parts:=by simp[ah.parts]
 have hdt:∀t∈R.d.ts,t∈R.all:=ah.cI md
 have Sx:Step (R.X F) (R.lost.X F') A B:=⟨mm.mono λb _ u=>by
  rcases u with u|⟨t,ht,u⟩|u
  ·exact .inl u
  ·exact .inr (.inr (.inr ⟨t,hdt t ht,u⟩))
  ·exact .inr (.inr (.inl ⟨R.d,md,u⟩)),λb u=>by
  rcases u with u|u
  ·exact(own b u).imp .inl id
  ·exact .inl (.inr (ah.tM u))⟩
 have hnd:[R.f.pb,R.d.pb,R.e.pb].Nodup:=h.pbs
 simp only[Lw,Ku,KN,or_false,not_or] at hnd
 have same:∀b,R.O b->(∀t∈R.d.ts,b≠t.k)->b≠R.d.pb->B[b]?=A[b]?:=λb hb h1 h2=>mm.same b (h.lt b hb) λu=>by
  rcases u with u|⟨t,ht,u⟩|u
  ·exact(h.off b hb).1 u
  ·exact h1 t ht u
  ·exact h2 u
 have part:∀q∈R.parts,q.pb≠R.d.pb->ag B q.pb AI (gk R.rb q.s)/\ia (R.lost.X F') B q.s (l6 q.ts):=λq hq hne=>
  ⟨(same _ (.inr (.inl ⟨q,hq,rfl⟩)) (λt ht e=>h.Dn (hdt t ht) (h.pt q hq).1 (by decide) e.symm) hne).trans (h.pt q hq).1,(h.pt q hq).2.step Sx⟩
 refine⟨(same _ (.inl rfl) (λt ht e=>h.Dn (hdt t ht) h.row (by decide) e.symm) λe=>h.HE md e.symm).trans h.row,λq hq=>?_,h.ords.step Sx,λt ht=>?_,λb hb=>⟨λu=>?_,(h.off b (ah.tM hb)).2⟩,h.pbs,(R.qx.map _).nodup h.ks,(R.qx.map _).nodup h.ns,λt ht=>h.nms t (ah.ko ht),λj hj=>?_⟩
 ·unfold ah.parts ah.lost at hq
  simp only[Ku,KN,or_false] at hq
  rcases hq with rfl|rfl|rfl
  ·exact part _ mf hnd.1.1
  ·exact⟨r,ia.nil _ _⟩
  ·exact part _ me λe=>hnd.2.1 e.symm
 ·have hta:=ah.ko ht
  exact(h.tr t hta).aA (same _ (.inr (.inr ⟨t,hta,rfl⟩)) (λu hu=>(h.split ht hu).1) λe=>h.Dn hta (h.pt _ md).1 (by decide) e) (hM _ λu hu=>(h.split ht hu).2)
 ·have hO:=ah.tM hb
  rcases own b u with v|v
  ·exact(h.off b hO).1 v
  ·have:=h.lt b hO;omega
 ·show M' (cS R.name j)=none
  have hj:∀t∈R.lost.all,t.n≠cS R.name j:=hj
  by_cases q:∃t∈R.d.ts,cS R.name j=t.n
  ·obtain⟨t,ht,e⟩:=q
   rw[e];exact hN t ht
  ·rw[hM _ λt ht e=>q ⟨t,ht,e⟩]
   refine h.free j λt ht e=>?_
   unfold ah.all at ht
   simp only[Kk] at ht
   rcases ht with v|v|v|v
   ·exact hj t (ah.jS.2 (.inl v)) e
   ·exact q ⟨t,v,e.symm⟩
   ·exact hj t (ah.jS.2 (.inr (.inl v))) e
   ·exact hj t (ah.jS.2 (.inr (.inr v))) e
end
theorem qK {α β:Type}{f:α->β}{l:List α}(h:(l.map f).Nodup){i:Nat}{t:α}(hi:l[i]?=some t):∀u∈l.take i,f u≠f t:=by
 intro u hu e
 obtain⟨j,hj⟩:=Ko.1 hu
 have hjl:=(Kj.1 hj).1
 rw[KF] at hjl
 rw[Lh,if_pos (by omega)] at hj
 have:=(LH (l:=l.map f) (i:=j) (j:=i) (by rw[KM];omega) h).1 (by rw[KC,KC,hj,hi];simp[e])
 omega
section
variable {H0 A B:aa}{F F':Nat->Prop}{p dp Q U U' most m m' c W k:Nat}{s s':Pl}{M M':aU}{R R':ah}{n:ByteArray}{L:List (List Int)}
theorem cr.drop {K:Int->aa->Prop}(h:cr A p M k n W L)(hP:aJ H0 A F p dp s M Q U most m)(hg:Gl H0)(hk:¬F k/\H0.size<=k)
  (hK:∀F' s' U' B,aJ H0 B F' p dp s' (dP M n none) Q U' most (m+2100)->Mod (λb=>F b\/b=k) A B->(∀b,F' b->F b\/A.size<=b)->U'<=U->K 0 B):Ga.sp (aD k) A K:=by
 obtain⟨x,root,depth,P,ht,hM,on⟩:=h.at_
 refine Ga.of ?_
 unfold Ga.vc
 refine kD ht ?_
 refine ax rfl ?_
 simp only[aq,aD]
 refine ag.ld (c:=au) (i:=0) (x:=aD p) ht rfl ?_
 refine ag.ld (c:=cX) (i:=1) (x:=n) ht rfl ?_
 refine hP.HI hg hM λF' s' B p1 S=>?_
 have hkl:=aG ht
 have k1:¬F' k:=λu=>(S.own k u).elim hk.1 λv=>by omega
 have htB:aR B k p ⟨n,W,root,depth,L.length,0,false⟩:=(S.mod.same k hkl hk.1).trans ht
 refine aT rfl ?_
 refine ag.st htB (i:=7) (by simp[j4]) rfl λC rC mC zC=>?_
 refine sH ?_
 refine hK F' s' _ C (p1.aside ⟨K4 p1.ext.size mC.size,λb hb _=>(mC.same b (K9 hb p1.ext.size) λu=>by have:=hk.2;omega).trans (p1.ext.same b hb id)⟩ λb hb=>mC.same b (p1.al.lt b hb) λu=>k1 (u▸hb)) ((S.mod.mono λb _ u=>.inl u).trans (mC.mono λb _ u=>.inr u)) S.own (Nat.sub_le _ _)
theorem CV {K:Int->aa->Prop}(h:eS H0 A F p dp s M Q U most m c R)(hg:Gl H0)(hd:R.d.ts.length<=100)
  (hK:∀F' s' M' U' B,aJ H0 B F' p dp s' M' Q U' most (m+2100*R.d.ts.length)->aO H0 B F' p M' R.lost->Step (R.X F) (R.lost.X F') A B->(∀a,(∀t∈R.d.ts,a≠t.n)->M' a=M a)->U'<=U->K 0 B):Gk.sp (aD R.d.pb) A K:=by
 have md:R.d∈R.parts:=by simp[ah.parts]
 have hdt:∀t∈R.d.ts,t∈R.all:=ah.cI md
 obtain⟨rp,sp⟩:=h.rel.pt _ md
 have hsn:=sp.len
 unfold l6 at hsn
 rw[KM] at hsn
 have sub:R.d.ts.Sublist R.all:=by
  unfold ah.all
  exact(List.sublist_append_left _ _).trans (List.sublist_append_right _ _)
 have nk:=(sub.map (·.k)).nodup h.rel.ks
 have nn:=(sub.map (·.n)).nodup h.rel.ns
 refine Gk.of ?_
 unfold Gk.vc
 simp only[aq,aD]
 refine ag.ld (c:=ao) (i:=1) (x:=R.d.s) rp rfl ?_
 refine av R.d.ts.length (λi z B=>z=(i:Int)/\∃F1 s1 M1 U1,aJ H0 B F1 p dp s1 M1 Q U1 most (m+2100*i)/\Mod (λb=>F b\/∃t∈R.d.ts.take i,b=t.k) A B/\(∀b,F1 b->F b\/A.size<=b)/\(∀a,(∀t∈R.d.ts.take i,a≠t.n)->M1 a=M a)/\(∀t∈R.d.ts.take i,M1 t.n=none)/\U1<=U) ⟨rfl,F,s,M,U,h.al,.refl _ _,λ_ u=>.inl u,λ_ _=>rfl,(λt ht=>by simp at ht),Kl _⟩ ?_
 rintro i _ B next hi ⟨rfl,F1,s1,M1,U1,p1,mm,own,hM,hN,hU⟩ hnext
 have own':∀b,R.O b->¬F1 b:=λb hb u=>(own b u).elim (h.rel.off b hb).1 λv=>by have:=h.rel.lt b hb;omega
 have S1:Step (R.X F) (R.X F1) A B:=⟨mm.mono λb _ u=>u.elim .inl λ⟨t,ht,e⟩=>.inr (.inr (.inr ⟨t,hdt t (List.mem_of_mem_take ht),e⟩)),λb u=>u.elim (λv=>(own b v).imp .inl id) λv=>.inl (.inr v)⟩
 refine ak (λhcd=>?_) (λhcd=>?_)
 ·have hlt:i<R.d.ts.length:=by
   have:(i:Int)<(R.d.s.n:Int):=by simpa using hcd
   omega
  have hti:R.d.ts[i]?=some R.d.ts[i]:=Kg hlt
  have hta:=hdt _ (Kt hlt)
  refine ia.ld (c:=au) (x:=aD R.d.ts[i].k) (i:=i) (sp.step S1) (tZ hti) rfl λad _=>?_
  have hO:R.O R.d.ts[i].k:=.inr (.inr ⟨_,hta,rfl⟩)
  have nk1:=qK (f:=λt:Tx=>t.k) nk hti
  have nn1:=qK (f:=λt:Tx=>t.n) nn hti
  have same:B[R.d.ts[i].k]?=A[R.d.ts[i].k]?:=mm.same _ (h.rel.lt _ hO) λu=>u.elim (h.rel.off _ hO).1 λ⟨t,ht,e⟩=>nk1 t ht e.symm
  have tk:R.d.ts.take (i+1)=R.d.ts.take i++[R.d.ts[i]]:=by rw[Mv,hti];rfl
  have hT:=(h.rel.tr _ hta).aA (M':=M1) same (hM _ λt ht e=>nn1 t ht e.symm)
  refine hT.drop p1 hg ⟨own' _ hO,(h.rel.off _ hO).2⟩ λF2 s2 U2 D p2 m2 o2 hU2=>?_
  refine ax rfl ?_
  have zB:=mm.size
  refine hnext hlt _ _ ⟨aK i (by omega),F2,s2,_,U2,p2.later (by omega),?_,λb u=>?_,λa ha=>?_,λt ht=>?_,K4 hU2 hU⟩
  ·refine Mod.trans' (mm.mono λb _ u=>u.imp id λ⟨t,ht,e⟩=>⟨t,by rw[tk];exact Kk.2 (.inl ht),e⟩) m2 λb hb u=>?_
   rcases u with u|u
   ·exact .inl ((own b u).resolve_right (by omega))
   ·exact .inr ⟨_,by rw[tk];exact Kk.2 (.inr (Lc.2 rfl)),u⟩
  ·rcases o2 b u with v|v
   ·exact own b v
   ·exact .inr (by omega)
  ·rw[aQ (ha _ (by rw[tk];exact Kk.2 (.inr (Lc.2 rfl))))]
   exact hM a λt ht=>ha t (by rw[tk];exact Kk.2 (.inl ht))
  ·rw[tk] at ht
   rcases Kk.1 ht with v|v
   ·rw[aQ (nn1 t v)]
    exact hN t v
   ·rw[Lc.1 v,bd]
 ·have hge:i=R.d.ts.length:=by
   have:¬(i:Int)<(R.d.s.n:Int):=by simpa using hcd
   omega
  subst hge
  rw[MP] at mm hM hN
  have hOp:R.O R.d.pb:=.inr (.inl ⟨_,md,rfl⟩)
  have rp1:ag B R.d.pb AI (gk R.rb R.d.s):=(mm.same _ (h.rel.lt _ hOp) λu=>u.elim (h.rel.off _ hOp).1 λ⟨t,ht,e⟩=>h.rel.Dn (hdt t ht) rp (by decide) e.symm).trans rp
  refine ag.st rp1 (i:=1) (by simp[gk]) rfl λD rD mD zD=>?_
  have zB:=mm.size
  have mm2:Mod (λb=>F b\/(∃t∈R.d.ts,b=t.k)\/b=R.d.pb) A D:=(mm.mono λb _ u=>u.imp id .inl).trans (mD.mono λb _ u=>.inr (.inr u))
  have rl:=h.rel.lost rD mm2 own hM hN
  have pD:aJ H0 D F1 p dp s1 M1 Q U1 most (m+2100*R.d.ts.length):=p1.aside ⟨K4 p1.ext.size mD.size,λb hb _=>(mD.same b (K9 hb p1.ext.size) λu=>by have:=(h.rel.off _ hOp).2;omega).trans (p1.ext.same b hb id)⟩ λb hb=>mD.same b (p1.al.lt b hb) λu=>own' _ hOp (u▸hb)
  refine hK F1 s1 M1 U1 D pD rl ⟨mm2.mono λb _ u=>?_,λb u=>?_⟩ hM hU
  ·rcases u with u|⟨t,ht,u⟩|u
   ·exact .inl u
   ·exact .inr (.inr (.inr ⟨t,hdt t ht,u⟩))
   ·exact .inr (by rw[u];exact hOp)
  ·rcases u with u|u
   ·exact(own b u).imp .inl id
   ·exact .inl (.inr (ah.tM u))
def ah.swap (R:ah)(nb:Nat):ah:=⟨R.rb,R.name,R.W,R.os,R.ords,R.f,R.e,⟨nb,Sl.mk none 0 0,[]⟩,R.ex,R.next,R.nb,R.turns⟩
theorem aO.swap {nb:Nat}(h:aO H0 A F p M R)(hd:R.d.ts=[])(hF:∀b,F b->b<A.size)(hz:H0.size<=A.size)(hnb:A.size<=nb)(r:ag B R.rb EJ (ju p (R.swap nb)))(rn:ag B nb AI (gk R.rb (Sl.mk none 0 0)))(mm:Mod (λb=>b=R.rb) A B):aO H0 B F p M (R.swap nb):=by
 have h2:aO H0 A F p M R:=h
 have hall:(R.swap nb).all=R.all:=by
  unfold ah.all ah.swap
  simp only[hd,LN]
 have hO:∀b,(R.swap nb).O b->R.O b\/b=nb:=λb u=>ah.kg (R:=R) (nb:=nb) u
 have S':Step (R.X F) ((R.swap nb).X F) A B:=⟨mm.mono λb _ u=>.inr (.inl u),λb u=>by
  rcases u with u|u
  ·exact .inl (.inl u)
  ·rcases hO b u with v|v
   ·exact .inl (.inr v)
   ·exact .inr (by omega)⟩
 have same:∀b,R.O b->b≠R.rb->B[b]?=A[b]?:=λb hb e=>mm.same b (h.lt b hb) e
 have part:∀q∈R.parts,ag B q.pb AI (gk R.rb q.s)/\ia ((R.swap nb).X F) B q.s (l6 q.ts):=λq hq=>⟨(same _ (.inr (.inl ⟨q,hq,rfl⟩)) (h.HE hq)).trans (h.pt q hq).1,(h.pt q hq).2.step S'⟩
 have mf:R.f∈R.parts:=by simp[ah.parts]
 have me:R.e∈R.parts:=by simp[ah.parts]
 have lf:=h.lt _ (.inr (.inl ⟨_,mf,rfl⟩))
 have le:=h.lt _ (.inr (.inl ⟨_,me,rfl⟩))
 have hnd:[R.f.pb,R.d.pb,R.e.pb].Nodup:=h.pbs
 simp only[Lw,Ku,KN,or_false,not_or] at hnd
 refine⟨r,λq hq=>?_,h.ords.step S',λt ht=>?_,λb hb=>?_,?_,by rw[hall];exact h.ks,by rw[hall];exact h.ns,by rw[hall];exact h.nms,by rw[hall];exact h.free⟩
 ·unfold ah.parts ah.swap at hq
  simp only[Ku,KN,or_false] at hq
  rcases hq with rfl|rfl|rfl
  ·exact part _ mf
  ·exact part _ me
  ·exact⟨rn,ia.nil _ _⟩
 ·rw[hall] at ht
  exact(h.tr t ht).aA (same _ (.inr (.inr ⟨t,ht,rfl⟩)) (h.Dn ht h.row (by decide))) rfl
 ·rcases hO b hb with v|v
  ·exact h.off b v
  ·exact⟨λu=>by have:=hF b u;omega,by omega⟩
 ·show [R.f.pb,R.e.pb,nb].Nodup
  simp only[Lw,Ku,KN,or_false,not_or]
  exact⟨⟨hnd.1.2,by omega⟩,by omega,by simp,MF⟩
theorem zk {K:(Int×Int)->aa->Prop}(h:eS H0 B F p dp s M Q U most m c R)(hd:R.d.ts=[])
  (hK:∀nb D,eS H0 D F p dp s M Q U most m c (R.swap nb)->Step (R.X F) ((R.swap nb).X F) B D->B.size<=nb->K ((R.e.rows.length:Int),0) D):
  ∃G:aa->Prop,G B/\ae (aD R.rb) λa_12=>cP au G (a_12.add 8) λ(x_8:Option Addr)=>ae (aD R.rb) λa_13=>AE.sp (some (a_13.add 0)) B λ(r_4:Option Addr) H12=>G H12/\ae (aD R.rb) λa_14=>st H12 (a_14.add 7) (.pointer x_8) λH13=>ae (aD R.rb) λa_15=>st H13 (a_15.add 8) (.pointer r_4) λH14=>ae (aD R.rb) λa_16=>Go.Proofs.YtkehfflpbpdokaaGreatDoor.ld au H14 (a_16.add 7) λ(x_9:Option Addr)=>Dc.sp x_9 H14 λ(r_5:Int) H15=>K (r_5,(0:Int)) H15:=by
 refine⟨Ext B,.refl _ _,?_⟩
 simp only[aq,aD]
 refine ag.cP (c:=au) (i:=8) (x:=aD R.e.pb) (cs:=λ_=>ju p R) (λD hD=>h.rel.row.ext hD) (λ_ _=>rfl) ?_
 refine mw λC zC rC eC=>⟨eC,?_⟩
 have r1:=h.rel.row.ext eC
 refine ag.st r1 (i:=7) (by simp[ju]) rfl λD rD mD zD=>?_
 refine ag.st rD (i:=8) (by simp[ju]) rfl λE rE mE zE=>?_
 have hpl:=h.al.al.lt
 have hFr:∀b,F b->b≠R.rb:=λb hb e=>(h.rel.off _ (.inl rfl)).1 (e▸hb)
 have mCE:Mod (λb=>b=R.rb) C E:=mD.trans mE
 have hrl:=h.rel.lt _ (.inl rfl)
 have hoff:=(h.rel.off _ (.inl rfl)).2
 have mAE:Mod (λb=>b=R.rb) B E:=eC.mod.trans mCE
 have rel:aO H0 E F p M (R.swap B.size):=aO.swap (A:=B) h.rel hd hpl h.al.ext.size (Kl _) rE (rC.mod mCE (by omega)) mAE
 have al:aJ H0 E F p dp s M Q U most m:=h.al.aside ⟨by have:=h.al.ext.size;have:=mAE.size;omega,λb hb _=>(mAE.same b (by have:=h.al.ext.size;omega) (by omega)).trans (h.al.ext.same b hb id)⟩ λb hb=>mAE.same b (hpl b hb) (hFr b hb)
 refine ag.ld (c:=au) (i:=7) (x:=aD R.e.pb) rel.row rfl ?_
 refine ng (q:=R.e) rel (by simp[ah.parts,ah.swap]) ?_
 refine hK B.size E ⟨al,rel,h.nW⟩ ⟨mAE.mono λb _ u=>.inr (.inl u),λb u=>?_⟩ (Kl _)
 rcases u with u|u
 ·exact .inl (.inl u)
 ·rcases ah.kg (R:=R) (nb:=B.size) u with v|v
  ·exact .inl (.inr v)
  ·exact .inr (by omega)
end
structure pQ (ords rows:List (List Int))(q q':aE):Prop where
 pb:q'.pb=q.pb
 ts:q'.ts=[]\/q'.ts.length=ords.length
 mem:∀i,i<ords.length->∀y,y∈q'.aH i↔y∈q.aH i\/∃x∈rows,y=aL x (ords.getD i [])
 len:∀i,i<ords.length->(q'.aH i).length<=(q.aH i).length+rows.length
theorem pQ.nil {ords:List (List Int)}{q:aE}(h:q.ts=[]\/q.ts.length=ords.length):pQ ords [] q q:=
 ⟨rfl,h,λi _ y=>⟨.inl,λu=>u.elim id λ⟨x,hx,_⟩=>by cases hx⟩,λi _=>Kl _⟩
theorem pQ.more {ords rows:List (List Int)}{y:List Int}{q q1 q2:aE}(h:pQ ords rows q q1)(I:Ins ords y q1 q2):pQ ords (rows++[y]) q q2:=by
 refine⟨I.pb.trans h.pb,.inr I.len,λi hi z=>?_,λi hi=>?_⟩
 ·rw[(I.rows i hi).1 z,h.mem i hi z]
  constructor
  ·rintro(u|u|⟨x,hx,e⟩)
   ·exact .inr ⟨y,by simp,u⟩
   ·exact .inl u
   ·exact .inr ⟨x,Kk.2 (.inl hx),e⟩
  ·rintro(u|⟨x,hx,e⟩)
   ·exact .inr (.inl u)
   ·rcases Kk.1 hx with v|v
    ·exact .inr (.inr ⟨x,v,e⟩)
    ·rw[Lc.1 v] at e;exact .inl e
 ·have h1:=(I.rows i hi).2
  have h2:=h.len i hi
  rw[Kv,Lq]
  omega
structure ah.Small (R:ah)(w:Nat):Prop where
 parts:∀q∈R.parts,q.ts=[]\/q.ts.length=R.ords.length
 ex:R.ex=[]
 rows:∀t∈R.all,t.L.length<=w
theorem ah.Small.count {R:ah}{w:Nat}(h:R.Small w):R.all.length<=3*R.ords.length:=by
 have p:∀q∈R.parts,q.ts.length<=R.ords.length:=λq hq=>by
  rcases h.parts q hq with u|u
  ·rw[u];exact KU _
  ·omega
 have a:=p R.f (by simp[ah.parts])
 have b:=p R.d (by simp[ah.parts])
 have c:=p R.e (by simp[ah.parts])
 unfold ah.all
 rw[h.ex]
 simp only[Kv,List.length_nil]
 omega
theorem ah.Small.at_ {R:ah}{w:Nat}(h:R.Small w){q:aE}(hq:q∈R.parts)(i:Nat):(q.aH i).length<=w:=by
 unfold aE.aH
 cases hi:q.ts[i]? with
 |none=>exact KU _
 |some t=>exact h.rows t (ah.cI hq t (Ki hi))
theorem G5 (r:List Int):pq [] false r=true:=by
 unfold pq
 cases r<;>simp[aP]
section
variable {H0 A B:aa}{F F' Y Y':Nat->Prop}{p dp Q U U' most m m' c w k cb:Nat}{s s':Pl}{M M':aU}{R R':ah}{lo:Sl}{ll:List Int}{strict:Bool}{ns:List ByteArray}{base:Nat}
theorem iu.go (h:iu A F k cb lo ll strict)(S:Step Y Y' A B)(hcb:¬Y cb)(hlo:fL Y A lo)(hF:∀b,F' b->Y' b)(hc:¬F' cb):iu B F' k cb lo ll strict:=by
 refine⟨h.row.mod S.mod hcb,hlo.ints h.ints S,λad ha=>⟨((hlo.step S) ad ha).1,λu=>?_⟩,⟨hc,h.cb.2⟩⟩
 rcases u with u|u|u
 ·exact((hlo.step S) ad ha).2 (hF _ u)
 ·exact(h.off ad ha).2 (.inr (.inl u))
 ·exact(h.off ad ha).2 (.inr (.inr u))
def ah.bZ (R:ah)(q:aE)(ds:Sl)(dt:List Tx)(nx:Nat):ah:=⟨R.rb,R.name,R.W,R.os,R.ords,q,⟨R.d.pb,ds,dt⟩,R.e,R.ex,nx,nx,R.turns+1⟩
def ah.after (R:ah)(q:aE)(nx nb:Nat):ah:=⟨R.rb,R.name,R.W,R.os,R.ords,q,R.e,⟨nb,Sl.mk none 0 0,[]⟩,R.ex,nx,nx,R.turns+1⟩
theorem ah.ye {q:aE}{nx:Nat}(sm:R.Small w)(hq:q.ts=[]\/q.ts.length=R.ords.length)(hw:∀i,i<R.ords.length->(q.aH i).length<=w):(R.bZ q R.d.s R.d.ts nx).Small w:=by
 have hqt:∀t∈q.ts,t.L.length<=w:=λt ht=>by
  obtain⟨i,hi⟩:=Ko.1 ht
  have hl:=(Kj.1 hi).1
  have h1:q.ts.length=R.ords.length:=hq.resolve_left λe=>by rw[e] at hl;exact absurd hl (Nat.not_lt_zero _)
  have h2:=hw i (by omega)
  unfold aE.aH at h2
  rw[hi] at h2
  exact h2
 refine⟨λx hx=>?_,sm.ex,λt ht=>?_⟩
 ·unfold ah.parts ah.bZ at hx
  simp only[Ku,KN,or_false] at hx
  rcases hx with rfl|rfl|rfl
  ·exact hq
  ·exact sm.parts R.d (by simp[ah.parts])
  ·exact sm.parts R.e (by simp[ah.parts])
 ·unfold ah.all ah.bZ at ht
  simp only[Kk] at ht
  rcases ht with u|u
  ·exact hqt t u
  ·refine sm.rows t ?_
   unfold ah.all
   simp only[Kk]
   exact .inr u
set_option maxHeartbeats 8000000 in
set_option maxRecDepth 100000 in
theorem vO {v:Nat}{K:(Int×Int)->aa->Prop}(h:eS H0 A F p dp s M Q U most m c R)(hg:Gl H0)(hpw:Pw H0)(hv:v=2000000)(hF:R.Fit)(o:AH M R ns base)(sm:R.Small w)(hw:∀i,i<R.ords.length->(R.f.aH i).length+R.d.rows.length<=w)(hw4:w<=400)(hQ:Q<=1048576)(hbud:base+3*R.ords.length*(2*w+2)+R.ords.length*(2*w+6)+w+4<Q)(ho:R.ords.length<=16)(h1:1<=R.ords.length)(hnb:R.nb=R.next)(hn:R.next+(R.d.rows.length+1)*R.ords.length<=1000)(hm:m+v*(R.d.rows.length+2)<=30000000000)(htu:R.turns<=1000000)
  (ht:∀y,y.length=R.W->bQ y->∀i (hi:i<R.ords.length),R.ords[i].length<=1000/\(aL y R.ords[i]).length=R.W/\bQ (aL y R.ords[i]))
  (hK:∀F' s' M' U' q' nx nb B,eS H0 B F' p dp s' M' Q U' most (m+v*(R.d.rows.length+2)) 1100 (R.after q' nx nb)->pQ R.ords R.d.rows R.f q'->(q'.s=R.f.s\/∀b,ai q'.s b->A.size<=b)->nx<=R.next+R.d.rows.length*R.ords.length->Step (R.X F) ((R.after q' nx nb).X F') A B->(∀a,(∀i,a≠cS R.name i)->M' a=M a)->K ((R.e.rows.length:Int),0) B):ss.sp (aD R.rb) A K:=by
 refine ss.of ?_
 unfold ss.vc
 refine iE h.rel.row ?_
 refine ax rfl ?_
 simp only[aq,aD]
 refine ag.ld (c:=af .i64) (i:=10) (x:=(R.turns:Int)) h.rel.row rfl ?_
 refine ag.st h.rel.row (i:=10) (by simp[ju]) rfl λB rB mB zB=>?_
 rw[aK R.turns (by omega)] at rB
 have rB':=h.rel.cell (nx:=R.next) (tu:=R.turns+1) rB mB
 have hrl:=h.rel.lt _ (.inl rfl)
 have hro:=h.rel.off _ (.inl rfl)
 have pB:aJ H0 B F p dp s M Q U most m:=h.al.aside ⟨by have:=h.al.ext.size;omega,λb hb _=>(mB.same b (by have:=h.al.ext.size;omega) (by omega)).trans (h.al.ext.same b hb id)⟩ λb hb=>mB.same b (h.al.al.lt b hb) λu=>hro.1 (u▸hb)
 have S0:Step (R.X F) ((R.bZ R.f R.d.s R.d.ts R.next).X F) A B:=⟨mB.mono λb _ u=>.inr (.inl u),λb u=>.inl u⟩
 have e0:({R with next:=R.next,turns:=R.turns+1}:ah)=R.bZ R.f R.d.s R.d.ts R.next:=by
  unfold ah.bZ
  rw[<-hnb]
 rw[e0] at rB'
 have hdc:R.d.ts.length<=100:=by
  rcases sm.parts R.d (by simp[ah.parts]) with u|u
  ·rw[u];exact KU _
  ·omega
 have md:R.d∈(R.bZ R.f R.d.s R.d.ts R.next).parts:=by simp[ah.parts,ah.bZ]
 -- what holds behind the rows' way
 refine⟨λ_ C=>∃F' s' M' U' q' ds nx,eS H0 C F' p dp s' M' Q U' most (m+v*(R.d.rows.length+2)) 1100 (R.bZ q' ds [] nx)/\pQ R.ords R.d.rows R.f q'/\(q'.s=R.f.s\/∀b,ai q'.s b->A.size<=b)/\nx<=R.next+R.d.rows.length*R.ords.length/\Step (R.X F) ((R.bZ q' ds [] nx).X F') A C/\(∀a,(∀i,a≠cS R.name i)->M' a=M a),?_,?_⟩
 ·refine ag.ld (c:=au) (i:=7) (x:=aD R.d.pb) rB'.row rfl ?_
  simp only[aq,aD]
  obtain⟨rp,sp⟩:=rB'.pt _ md
  refine ag.ld (c:=ao) (i:=1) (x:=R.d.s) rp rfl ?_
  have hsn:=sp.len
  unfold l6 at hsn
  rw[KM] at hsn
  have dom0:=o.nW h.rel (K4 sm.count (by omega))
  refine ak (λhcd=>?_) (λhcd=>?_)
  ·have hne:0<R.d.ts.length:=by
    have:(R.d.s.n:Int)>0:=of_decide_eq_true hcd
    omega
   obtain⟨T,tl,eT⟩:∃T tl,R.d.ts=T::tl:=by
    cases q:R.d.ts with
    |nil=>rw[q] at hne;exact absurd hne (Nat.lt_irrefl _)
    |cons T tl=>exact⟨T,tl,rfl⟩
   have eR:R.d.rows=T.L:=by unfold aE.rows;rw[eT]
   have hdl:R.d.ts.length=R.ords.length:=(sm.parts R.d (by simp[ah.parts])).resolve_left λe=>by rw[e] at eT;cases eT
   refine ag.ld (c:=au) (i:=7) (x:=aD R.d.pb) rB'.row rfl ?_
   simp only[aq,aD]
   refine ag.ld (c:=ao) (i:=1) (x:=R.d.s) rp rfl ?_
   refine ia.ld (c:=au) (x:=aD T.k) (i:=0) sp (tZ (by rw[eT];rfl)) rfl λad _=>?_
   have hTR:T∈R.d.ts:=by rw[eT];exact Kw
   have hTa:∀q nx,T∈(R.bZ q R.d.s R.d.ts nx).all:=λq nx=>by
    unfold ah.all ah.bZ
    simp only[Kk]
    exact .inr (.inl hTR)
   have hTO:∀q nx,(R.bZ q R.d.s R.d.ts nx).O T.k:=λq nx=>.inr (.inr ⟨T,hTa q nx,rfl⟩)
   have hTl:T.L.length<=400:=K4 (sm.rows T (ah.cI (q:=R.d) (by simp[ah.parts]) T hTR)) hw4
   have hTnm:T.n.size<=9223372036854775807:=hF.nm h.rel (ah.cI (q:=R.d) (by simp[ah.parts]) T hTR)
   refine nJ (F:=F) (ll:=[]) ⟨rfl,Reads.nil _ _⟩ (by simp) (pB.al.lt) (rB'.lt _ (hTO _ _)) λC cb lo eC cu hcb hcbl hlo=>?_
   have rC0:=rB'.grow eC
   have pC:=pB.grow eC
   have rC:aO H0 C (λb=>F b\/b=cb) p M (R.bZ R.f R.d.s R.d.ts R.next):=rB'.fresh eC λb u=>by omega
   have hzB:=pB.ext.size
   rw[eR] at hw hn hm hK ⊢
   -- row by row
   refine av T.L.length (λi _ D=>∃F1 s1 M1 U1 q1 nx lo ll strict,aJ H0 D F1 p dp s1 M1 Q U1 most (m+v*i)/\aO H0 D (λb=>F1 b\/b=cb) p M1 (R.bZ q1 R.d.s R.d.ts nx)/\pQ R.ords (T.L.take i) R.f q1/\(q1.s=R.f.s\/∀b,ai q1.s b->A.size<=b)/\nx<=R.next+i*R.ords.length/\iu D F1 T.k cb lo ll strict/\fL (λb=>(R.bZ q1 R.d.s R.d.ts nx).X F1 b\/b=cb) D lo/\T.L.filter (pq ll strict)=T.L.drop i/\Mod (R.X F) A D/\(∀b,(R.bZ q1 R.d.s R.d.ts nx).X F1 b->R.X F b\/A.size<=b)/\(∀a,(∀j,a≠cS R.name j)->M1 a=M a)/\cb<D.size) ⟨F,s,M,U,R.f,R.next,lo,[],false,pC,rC,pQ.nil (sm.parts R.f (by simp[ah.parts])),.inl rfl,by omega,cu,?_,?_,S0.mod.trans' eC λ_ _ u=>u.elim,λb u=>.inl u,λ_ _=>rfl,hcbl⟩ ?_
   ·intro ad ha
    obtain⟨l1,l2⟩:=hlo _ ⟨ad,ha,rfl⟩
    refine⟨(cu.off ad ha).1,λu=>?_⟩
    rcases u with (u|u)|u
    ·exact(cu.off ad ha).2 (.inl u)
    ·have:=rB'.lt _ u;omega
    ·exact l2 u
   ·rw[List.drop_zero,List.filter_eq_self.2 λr _=>G5 r]
   rintro i _ D next hi ⟨F1,s1,M1,U1,q1,nx,lo,ll,strict,p1,r1,P1,hs1,hnx,c1,hlo1,hfl,mm1,own1,hM1,hcbD⟩ hnext
   have hmul:(i+1)*R.ords.length=i*R.ords.length+R.ords.length:=LU _ _
   have hmulT:(T.L.length+1)*R.ords.length=T.L.length*R.ords.length+R.ords.length:=LU _ _
   have hmi:i*R.ords.length<=T.L.length*R.ords.length:=K2 _ hi
   have hWD:=hF.W
   have hvi:v*(i+1)=v*i+v:=Oo _ _
   have hvT:v*(T.L.length+2)=v*T.L.length+v+v:=by rw[Oo,Oo]
   have hvm:v*i<=v*T.L.length:=LM _ hi
   have hk1:=r1.off _ (hTO q1 nx)
   have hT1:=r1.tr T (hTa q1 nx)
   have hzD:=p1.ext.size
   have hcbH:H0.size<=cb:=by have:=eC.size;omega
   have sm1:(R.bZ q1 R.d.s R.d.ts nx).Small w:=ah.ye sm P1.ts λj hj=>by
    have h2:=P1.len j hj
    have h3:=hw j hj
    rw[KF] at h2
    omega
   have o1:AH M1 (R.bZ q1 R.d.s R.d.ts nx) ns base:=o.go rfl hM1
   have hup:∀{F2:Nat->Prop} {s2:Pl} {E:aa},aJ H0 E F2 p dp s2 M1 Q U1 most (m+v*i+1000000)->cr E p M1 T.k T.n R.W T.L->Step (λb=>F1 b\/b=T.k\/b=cb) (λb=>F2 b\/b=T.k\/b=cb) D E->¬F2 T.k->aO H0 E (λb=>F2 b\/b=cb) p M1 (R.bZ q1 R.d.s R.d.ts nx):=λp2 T2 S2 k2=>by
    have key:=r1.xq (t:=T) (L:=T.L) (F':=λb=>_\/b=cb) (hTa q1 nx) (S2.fg (X:=λb=>(F1 b\/b=cb)\/b=T.k) (X':=λb=>(_\/b=cb)\/b=T.k) (λb u=>by
     rcases u with u|u|u
     ·exact .inl (.inl u)
     ·exact .inr u
     ·exact .inl (.inr u)) λb u=>by
     rcases u with (u|u)|u
     ·exact .inr (.inl u)
     ·exact .inr (.inr (.inr u))
     ·exact .inr (.inr (.inl u))) (λu=>u.elim k2 λe=>hk1.1 (.inr e)) T2 λ_ _=>rfl
    rw[yg r1.ks (hTa q1 nx)] at key
    exact key
   have hmod:∀{F2:Nat->Prop} {E:aa},Step (λb=>F1 b\/b=T.k\/b=cb) (λb=>F2 b\/b=T.k\/b=cb) D E->¬F2 cb->Mod (R.X F) A E/\∀b,(R.bZ q1 R.d.s R.d.ts nx).X F2 b->R.X F b\/A.size<=b:=λS2 hc2=>by
    have hzA:=mm1.size
    refine⟨mm1.trans' S2.mod λb hb u=>?_,λb u=>?_⟩
    ·rcases u with u|u|u
     ·exact(own1 b (.inl u)).resolve_right (by omega)
     ·exact(own1 b (.inr (u▸hTO q1 nx))).resolve_right (by omega)
     ·have:=eC.size;omega
    ·rcases u with u|u
     ·rcases S2.own b (.inl u) with (v|v|v)|v
      ·exact own1 b (.inl v)
      ·exact own1 b (.inr (v▸hTO q1 nx))
      ·exact absurd (v▸u) hc2
      ·exact .inr (by omega)
     ·exact own1 b (.inr u)
   refine hT1.next p1 hg ⟨λu=>hk1.1 (.inl u),hk1.2⟩ hcbH hTnm hWD hTl hQ (by omega) c1 (λhno F2 s2 E p2 T2 S2 k2 c2=>?_) (λy hy F2 s2 E sl lo2 p2 T2 S2 k2 c2 ol f2=>?_)
   ·-- the end: delta's trees are dropped
    have hie:i=T.L.length:=by
     rw[hfl] at hno
     have:T.L.drop i=[]:=by cases hq:T.L.drop i with
      |nil=>rfl
      |cons a b=>rw[hq] at hno;cases hno
     have:=List.drop_eq_nil_iff.1 this
     omega
    refine⟨λz G=>z=0/\G=E,?_,?_⟩
    ·exact ax rfl ⟨rfl,rfl⟩
    rintro _ _ ⟨rfl,rfl⟩
    refine ax rfl ?_
    refine aT rfl ?_
    have r2:=hup p2 T2 S2 k2
    obtain⟨mm2,own2⟩:=hmod S2 c2.cb.1
    have rl:aO H0 _ F2 p M1 (R.bZ q1 R.d.s R.d.ts nx):=r2.less λb u=>.inl u
    refine ag.ld (c:=au) (i:=7) (x:=aD R.d.pb) rl.row rfl ?_
    refine CV (R:=R.bZ q1 R.d.s R.d.ts nx) ⟨p2,rl,o1.nW rl (K4 sm1.count (by show 3*R.ords.length<=100;omega))⟩ hg hdc λF3 s3 M3 U3 G p3 r3 S3 hM3 hU3=>?_
    refine ax rfl ?_
    have hdn:∀t∈(R.bZ q1 R.d.s R.d.ts nx).d.ts,∃j,t.n=cS R.name j:=λt ht=>by
     obtain⟨j,_,e⟩:=rl.nms t (ah.cI (q:=(R.bZ q1 R.d.s R.d.ts nx).d) (by simp[ah.parts]) t ht)
     exact⟨j,e⟩
    have hM3':∀a,(∀j,a≠cS R.name j)->M3 a=M a:=λa ha=>by
     rw[hM3 a λt ht e=>by obtain⟨j,ej⟩:=hdn t ht;exact ha j (e.trans ej)]
     exact hM1 a ha
    have hlost:(R.bZ q1 R.d.s R.d.ts nx).lost=R.bZ q1 (Sl.mk none 0 0) [] nx:=rfl
    rw[hlost] at r3 S3
    have dom3:nv M3 1100:=(o.go (R':=R.bZ q1 (Sl.mk none 0 0) [] nx) rfl hM3').nW r3 (by
     refine K4 ?_ (show 3*R.ords.length<=100 by omega)
     rw[<-hlost]
     exact K4 ((R.bZ q1 R.d.s R.d.ts nx).qx.length_le) sm1.count)
    have hdl2:(R.bZ q1 R.d.s R.d.ts nx).d.ts.length<=100:=hdc
    rw[hie,MP] at P1
    rw[hie] at hnx
    refine⟨F3,s3,M3,U3,q1,_,nx,⟨p3.later (by omega),r3,dom3⟩,P1,hs1,hnx,⟨mm2.trans' S3.mod λb hb u=>?_,λb u=>?_⟩,hM3'⟩
    ·exact(own2 b u).resolve_right (by omega)
    ·rcases S3.own b u with v|v
     ·exact own2 b v
     ·have:=mm2.size;exact .inr (by omega)
   ·-- a row goes into full
    have r2:=hup p2 T2 S2 k2
    obtain⟨mm2,own2⟩:=hmod S2 c2.cb.1
    have rl:aO H0 E F2 p M1 (R.bZ q1 R.d.s R.d.ts nx):=r2.less λb u=>.inl u
    have hilt:i<T.L.length:=by
     apply NG
     intro hge
     rw[hfl,List.drop_eq_nil_of_le (by omega)] at hy
     cases hy
    have hyT:y=T.L[i]/\T.L.filter (pq y true)=T.L.drop (i+1):=by
     have h2:=sq hT1.AQ hy
     rw[hfl,List.drop_eq_getElem_cons hilt] at hy h2
     exact⟨(Kq hy).symm,h2⟩
    have hyr:=hT1.rows y (by rw[hyT.1];exact Kt _)
    have hoff:fL ((R.bZ q1 R.d.s R.d.ts nx).X F2) E sl:=λad ha=>by
     have g:=f2.1 _ ⟨ad,ha,rfl⟩
     refine⟨(ol.block _ ⟨ad,ha,rfl⟩).2,λu=>?_⟩
     rcases u with u|u
     ·exact g.2.1 u
     ·have:=r1.lt _ u;omega
    have hF1:(R.bZ q1 R.d.s R.d.ts nx).Fit:=⟨hF.W,hF.name,by show nx<=1000;omega,λt ht=>K4 (sm1.rows t ht) hw4⟩
    have hU1:=o1.used rl p2.calm.told sm1.rows
    have hcount:=sm1.count
    have hprod:(R.bZ q1 R.d.s R.d.ts nx).all.length*(2*w+2)<=3*R.ords.length*(2*w+2):=K2 _ hcount
    refine⟨λz G=>z=0/\∃F3 s3 M3 U3 q3 nx3,aJ H0 G F3 p dp s3 M3 Q U3 most (m+v*(i+1))/\aO H0 G (λb=>F3 b\/b=cb) p M3 (R.bZ q3 R.d.s R.d.ts nx3)/\pQ R.ords (T.L.take (i+1)) R.f q3/\(q3.s=R.f.s\/∀b,ai q3.s b->A.size<=b)/\nx3<=R.next+(i+1)*R.ords.length/\iu G F3 T.k cb lo2 y true/\fL (λb=>(R.bZ q3 R.d.s R.d.ts nx3).X F3 b\/b=cb) G lo2/\Mod (R.X F) A G/\(∀b,(R.bZ q3 R.d.s R.d.ts nx3).X F3 b->R.X F b\/A.size<=b)/\(∀a,(∀j,a≠cS R.name j)->M3 a=M a)/\cb<G.size,?_,?_⟩
    ·refine aT rfl ?_
     refine ag.ld (c:=au) (i:=6) (x:=aD q1.pb) rl.row rfl ?_
     refine sC (R:=R.bZ q1 R.d.s R.d.ts nx) (j:=0) (w:=w) ⟨p2,rl,o1.nW rl (K4 sm1.count (by show 3*R.ords.length<=100;omega))⟩ hg hpw hF1 hQ (by omega) (λj=>sm1.at_ (q:=(R.bZ q1 R.d.s R.d.ts nx).get 0) (ah.get_mem _ 0) j) hw4 (by show U1+R.ords.length*(2*w+6)+w+4<Q;omega) (by show 1100+R.ords.length<4096;omega) ho (sm1.parts _ (ah.get_mem _ 0)) sm1.ex rfl (by show nx+R.ords.length<=1000;omega) ol.ints hoff (ht y hyr.1 hyr.2) λF3 s3 M3 U3 q3 nx3 G p3 I3 hU3 hnx3 S3 hM3 hs3=>?_
     have e3:((R.bZ q1 R.d.s R.d.ts nx).put 0 q3).dM nx3 nx3=R.bZ q3 R.d.s R.d.ts nx3:=rfl
     rw[e3] at p3 S3
     have hI3:Ins R.ords y q1 q3:=I3
     have hs3:q3.s=q1.s\/∀b,ai q3.s b->E.size<=b:=hs3
     have hnx3:nx3<=nx+R.ords.length:=hnx3
     have hzE:=S2.mod.size
     have hcbE:cb<E.size:=by omega
     have hcbX:¬(R.bZ q1 R.d.s R.d.ts nx).X F2 cb:=λu=>u.elim c2.cb.1 λv=>(r2.off _ v).1 (.inr rfl)
     have r3:aO H0 G (λb=>F3 b\/b=cb) p M3 (R.bZ q3 R.d.s R.d.ts nx3):=r2.beside (V:=λb=>b=cb) p3.rel S3 (λb u=>⟨by omega,λv=>c2.cb.1 (u▸v)⟩) (λq' hq'=>by
      unfold ah.parts ah.bZ at hq'
      simp only[Ku,KN,or_false] at hq'
      rcases hq' with rfl|rfl|rfl
      ·exact hs3.imp (λe=>⟨q1,by simp[ah.parts,ah.bZ],e⟩) id
      ·exact .inl ⟨(R.bZ q1 R.d.s R.d.ts nx).d,by simp[ah.parts],rfl⟩
      ·exact .inl ⟨R.e,by simp[ah.parts,ah.bZ],rfl⟩) rfl rfl
     have hc3:¬F3 cb:=λu=>(S3.own cb (.inl u)).elim hcbX λv=>by omega
     have hlo2:fL (λb=>(R.bZ q1 R.d.s R.d.ts nx).X F2 b\/b=cb) E lo2:=λad ha=>by
      have g:=f2.2 _ ⟨ad,ha,rfl⟩
      refine⟨(c2.off ad ha).1,λu=>?_⟩
      rcases u with (u|u)|u
      ·exact(c2.off ad ha).2 (.inl u)
      ·have:=r1.lt _ u;omega
      ·exact(c2.off ad ha).2 (.inr (.inr u))
     have S3c:Step (λb=>(R.bZ q1 R.d.s R.d.ts nx).X F2 b\/b=cb) (λb=>(R.bZ q3 R.d.s R.d.ts nx3).X F3 b\/b=cb) E G:=S3.fg (λb u=>.inl u) λb u=>u.elim .inr λv=>.inl (.inr v)
     have hzA:=mm2.size
     refine⟨rfl,F3,s3,M3,U3,q3,nx3,p3.al.later (by omega),r3,?_,?_,by omega,c2.go S3 hcbX (hlo2.mono λb _ u=>.inl u) (λb u=>.inl u) hc3,hlo2.step S3c,mm2.trans' S3.mod λb hb u=>(own2 b u).resolve_right (by omega),λb u=>?_,λa ha=>?_,by have:=S3.mod.size;omega⟩
     ·rw[Mv,Kg hilt,<-hyT.1]
      exact P1.more hI3
     ·rcases hs3 with e|e
      ·rw[e];exact hs1
      ·exact .inr λb hb=>by have:=e b hb;omega
     ·rcases S3.own b u with v|v
      ·exact own2 b v
      ·exact .inr (by omega)
     ·rw[hM3 a ha];exact hM1 a ha
    ·rintro _ G ⟨rfl,F3,s3,M3,U3,q3,nx3,p3,r3,P3,hs3,hnx3,c3,hlo3,mm3,own3,hM3,hcb3⟩
     refine ax rfl ?_
     refine ax rfl ?_
     exact hnext hilt () G ⟨F3,s3,M3,U3,q3,nx3,lo2,y,true,p3,r3,P3,hs3,hnx3,c3,hlo3,hyT.2,mm3,own3,hM3,hcb3⟩
  ·have hz:R.d.ts=[]:=KY (by
    have:¬(R.d.s.n:Int)>0:=of_decide_eq_false hcd
    omega)
   have eR:R.d.rows=[]:=by unfold aE.rows;rw[hz]
   rw[eR]
   rw[hz] at rB' S0
   exact⟨F,s,M,U,R.f,R.d.s,R.next,⟨pB.later (by omega),rB',dom0⟩,pQ.nil (sm.parts R.f (by simp[ah.parts])),.inl rfl,by omega,S0,λ_ _=>rfl⟩
 rintro _ C ⟨F',s',M',U',q',ds,nx,hp,P1,hs1,hnx,S1,hM1⟩
 exact zk (R:=R.bZ q' ds [] nx) hp rfl λnb D h2 S2 _=>hK F' s' M' U' q' nx nb D h2 P1 hs1 hnx (S1.trans S2) hM1
end
structure Fq (R:ah)(n:Int)(cl wl:List Int)(L:List (List Int)):Prop where
 ex:∃(i:Nat) (low:List Int) (es:List (List Int)),i<R.ords.length/\(dX cl (R.ords.getD i [])=true/\(∀j,j<i->dX cl (R.ords.getD j [])=false)/\low=((R.ords.getD i []).take cl.length).map (fC cl wl)\/(∀o∈R.ords,dX cl o=false)/\i=0/\low=[])/\
  es.Perm (((R.asked n).filterMap λq=>q.ts[i]?).map λt=>ki low (t.L.filter (pq low false))).flatten/\((((R.asked n).filterMap λq=>q.ts[i]?).map λt=>ki low (t.L.filter (pq low false))).flatten.Nodup->gS es)/\
  L=(es.filter λy=>decide (aL (cZ R.W (R.ords.getD i []) y R.W) cl=wl)).map λy=>cZ R.W (R.ords.getD i []) y R.W
section
variable {H0 A B D:aa}{F F' X V:Nat->Prop}{p dp Q U most m c w:Nat}{s s':Pl}{M M':aU}{R:ah}{C:bc}{ll:List Int}{l:Sl}
theorem ah.Aq {n:Int}:(R.asked n).length<=2:=by
 unfold ah.asked
 split
 ·exact Kl _
 ·split
  ·exact Lj _
  ·split
   ·exact Lj _
   ·exact KU _
set_option maxHeartbeats 2000000 in
theorem EO {v:Nat}{n:Int}{cols words:Sl}{cl wl:List Int}{K:(Sl×Bool)->aa->Prop}(h:eS H0 A F p dp s M Q U most m c R)(hE:∀b,V b->b<A.size/\¬F b/\H0.size<=b)(hrel:aO H0 A (λb=>F b\/V b) p M R)(hn:R.asked n≠[])(hg:Gl H0)(hv:v=1000000)(hF:R.Fit)(hQ:Q<=1048576)(sm:R.Small w)(hw4:w<=400)(hm:m+v*3*(2*w+1)<=30000000000)(ho:R.ords.length<=16)(h1:1<=R.ords.length)(hord:∀o∈R.ords,o.length=R.W/\∀x∈o,0<=x/\x<(R.W:Int))
  (hc:Ints .i64 A cols cl) (hcc:cols.n<=cols.c) (hw:Ints .u64 A words wl) (hwl:wl.length=cl.length) (hcl:∀x∈cl,0<=x/\x<(R.W:Int)) (hnd:cl.Nodup) (hclW:cl.length<=R.W)
  (hK:∀F' s' out L B,aJ H0 B F' p dp s' M Q U most (m+v*3*(2*w+1))->aO H0 B (λb=>F' b\/V b) p M R->gh (λb=>R.X F' b\/V b) B out L->Fq R n cl wl L->Step (R.X F) (R.X F') A B->K (out,true) B):AJ.sp (aD R.rb) n cols words A K:=by
 refine AJ.of ?_
 unfold AJ.vc
 have hW:=hF.W
 refine pd (V:=V) h hE hrel hn hF ho h1 (λo ho=>(hord o ho).1) hc hcc hw hwl hcl hnd hclW (λq hq=>sm.parts q (R.ke n q hq)) λC A1 cm eA hown hext hcol hwor htur hbeg hhs hhd hol hordr htcs hll=>?_
 have hmem:R.ords.getD C.order []∈R.ords:=by
  rw[KQ,Kg hol]
  exact Kt _
 have htl:C.tcs.length<=2:=by
  have:=congrArg NH htcs
  rw[KM] at this
  have h2:=QD (λq:aE=>q.ts[C.order]?) (R.asked n)
  have:=R.Aq (n:=n)
  omega
 have hrem:C.rem=(((R.asked n).filterMap λq=>q.ts[C.order]?).map λt=>ki C.lowL (t.L.filter (pq C.lowL false))):=by
  unfold bc.rem
  rw[hbeg,if_neg (by simp),<-htcs,Ly]
  refine Lx λt ht=>?_
  obtain⟨a,b⟩:=hll t ht
  show ki C.lowL (t.t.L.filter (pq t.ll t.strict))=ki C.lowL (t.t.L.filter (pq C.lowL false))
  rw[a,b]
 have hasc:C.fU:=λt ht=>(cm.rel.tr _ (cm.tc t ht).1).AQ
 have hTW:∀t∈(R.asked n).filterMap (λq=>q.ts[C.order]?),t∈R.all:=λt ht=>by
  rw[<-htcs] at ht
  obtain⟨tc,h2,rfl⟩:=Kz.1 ht
  exact(cm.tc tc h2).1
 have hrow:∀l∈C.rem,∀y∈l,y.length=R.W:=λl hl y hy=>by
  rw[hrem] at hl
  obtain⟨t,ht,rfl⟩:=Kz.1 hl
  exact((cm.rel.tr t (hTW t ht)).rows y (KP.1 ((jO _ _).subset hy)).1).1
 have hlen:C.rem.flatten.length<=2*w:=by
  rw[List.length_flatten]
  have h3:=uD (λl:List (List Int)=>l.length) w (l:=C.rem) λl hl=>by
   rw[hrem] at hl
   obtain⟨t,ht,rfl⟩:=Kz.1 hl
   have h4:=(jO C.lowL (t.L.filter (pq C.lowL false))).length_le
   have h5:=Nx (pq C.lowL false) t.L
   have h6:=sm.rows t (hTW t ht)
   show (ki C.lowL (t.L.filter (pq C.lowL false))).length<=w
   omega
  have h7:C.rem.length<=2:=by
   rw[hrem,KM,<-htcs,KM];exact htl
  have h8:C.rem.length*w<=2*w:=K2 _ h7
  exact K4 h3 h8
 have hW1:v*(C.tcs.length+1)<=v*3:=LM _ (by omega)
 have hW2:v*(C.tcs.length+1)*(C.rem.flatten.length+1)<=v*3*(2*w+1):=Nat.mul_le_mul hW1 (by omega)
 have hP1:=h.al.grow eA
 refine zu (V:=V) (w:=v) (W1:=v*(C.tcs.length+1)) hP1 cm hext hg hF hQ hv rfl (by omega) (by omega) htur hol (hord _ hmem).1 (hord _ hmem).2 (by rw[hcol];omega) (by rw[hwor];omega) (.inr ⟨hbeg,hhd⟩) hasc hrow (by omega) λC2 es F' s' out B ln tk hnil p1 r1 rx S1=>?_
 have zA:=eA.size
 have hown0:∀b,C.rI b->A.size<=b:=λb u=>by
  rcases hown b (bc.xz u) with x|x
  ·exact x
  ·exact absurd u (cm.sep b (hext▸x))
 have hz0:∀b,b<A.size->R.X (C.Z0 F) b->R.X F b:=λb hb u=>by
  rcases u with (u|u)|u
  ·exact .inl u
  ·have:=hown0 b u;omega
  ·exact .inr u
 refine hK F' s' out _ B (p1.later (by omega)) r1 rx ⟨C.order,C.lowL,es,hol,hordr,?_,λhnn=>?_,?_⟩ ⟨(Ext.mod eA).trans' S1.mod hz0,λb u=>?_⟩
 ·have h2:=tk.perm
  rw[List.flatten_eq_nil_iff.2 hnil,Lu,hrem] at h2
  exact h2
 ·refine tk.up (λl hl=>?_) (by rw[hrem];exact hnn)
  rw[hrem] at hl
  obtain⟨t,ht,rfl⟩:=Kz.1 hl
  exact((cm.rel.tr t (hTW t ht)).AQ).sublist ((jO _ _).trans Mg)
 ·unfold om Hu
  rw[hcol,hwor]
 ·have u2:R.X (C2.Z0 F') b:=u.elim (λx=>.inl (.inl x)) .inr
  rcases S1.own b u2 with x|x
  ·by_cases q:b<A.size
   ·exact .inl (hz0 b q x)
   ·exact .inr (by omega)
  ·exact .inr (by omega)
end
end Go.Proofs.YtkehfflpbpdokaaGreatDoor
