/-
 The document's pool: Flush and Drop.
-/
import Derived.Test.YtmkbhnholcaghaaGreatDoorJ5
open Array renaming length_toList->Td
open Bool renaming and_eq_true->QY,not_eq_true'->R7,or_eq_false_iff->Sp,and_eq_false_iff->Wc
open ByteArray renaming mk->Q4,size_append->Tk
open Classical renaming not_not->XO
open Go.Builtin renaming append_->QM,lenOf->Y9
open Go.IntKind renaming i64->QI,u64->Rj,u8->RE
open Go.Proofs.Tryz renaming prog->QH
open Go.Value renaming int->QT,string->Sf
open Go.Value.slice renaming injEq->Q2
open Int renaming toNat_natCast->QP,tdiv->Rt,tmod->RP,le_refl->TG,tdiv_eq_ediv_of_nonneg->TT,emod_nonneg->Xc,emod_lt_of_pos->Xx,tmod_eq_emod_of_nonneg->XG,toNat_of_nonneg->YC
open List renaming getElem?_eq_some_iff->QJ,getElem?_eq_getElem->QK,mem_of_getElem?->QL,take_succ_eq_append_getElem->QO,mem_append->QQ,take_of_length_le->QS,getElem?_map->QV,mem_map->QW,mem_cons->QX,mem_singleton->Q1,replicate->Q6,map_cons->Q7,mem_cons_of_mem->Q8,mem_cons_self->Q9,eq_nil_of_length_eq_zero->Ra,getElem_mem->Re,getElem?_append_left->Rf,length_map->Rg,length_append->Ri,map_append->Rm,length_take->Ro,length_cons->Rr,drop_eq_getElem_cons->Rw,getElem?_set->Rx,append_assoc->RD,mergeSort_perm->RG,range->RI,getElem?_append_right->RK,drop_of_length_le->RL,length_drop->RM,getElem?_set_ne->RO,sum_cons->RS,getElem?_set_self->RT,mem_of_mem_take->RU,getD->RY,map_map->R8,map_set->R9,getElem_of_mem->Sb,filter_append->Sh,getElem?_drop->Si,pairwise_iff_getElem->SJ,length_singleton->SQ,nil_append->SY,filter_cons->S0,size_toArray->Tf,append_nil->Tl,getElem?_toArray->TB,map_nil->TD,mem_of_mem_drop->TI,getElem?_append->TJ,drop_length->TV,drop_drop->TZ,length_filter_le->T2,any_append->T9,getElem_map->Vl,flatMap_append->Vn,length_reverse->Vp,length->VL,drop_zero->V1,drop_take->Xp,mem_reverse->Zi,take_left'->Zu
open Nat renaming le_refl->QN,le_trans->QZ,zero_le->Q5,mul_le_mul_right->Rq,mul_one->Rz,lt_or_ge->RA,le_succ->RB,succ_mul->RQ,lt_of_lt_of_le->Sk,le_add_right->SP,lt_trichotomy->Ua,mod_eq_of_lt->Uh,lt_succ_self->Us,add_zero->Ux,mod_lt->U1,div_le_self->VK,sub_zero->Wb,le_of_eq->W7,mul_comm->Xb,mul_le_mul_left->Xj,mul_left_comm->XQ,mul_add->Y6,mul_assoc->ZZ
open Ne renaming symm->Sg
open Option renaming isSome->WJ
open Option.some renaming inj->Rc,injEq->RH
open UInt8 renaming toNat_inj->Tp
open Go renaming Value->gp,Addr->hY,TypeId->ic
open Go.Proofs.YtmkbhnholcaghaaGreatDoor renaming ld->tb,st->tl
namespace Go.Proofs.YtmkbhnholcaghaaGreatDoor
section
variable {F:Nat->Prop}{H:aa}{p dp:Nat}{s:Pl}{n:ByteArray}
theorem Bf {K:Int->aa->Prop}(h:ax F H p dp s)(L:s.d.aH<68717000000)(z:s.Fit)
  (hK:∀F' H',ax F' H' p dp (s.flush n).1->Step F F' H H'->K (s.flush n).2 H'):LM.sp (aK p) n H K:=by
 obtain⟨ll,zs,D,g,hF⟩:=h;refine LM.of ?_;unfold LM.vc;simp only[aw];have out:∀{l:Sl} {a:List RZ} {m:Nat->Prop} {A:aa} {t:Pl} {e:Int},bz l a m A p dp t->Step (λb=>D b\/fX ll zs p b) (λb=>m b\/fX l a p b) H A->s.flush n=(t,e)->K e A:=by
  intro l a m A t e h1 M he;obtain⟨F',O,P⟩:=h1.out hF M;have:=hK F' A (by rw[he];exact O) P;rw[he] at this;exact this
 have fin:∀{l:Sl} {a:List RZ} {m:Nat->Prop} {A:aa} {t:Pl} {e:Int},bz l a m A p dp t->Step (λb=>D b\/fX ll zs p b) (λb=>m b\/fX l a p b) H A->s.flush n=Pl.out (t,e)->
   ot.sp (aK p) e A λr H'=>K r H':=by
  intro l a m A t e h1 M he;exact pF h1 λA' G I=>out G (M.trans I) he
 refine g.aj.head.ld (c:=ab .i64) (i:=6) (x:=s.wrong) rfl ?_;refine ah (λhw=>?_) (λhw=>?_)
 ·have o:s.wrong≠0:=by simpa using hw
  refine g.aj.head.ld (c:=ab .i64) (i:=6) (x:=s.wrong) rfl ?_;exact out g (.refl _ _) (by unfold Pl.flush;rw[if_pos o])
 have o:¬s.wrong≠0:=by simpa using hw
 refine g.aj.head.ld (c:=aB) (i:=0) (x:=aK dp) rfl ?_;refine nZ g.cD (by omega) λH3 V=>?_;have g3:=g.ext V;have W:Step (λb=>D b\/fX ll zs p b) (λb=>D b\/fX ll zs p b) H H3:=Step.ext V;have J:=Dk.kG g.cD.wf n;by_cases hl:(s.d.len n).2=0
 ·refine aE (by simp[hl]) ?_;have w:=Pl.w8 g.aj.wf z hl;generalize hN:(s.d.len n).1=N at*;obtain⟨R,X⟩:∃R,R=Pl.bq n (RI N) s:=⟨_,rfl⟩;rw[<-X] at w;refine⟨Nat,λk x A=>x=(k:Int)/\k<=N/\∃(a:List RZ) (m:Nat->Prop) (t:Pl),bz ll a m A p dp t/\Step (λb=>D b\/fX ll zs p b) (λb=>m b\/fX ll a p b) H A/\Pl.bq n ((RI N).drop k) t=R/\t.d.aH<=s.d.aH+k,λk=>N - k,⟨0,rfl,Q5 _,zs,D,s,g3,W,by rw[V1,X],QN _⟩,?_⟩;rintro k _ A ⟨rfl,hk,a,m,t,u,B,d,af⟩;refine ah (λQ=>?_) (λQ=>?_)
  ·have v:k<N:=by simpa using Q
   have S:(RI N).drop k=k::(RI N).drop (k+1):=by
    rw[Rw (by simpa using v)];simp
   rw[S] at d;unfold Pl.bq at d;have q:=aD k (by omega);refine vM u.aj ?_;rw[Ae];cases hi:t.find n k with
   |none=>
     rw[hi] at d;simp only at d;refine aE rfl ?_;rw[q];exact⟨k+1,⟨rfl,v,a,m,t,u,B,d,by omega⟩,by show N - (k+1)<N - k;omega⟩
   |some i=>
     rw[hi] at d;refine aR rfl ?_;obtain⟨f,Y,_,_⟩:=Pl.nK hi;obtain⟨gg,Z⟩:=u.aj.at Y;refine u.aj.head.ld (c:=aq) (i:=2) (x:=ll) rfl ?_;refine u.aj.ag.ld Z (j:=4) (c:=aC) (y:=f.dirty) rfl ?_;simp only[Pl.fZ Y] at d;cases C:f.dirty with
     |false=>
       rw[C,if_neg (by simp)] at d;refine aE rfl ?_;rw[q];exact⟨k+1,⟨rfl,v,a,m,t,u,B,d,by omega⟩,by show N - (k+1)<N - k;omega⟩
     |true=>
       rw[C,if_pos rfl] at d;refine aR rfl ?_;have al:=t.nc i;refine uR u Z (by omega) λT D2 A2 G I=>?_;by_cases E:(t.put i).2=0
       ·rw[if_pos E] at d;refine aE (by simp[E]) ?_;rw[q];exact⟨k+1,⟨rfl,v,T,D2,(t.put i).1,G,B.trans I,d,by omega⟩,by show N - (k+1)<N - k;omega⟩
       ·rw[if_neg E] at d;refine aR (by simp[E]) ?_;refine fin G (B.trans I) ?_;unfold Pl.flush;rw[if_neg o,if_neg (by simp[hl]),w,<-d,if_pos E]
  ·have U:k=N:=by simp at Q;omega
   subst U;rw[RL (by simp)] at d;unfold Pl.bq at d;refine u.aj.head.ld (c:=aB) (i:=0) (x:=aK dp) rfl ?_;refine HO u.cD (by omega) λD5 H5 a5 S5=>?_;obtain⟨O,P⟩:=u.ks a5 S5;refine fin O (B.trans P) ?_;unfold Pl.flush;rw[if_neg o,if_neg (by simp[hl]),w,<-d,if_neg (by simp)]
 ·refine aR (by simp[hl]) (fin g3 W ?_);unfold Pl.flush;rw[if_neg o,if_pos (by simpa using hl)]
def Og (z z':RZ):Prop:=∀b,ai z.2 b->¬ai z'.2 b
theorem ua {zs:List RZ}:(∀(i j:Nat) (z z':RZ),zs[i]?=some z->zs[j]?=some z'->i≠j->∀b,ai z.2 b->¬ai z'.2 b)↔zs.Pairwise Og:=by
 rw[SJ];constructor
 ·intro h i j hi d a;exact h i j _ _ (QK hi) (QK d) (by omega)
 ·intro h i j z z' g e a b f c;obtain⟨hi,rfl⟩:=QJ.1 g;obtain⟨d,rfl⟩:=QJ.1 e;rcases Nat.lt_or_gt_of_ne a with q|q
  ·exact h i j hi d q b f c
  ·exact h j i d hi q b c f
theorem qu.sub {H':aa}{ll c:Sl}{zs a:List RZ}(h:qu H ll zs)(hs:a.Sublist zs)(d:aF nG vh H' c a)(hm:∀u∈zs,∀b,ai u.2 b->b<H.size->H'[b]?=H[b]?):qu H' c a:=
 ⟨d,λz e=>(h.ent z (hs.subset e)).ar λb f hl=>hm z (hs.subset e) b f hl,ua.2 ((ua.1 h.apart).sublist hs)⟩
def tQ (n:ByteArray)(z:RZ):Bool:=!(z.1.name.toList==n.toList)
theorem E6 {K:Int->aa->Prop}(h:ax F H p dp s)(X:s.d.aH<68719476736)
  (hK:∀F' H',ax F' H' p dp (s.c9 n).1->Step F F' H H'->K (s.c9 n).2 H'):KM.sp (aK p) n H K:=by
 obtain⟨ll,zs,D,g,hF⟩:=h;refine KM.of ?_;unfold KM.vc;simp only[aw];have out:∀{d:Sl} {l:List RZ} {B:Nat->Prop} {A:aa} {t:Pl} {e:Int},bz d l B A p dp t->Step (λb=>D b\/fX ll zs p b) (λb=>B b\/fX d l p b) H A->s.c9 n=(t,e)->K e A:=by
  intro d l B A t e h1 Y he;obtain⟨F',N,Z⟩:=h1.out hF Y;have:=hK F' A (by rw[he];exact N) Z;rw[he] at this;exact this
 have fin:∀{d:Sl} {l:List RZ} {B:Nat->Prop} {A:aa} {t:Pl} {e:Int},bz d l B A p dp t->Step (λb=>D b\/fX ll zs p b) (λb=>B b\/fX d l p b) H A->s.c9 n=Pl.out (t,e)->
   ot.sp (aK p) e A λr H'=>K r H':=by
  intro d l B A t e h1 Y he;exact pF h1 λA' h2 S2=>out h2 (Y.trans S2) he
 refine g.aj.head.ld (c:=ab .i64) (i:=6) (x:=s.wrong) rfl ?_;refine ah (λhw=>?_) (λhw=>?_)
 ·have o:s.wrong≠0:=by simpa using hw
  refine g.aj.head.ld (c:=ab .i64) (i:=6) (x:=s.wrong) rfl ?_;exact out g (.refl _ _) (by unfold Pl.c9;rw[if_pos o])
 have o:¬s.wrong≠0:=by simpa using hw
 refine g.aj.head.ld (c:=aB) (i:=0) (x:=aK dp) rfl ?_;refine nZ g.cD (by omega) λH3 e3=>?_;have g3:=g.ext e3;have S3:Step (λb=>D b\/fX ll zs p b) (λb=>D b\/fX ll zs p b) H H3:=Step.ext e3;by_cases hl:(s.d.len n).2=0
 ·refine aE (by simp[hl]) ?_;have hn:=g.aj.n;have hlen:=g.aj.wf.len;have af:=g.aj.wf.most;have a8:=g.aj.len;refine av s.fs.length (λk x A=>x.2=(k:Int)/\aF nG vh A x.1 ((zs.take k).filter (tQ n))/\Ext H A/\(∀b,ai x.1 b->H.size<=b)/\((s.fs.take k).any λf=>f.name.toList==n.toList&&!f.pins.isEmpty)=false) ⟨rfl,aF.nil _ _ _,e3,λb q=>absurd q gY,rfl⟩ ?_;rintro k ⟨l1,j⟩ H4 next hk ⟨hj,O,C,f4,v⟩ m
  simp only at hj O f4 m ⊢;subst hj;have g4:=g.ext C;have z4:=C.size;refine g4.aj.head.ld (c:=aq) (i:=2) (x:=ll) rfl ?_;refine ah (λP=>?_) (λP=>?_)
  ·have w:k<s.fs.length:=by rw[hn] at P;simpa using P
   have Q:s.fs[k]?=some s.fs[k]:=QK w;obtain⟨M,R⟩:=g4.aj.at Q;have S:zs.take (k+1)=zs.take k++[(s.fs[k],M)]:=by
    rw[List.take_add_one,R];rfl
   have T:s.fs.take (k+1)=s.fs.take k++[s.fs[k]]:=by
    rw[QO w]
   have z:=aD k (by omega);refine g4.aj.head.ld (c:=aq) (i:=2) (x:=ll) rfl ?_;refine g4.aj.ag.ld R (j:=0) (c:=aN) (y:=s.fs[k].name) rfl ?_;refine ah (λU=>?_) (λU=>?_)
   ·have G:tQ n (s.fs[k],M)=true:=U;have al:(s.fs[k].name.toList==n.toList)=false:=by simpa using U
    refine g4.aj.head.ld (c:=aq) (i:=2) (x:=ll) rfl ?_;obtain⟨ad,ha⟩:=bX.addr g4.aj.ag.arr.rd (by decide) (by omega);rw[ha];refine⟨⟨by omega,by omega⟩,?_⟩;refine bX.cN (E:=nG) (c:=bR [aN,(ab .i64),(ab .u8),aN,aC,aq,(ab .i64)]) (y:=(s.fs[k].name,(s.fs[k].page:Int),(s.fs[k].kind.toNat:Int),cP s.fs[k].b,s.fs[k].dirty,M,s.fs[k].left)) g4.aj.ag.arr.rd ha R rfl (by simp[nG]) rfl ?_;have an:=T2 (tQ n) (zs.take k);simp only[Ro] at an;refine aF.push (E:=nG) Kg (x:=(s.fs[k],M)) O rfl (by omega) (by omega) λl5 H5 o5 g5 _=>?_;have z5:=g5.1.size;refine m w _ _ ⟨z,?_,⟨by omega,λb I _=>(g5.1.same b (by omega) λhh=>by have:=f4 b hh;omega).trans (C.same b I id)⟩,λb I=>?_,?_⟩
    ·rw[S,Sh,S0,if_pos G];exact o5
    ·rcases g5.2 b I with q|q
     ·exact f4 b q
     ·omega
    ·rw[T,T9,v];simp[al]
   ·have G:tQ n (s.fs[k],M)=false:=U;have heq:(s.fs[k].name.toList==n.toList)=true:=by simpa using U
    refine g4.aj.head.ld (c:=aq) (i:=2) (x:=ll) rfl ?_;refine g4.aj.ag.ld R (j:=5) (c:=aq) (y:=M) rfl ?_;have J:=(g4.aj.ag.ent _ (QL R)).n (by decide);simp only at J;refine ah (λhp=>?_) (λhp=>?_)
    ·have L:s.fs[k].pins.isEmpty=false:=by
      cases a1:s.fs[k].pins with
      |nil=>rw[a1] at J;simp at J hp;omega
      |cons a r=>rfl
     have V:(s.fs.any λf=>f.name.toList==n.toList&&!f.pins.isEmpty)=true:=List.any_eq_true.2 ⟨_,QL Q,by rw[heq,L];rfl⟩;refine out g4 (Step.ext C) ?_;unfold Pl.c9;rw[if_neg o,if_neg (by simp[hl]),if_pos V]
    ·have L:s.fs[k].pins.isEmpty=true:=by
      rw[List.isEmpty_iff];exact Ra (by simp at hp;omega)
     refine m w _ _ ⟨z,?_,C,f4,?_⟩
     ·rw[S,Sh,S0,G];simpa using O
     ·rw[T,T9,v];simp[L]
  ·have W:k=s.fs.length:=by rw[hn] at P;simp at P;omega
   rw[W,QS (by omega)] at O;rw[W,QS (QN _)] at v;refine g4.aj.head.st (i:=2) (by decide:2<7) (by rfl) λH6 d6 m6 s6=>?_;have off:=bH.off g.aj.head g.aj.ag;have bb:=aI g.aj.head;have a6:bH l1 (zs.filter (tQ n)) H6 p dp (s.forget n):=by
    refine⟨d6,?_,?_,g.aj.wf.forget n⟩
    ·refine g.aj.ag.sub List.filter_sublist (O.ar λb I hl=>m6.same b hl λe=>by have:=f4 b I;omega) λu hu b I hl=>(m6.same b (by omega) λe=>off (e▸.inr ⟨u,hu,I⟩)).trans (C.same b hl id)
    ·show (s.fs.filter λf=>!(f.name.toList==n.toList))=_;rw[g.aj.fs];unfold Ex;rw[List.filter_map];rfl
   obtain⟨N,Z⟩:=g.js a6 rfl ((Ext.mod C).trans (m6.mono λb _ q=>.inl q)) (by
    rintro b (q|⟨u,hu,q⟩)
    ·exact .inr (f4 b q)
    ·exact .inl (.inr ⟨u,(List.mem_filter.1 hu).1,q⟩))
   refine N.aj.head.ld (c:=aB) (i:=0) (x:=aK dp) rfl ?_;refine Ck N.cD λD7 H7 a7 S7=>?_;obtain⟨r1,r2⟩:=N.ks a7 S7;refine fin r1 (Z.trans r2) ?_;unfold Pl.c9;rw[if_neg o,if_neg (by simp[hl]),if_neg (by rw[v];simp)];rfl
 ·refine aR (by simp[hl]) (fin g3 S3 ?_);unfold Pl.c9;rw[if_neg o,if_pos (by simpa using hl)]
end
section
open Go.MapKept
def dC (p:Nat)(b:Rb):List gp:=[.pointer (aK p),.string b.name,.int .i64 b.width,.int .i64 b.wrong,.bool b.closed]
abbrev bP (H:aa)(k:Nat)(t:ic)(p:Nat)(b:Rb)(rest:List gp):Prop:=ao H k t (dC p b++rest).toArray
theorem ax.wf {F:Nat->Prop}{H:aa}{p dp:Nat}{s:Pl}(h:ax F H p dp s):s.WF:=by
 obtain⟨_,_,_,g,_⟩:=h;exact g.aj.wf
section
variable {H:aa}{k p dp:Nat}{t:ic}{b:Rb}{rest:List gp}{F:Nat->Prop}{s:Pl}
theorem bP.get (i:Nat)(v:gp)(h:(dC p b)[i]?=some v):(dC p b++rest).toArray[i]?=some v:=by
 rw[TB,Rf (QJ.1 h).1];exact h
theorem bP.tail {j:Nat}{v:gp}(h:rest[j]?=some v):(dC p b++rest).toArray[5+j]?=some v:=by
 rw[TB,RK (by simp[dC])];simpa[dC] using h
theorem qZ {K:Int->aa->Prop}(h:bP H k t p b rest)(a:K b.ready H):IF.sp (aK k) H K:=by
 refine IF.of ?_;unfold IF.vc;unfold Rb.ready at a;simp only[aw,aK];refine ao.ld (c:=ab .i64) (i:=3) (x:=b.wrong) h (bP.get 3 _ rfl) ?_;refine ah (λe=>?_) (λe=>?_)
 ·refine ao.ld (c:=ab .i64) (i:=3) (x:=b.wrong) h (bP.get 3 _ rfl) ?_;rw[if_pos (by simpa using e)] at a;exact a
 ·rw[if_neg (by simpa using e)] at a;refine ao.ld (c:=aC) (i:=4) (x:=b.closed) h (bP.get 4 _ rfl) ?_;cases d:b.closed with
  |true=>rw[d,if_pos rfl] at a;exact a
  |false=>rw[d,if_neg (by simp)] at a;exact a
theorem Bx (e:Int):(dC p b++rest).toArray.setIfInBounds 3 (.int .i64 e)=(dC p {b with wrong:=e}++rest).toArray:=by
 simp[dC]
theorem zl:(dC p b++rest).toArray.setIfInBounds 4 (.bool true)=(dC p {b with closed:=true}++rest).toArray:=by
 simp[dC]
theorem rr {e:Int}{K:Int->aa->Prop}(h:bP H k t p b rest)(hw:b.wrong=0)(a:∀H',bP H' k t p (b.cE e) rest->Mod (λq=>q=k) H H'->H'.size=H.size->K e H'):EW.sp (aK k) e H K:=by
 refine EW.of ?_;unfold EW.vc;unfold Rb.cE at a;simp only[aw,aK];refine ah (λd=>?_) (λd=>?_)
 ·rw[if_pos (by simpa using d)] at a;refine ao.ld (c:=ab .i64) (i:=3) (x:=b.wrong) h (bP.get 3 _ rfl) ?_;refine aR (by rw[hw];rfl) ?_;refine ao.st h (i:=3) (by simp[dC]) rfl λH' f m hs=>?_;rw[Bx] at f;exact a H' f m hs
 ·rw[if_neg (by simpa using d)] at a;exact a H h (.refl _ _) rfl
theorem C4 {kd:UInt8}{sl:Sl}{l:List UInt8}{K:Int->aa->Prop}(h:bP H k t p b rest)(I:ax F H p dp s)(hk:¬F k)(J:bW H sl l)(hsl:∀ad,sl.a=some ad->¬F ad.block/\ad.block<H.size)
  (L:b.name.size<=9223372036854775807) (v:s.d.aH<68719470000) (M:s.next<1099511620000) (N:0<=s.next) (f:s.Fit)
  (a:∀F' H',ax F' H' p dp (s.more b.name kd l).1->Step F F' H H'->K (s.more b.name kd l).2 H'):Jy.sp (aK k) (kd.toNat:Int) sl H K:=by
 have O:=aI h;refine Jy.of ?_;unfold Jy.vc;simp only[aw,aK];refine ao.ld (c:=aB) (i:=0) (x:=aK p) h (bP.get 0 _ rfl) ?_;refine ao.ld (c:=aN) (i:=1) (x:=b.name) h (bP.get 1 _ rfl) ?_;refine Co I L (by omega) (by omega) f λw H1 p1 d=>?_;have h1:bP H1 k t p b rest:=h.mod d.mod hk;have y:¬w k:=λq=>(d.own k q).elim hk λr=>by omega
 have z:bW H1 sl l:=J.ar λad m hl=>d.mod.same _ hl (hsl ad m).1;have g:∀ad,sl.a=some ad->¬w ad.block:=λad m q=>by
  have:=(hsl ad m).2;rcases d.own _ q with r|r
  ·exact(hsl ad m).1 r
  ·omega
 unfold Pl.more at a;have G:(s.fresh b.name).1.next<=s.next+1:=s.oP N (by omega)
 generalize P:(s.fresh b.name).1=s1 at*;generalize W:(s.fresh b.name).2.1=hd at*;generalize he:(s.fresh b.name).2.2.2=e at*;by_cases o:e=0
 ·subst o;rw[if_neg (by simp)] at a;by_cases A:kd=0
  ·subst A;rw[if_pos rfl] at a;refine aE (by simp) ?_;refine aR (by simp) ?_;refine ao.ld (c:=aB) (i:=0) (x:=aK p) h1 (bP.get 0 _ rfl) ?_;refine kO p1 (by omega) λB u p2 j=>?_;have el:Pl.leave (s1,0) hd=s1.bk hd:=if_pos rfl;rw[el] at a;exact a B u p2 (d.trans j)
  ·have C:((kd.toNat:Int)!=0)=true:=by
    have:kd.toNat≠0:=λq=>A (Tp.1 q);simp;omega
   rw[if_neg A] at a;refine aR (by rw[C];rfl) ?_;refine ao.ld (c:=aB) (i:=0) (x:=aK p) h1 (bP.get 0 _ rfl) ?_;refine yW p1 (by omega) z g λB u p2 j=>?_;have Q:bP u k t p b rest:=h1.mod j.mod y;have R:(s1.set hd kd l).1.next=s1.next:=s1.j5 hd kd l
   generalize S:s1.set hd kd l=s2 at*;refine ah (λD=>?_) (λD=>?_)
   ·have E:s2.2=0:=by simpa using D
    refine ao.ld (c:=aB) (i:=0) (x:=aK p) Q (bP.get 0 _ rfl) ?_;refine kO p2 (by omega) λT U p3 V=>?_;have el:Pl.leave s2 hd=s2.1.bk hd:=if_pos E;rw[el] at a;exact a T U p3 ((d.trans j).trans V)
   ·have E:s2.2≠0:=by simpa using D
    have el:Pl.leave s2 hd=s2:=if_neg E;rw[el] at a;exact a B u p2 (d.trans j)
 ·rw[if_pos o] at a;refine aE (by simp[o]) ?_;refine aE (by simpa using o) ?_;exact a w H1 p1 d
theorem zy {g:Int}{K:(Int×Sl×Int)->aa->Prop}(h:bP H k t p b rest)(J:ax F H p dp s)(hk:¬F k)
  (L:b.name.size<=9223372036854775807) (u:s.d.aH<68719470000) (M:s.next<1099511620000) (N:0<=s.next)
  (a:∀F' H' sl,ax F' H' p dp (s.look b.name g).1->Step F F' H H'->bW H' sl (s.look b.name g).2.2.1->(∀q,ai sl q->H.size<=q)->(s.look b.name g).2.2.1.length<=504->sl.n<=sl.c->K (((s.look b.name g).2.1.toNat:Int),sl,(s.look b.name g).2.2.2) H'):I2.sp (aK k) g H K:=by
 have O:=aI h;refine I2.of ?_;unfold I2.vc;simp only[aw,aK];refine ao.ld (c:=aB) (i:=0) (x:=aK p) h (bP.get 0 _ rfl) ?_;refine ao.ld (c:=aN) (i:=1) (x:=b.name) h (bP.get 1 _ rfl) ?_;refine yM J L (by omega) (by omega) λv H1 p1 m=>?_;have h1:bP H1 k t p b rest:=h.mod m.mod hk;have E:(s.bF b.name g).1.next<=s.next+1:=s.mF N (by omega)
 unfold Pl.look at a;generalize P:(s.bF b.name g).1=s1 at*;generalize X:(s.bF b.name g).2.1=hd at*;generalize he:(s.bF b.name g).2.2=e at*;refine ah (λw=>?_) (λw=>?_)
 ·have y:e≠0:=by simpa using w
  rw[if_pos y] at a;exact a v H1 _ p1 m ⟨rfl,Reads.nil _ _⟩ (λq ⟨ad,f,_⟩=>by cases f) (by simp) (QN _)
 ·have y:¬e≠0:=by simpa using w
  rw[if_neg y] at a;refine ao.ld (c:=aB) (i:=0) (x:=aK p) h1 (bP.get 0 _ rfl) ?_;refine Ec p1 (by omega) λsl z Q A f2 c2=>?_;have p2:=p1.ext A;have R:bP z k t p b rest:=h1.ext A;have G:Step F v H z:=m.trans ⟨A.mod,λb S=>.inl S⟩;have B:=Pl.CX p1.wf hd;have j:(s1.get hd).2.2≠0->s1.get hd=(0,[],(s1.get hd).2.2):=by
   unfold Pl.get;split
   ·intro _;rfl
   ·split
    ·intro q;exact absurd rfl q
    ·intro _;rfl
  generalize T:s1.get hd=r at*;refine ah (λd=>?_) (λd=>?_)
  ·have o:r.2.2≠0:=by simpa using d
   rw[if_pos o] at a;have l:=j o;have C:r.1=0:=by rw[l]
   have D:r.2.1=[]:=by rw[l]
   simp only[C,D] at a;exact a v z _ p2 G ⟨rfl,Reads.nil _ _⟩ (λq ⟨ad,f,_⟩=>by cases f) (by simp) (QN _)
  ·have o:¬r.2.2≠0:=by simpa using d
   rw[if_neg o] at a;refine ao.ld (c:=aB) (i:=0) (x:=aK p) R (bP.get 0 _ rfl) ?_;refine kO p2 (by omega) λU V p3 I=>?_;have Y:=m.size;refine a U V sl p3 (G.trans I) (Q.ar λad f hl=>I.mod.same _ hl λr=>by have:=p1.lt _ r;have:=f2 _ ⟨ad,f,rfl⟩;omega) (λq W=>by have:=f2 q W;omega) B c2
end
end
section
open Go.MapKept
structure sZ (H:aa)(k p:Nat)(w:RW)(sw sl:Sl):Prop where
 row:bP H k Kc p w.b [sw.v,.int .i64 (w.n:Int),sl.v,.int .i64 (w.rows:Int)]
 wait:aF EB fU H sw w.wait
 last:aO H 0 fM 1 sl (w.last.map (QT .u64))
section
variable {H:aa}{k p dp:Nat}{w:RW}{sw sl:Sl}{F:Nat->Prop}{s:Pl}
theorem sZ.j9 (h:sZ H k p w sw sl):¬ai sw k:=λq=>by
 obtain⟨cur,a⟩:=h.wait.obj k q;exact absurd (aM a h.row) (by decide)
theorem sZ.AT (h:sZ H k p w sw sl):¬ai sl k:=λq=>by
 obtain⟨cur,a⟩:=h.last.obj k q;exact absurd (aM a h.row) (by decide)
theorem sZ.lt (h:sZ H k p w sw sl):∀b,dH k sw sl b->b<H.size:=by
 rintro b (rfl|q|q)
 ·exact aI h.row
 ·exact h.wait.lt b q
 ·exact h.last.lt b q
theorem sZ.ar {H':aa}(h:sZ H k p w sw sl)(e:∀b,dH k sw sl b->b<H.size->H'[b]?=H[b]?):sZ H' k p w sw sl:=
 ⟨(e k (.inl rfl) (aI h.row)).trans h.row,h.wait.ar λb a hl=>e b (.inr (.inl a)) hl,h.last.ar λb a hl=>e b (.inr (.inr a)) hl⟩
theorem sZ.mod {G:Nat->Prop}{H':aa}(h:sZ H k p w sw sl)(m:Mod G H H')(a:∀b,dH k sw sl b->¬G b):sZ H' k p w sw sl:=h.ar λb c hl=>m.same b hl (a b c)
theorem Ints.N7 {F:Nat->Prop}{k:IntKind}{H H':aa}{s:Sl}{l:List Int}(h:Ints k H s l)(hm:Mod F H H')(a:∀ad,s.a=some ad->l≠[]->¬F ad.block):Ints k H' s l:=by
 by_cases e:l=[]
 ·subst e;exact⟨h.len,λi v c=>by simp at c⟩
 ·exact h.mod hm λad d=>a ad d e
theorem Rb.iZ {b:Rb}(h:¬b.ready≠0):b.wrong=0/\b.closed=false:=by
 unfold Rb.ready at h;split at h
 ·rename_i q;exact absurd q h
 ·rename_i q;refine⟨Decidable.of_not_not q,?_⟩;split at h
  ·exact absurd (by decide) h
  ·rename_i a;exact Bool.eq_false_iff.2 a
theorem CR {K:Int->aa->Prop}(h:sZ H k p w sw sl)(I:ax F H p dp s)(hd:∀b,F b->¬dH k sw sl b)(z:w.b.wrong=0)
  (N:w.b.name.size<=9223372036854775807) (a:s.d.aH<68719470000) (A:s.next<1099511620000) (O:0<=s.next) (f:s.Fit)
  (o:∀F' g H',ax F' H' p dp (w.out s).1->sZ H' k p (w.out s).2.1 g sl->(∀b,ai g b->ai sw b)->Mod (λb=>F b\/b=k) H H'->(∀b,F' b->F b\/H.size<=b)->K (w.out s).2.2 H'):J7.sp (aK k) H K:=by
 refine J7.of ?_;unfold J7.vc;simp only[aw,aK];refine ao.ld (c:=ab .i64) (i:=6) (x:=(w.n:Int)) h.row (bP.tail (j:=1) rfl) ?_;refine ah (λu=>?_) (λu=>?_)
 ·have B:w.n=0:=by
   have:(w.n:Int)=0:=by simpa using u
   omega
  have C:w.out s=(s,w,0):=if_pos B;rw[C] at o;exact o F sw H I h (λb q=>q) (.refl _ _) (λb q=>.inl q)
 ·have B:¬w.n=0:=λq=>by rw[q] at u;simp at u
  have C:w.out s=((s.more w.b.name 1 w.wait).1,{w with b:=w.b.cE (s.more w.b.name 1 w.wait).2,wait:=[],n:=0},(s.more w.b.name 1 w.wait).2):=if_neg B;rw[C] at o;have l:¬F k:=λq=>hd k q (.inl rfl);refine ao.ld (c:=aq) (i:=5) (x:=sw) h.row (bP.tail (j:=0) rfl) ?_;refine C4 (kd:=1) h.row I l (cg h.wait) (λad J=>⟨λq=>hd _ q (.inr (.inl ⟨ad,J,rfl⟩)),h.wait.lt _ ⟨ad,J,rfl⟩⟩) N a A O f λL H1 p1 y=>?_;have h1:=h.mod y.mod λb d q=>hd b q d;have P:=aI h.row;have m:¬L k:=λq=>(y.own k q).elim l λr=>by omega
  generalize (s.more w.b.name 1 w.wait).1=s1 at*;generalize (s.more w.b.name 1 w.wait).2=e at*;refine ao.st h1.row (i:=5) (by simp[dC]) rfl λS r2 m2 z2=>?_;refine ao.st r2 (i:=6) (by simp[dC]) rfl λQ M m3 z3=>?_;have D:bP Q k Kc p w.b [(Sl.mk none 0 0).v,.int .i64 ((0:Nat):Int),sl.v,.int .i64 (w.rows:Int)]:=by
   have e:((dC p w.b++[sw.v,.int .i64 (w.n:Int),sl.v,.int .i64 (w.rows:Int)]).toArray.setIfInBounds 5 (.slice none 0 0)).setIfInBounds 6 (.int .i64 0)=(dC p w.b++[(Sl.mk none 0 0).v,.int .i64 ((0:Nat):Int),sl.v,.int .i64 (w.rows:Int)]).toArray:=by simp[dC]
   rw[e] at M;exact M
  refine rr D z λE R m4 z4=>?_;have m14:Mod (λq=>q=k) H1 E:=(m2.trans m3).trans m4;have G:Mod (λb=>F b\/b=k) H E:=(y.mod.mono λb _ q=>.inl q).trans' m14 λb d q=>.inr q;refine o L (Sl.mk none 0 0) E (p1.ar λb d hl=>m14.same b hl λq=>m (q▸d)) ⟨R,aF.nil _ _ _,h1.last.ar λb d hl=>m14.same b hl λq=>h1.AT (q▸d)⟩ (by rintro b ⟨ad,q,_⟩;cases q) G y.own
set_option maxHeartbeats 1000000 in
theorem Dm {l:Sl}{ll:List Int}{K:Int->aa->Prop}(h:sZ H k p w sw sl)(S:ax F H p dp s)(hd:∀b,F b->¬dH k sw sl b)
  (hl:Ints .u64 H l ll) (T:∀ad,l.a=some ad->ll≠[]->¬dH k sw sl ad.block) (hlen:(ll.length:Int)=w.b.width->ll.length<=1000000) (a7:w.wait.length<=1000000) (a8:w.rows<1099511627776) (bb:w.n<1099511627776)
  (hn:w.b.name.size<=9223372036854775807) (J:s.d.aH<68719470000) (Z:s.next<1099511620000) (h0:0<=s.next) (U:s.Fit)
  (g:∀F' d L H',ax F' H' p dp (w.add s ll).1->sZ H' k p (w.add s ll).2.1 d L->(∀b,F' b->¬dH k d L b)->Step (λb=>F b\/dH k sw sl b) (λb=>F' b\/dH k d L b) H H'->K (w.add s ll).2.2 H'):CP.sp (aK k) l H K:=by
 refine CP.of ?_;unfold CP.vc;simp only[aw,aK];have M:=hl.len;unfold RW.add at g;refine qZ h.row ?_;refine⟨λ_ A=>A=H/\¬w.b.ready≠0/\¬((ll.length:Int)≠w.b.width)/\¬(0<w.rows/\aX ll w.last<=0),?_,?_⟩
 ·refine ah (λf=>?_) (λf=>?_)
  ·have D:w.b.ready≠0:=by simpa using f
   rw[if_pos D] at g;exact g F sw sl H S h hd (.refl _ _)
  have D:¬w.b.ready≠0:=by simpa using f
  rw[if_neg D] at g;refine ao.ld (c:=ab .i64) (i:=2) (x:=w.b.width) h.row (bP.get 2 _ rfl) ?_;refine ah (λf=>?_) (λf=>?_)
  ·have N:(ll.length:Int)≠w.b.width:=by rw[<-M];simpa using f
   rw[if_pos N] at g;exact g F sw sl H S h hd (.refl _ _)
  have N:¬((ll.length:Int)≠w.b.width):=by rw[<-M];simpa using f
  rw[if_neg N] at g;have hlen:=hlen (by omega);refine ao.ld (c:=ab .i64) (i:=8) (x:=(w.rows:Int)) h.row (bP.tail (j:=3) rfl) ?_;refine ah (λf=>?_) (λf=>?_)
  ·have V:0<w.rows:=by
    have:(w.rows:Int)>0:=by simpa using f
    omega
   refine ao.ld (c:=aq) (i:=7) (x:=sl) h.row (bP.tail (j:=2) rfl) ?_;refine kj hl h.last.ints (by omega) ?_;refine ah (λf=>?_) (λf=>?_)
   ·have O:aX ll w.last<=0:=by simpa using f
    rw[if_pos ⟨V,O⟩] at g;exact g F sw sl H S h hd (.refl _ _)
   ·have O:¬aX ll w.last<=0:=by simpa using f
    exact⟨rfl,D,N,λq=>O q.2⟩
  ·have V:¬0<w.rows:=by
    have:¬(w.rows:Int)>0:=by simpa using f
    omega
   exact⟨rfl,D,N,λq=>V q.1⟩
 rintro _ A ⟨rfl,D,N,V⟩;rw[if_neg D,if_neg N,if_neg V] at g;have hlen:=hlen (by omega);obtain⟨af,_⟩:=Rb.iZ D;refine⟨λA=>bP A k Kc p w.b [sw.v,.int .i64 (w.n:Int),sl.v,.int .i64 (w.rows:Int)],h.row,?_⟩;refine ao.dE (c:=aq) (i:=5) (x:=sw) (cs:=λ_=>_) (λ_ q=>q) (λ_ _=>bP.tail (j:=0) rfl) ?_;refine wT hl hlen λr A1 o1 X=>?_;have h1:=h.mod X λ_ _=>id;refine⟨h1.row,?_⟩;have bd:(fh ll).length<=8*1000000+1:=by have:=qP ll;omega
 have al:bX EB A1 r.a (cZ (fh ll)):=by
  unfold bX;rw[jc,kP (lg ll)];exact o1.reads
 have rn:r.n=(cZ (fh ll)).length:=by have:=o1.1;simpa using this.symm
 refine aF.append jM h1.wait al rn (by rw[cv];omega) (by rw[cv];omega) λs' Y o2 g2 _=>?_;have bh:=aI h.row;have z1:=X.size;have z2:=g2.1.size;have r2:bP Y k Kc p w.b [sw.v,.int .i64 (w.n:Int),sl.v,.int .i64 (w.rows:Int)]:=h1.row.mod g2.1 h.j9;have l2:Ints .u64 Y l ll:=(hl.ext X).N7 g2.1 λad ha P q=>T ad ha P (.inr (.inl q));have E:¬ai s' k:=λq=>by
  rcases g2.2 k q with u|u
  ·exact h.j9 u
  ·omega
 refine ao.st r2 (i:=5) (by simp[dC]) rfl λA3 r3 m3 z3=>?_;refine ao.ld (c:=ab .i64) (i:=6) (x:=(w.n:Int)) r3 (by simp[dC]) ?_;refine ao.st r3 (i:=6) (by simp[dC]) rfl λA4 r4 m4 z4=>?_;refine ao.ld (c:=ab .i64) (i:=8) (x:=(w.rows:Int)) r4 (by simp[dC]) ?_;refine ao.st r4 (i:=8) (by simp[dC]) rfl λA5 r5 m5 z5=>?_;refine ao.st r5 (i:=7) (by simp[dC]) rfl λQ r6 m6 z6=>?_;refine ao.ld (c:=aq) (i:=7) (x:=Sl.mk none 0 0) r6 (by simp[dC]) ?_;have o:Mod (λq=>q=k) Y Q:=((m3.trans m4).trans m5).trans m6;have l6:Ints .u64 Q l ll:=l2.N7 o λad ha P q=>T ad ha P (.inl q);have o6:aF EB fU Q s' (w.wait++cZ (fh ll)):=o2.mod o λb a q=>E (q▸a);refine jR.append (base:=Q.size) (s:=Sl.mk none 0 0) (x:=l) (aO.nil _ _ _ _) (by rw[Rg];exact M.symm) l6.reads (oa _ _) (by simp;omega) (by simp;omega) (QN _) λc A7 n7 o7 m7 f7 _=>?_;have x7:Ext Q A7:=⟨m7.size,λb a _=>m7.same b a (by rintro⟨ad,q,_⟩;cases q)⟩;have v:∀b,ai c b->Q.size<=b:=λb a=>by
  rcases f7 b a with ⟨ad,q,_⟩|q
  ·cases q
  ·exact q
 have an:¬ai c k:=λq=>by have:=v k q;have:=o.size;omega
 refine ao.st (r6.ext x7) (i:=7) (by simp[dC]) rfl λG r8 m8 z8=>?_;rw[aD w.rows (by omega),aD w.n (by omega)] at r8;have C:bP G k Kc p w.b [s'.v,.int .i64 ((w.n+1:Nat):Int),c.v,.int .i64 ((w.rows+1:Nat):Int)]:=by
  have e:(((((dC p w.b++[sw.v,.int .i64 (w.n:Int),sl.v,.int .i64 (w.rows:Int)]).toArray.setIfInBounds 5 s'.v).setIfInBounds 6 (.int .i64 ((w.n+1:Nat):Int))).setIfInBounds 8 (.int .i64 ((w.rows+1:Nat):Int))).setIfInBounds 7 (.slice none 0 0)).setIfInBounds 7 c.v=(dC p w.b++[s'.v,.int .i64 ((w.n+1:Nat):Int),c.v,.int .i64 ((w.rows+1:Nat):Int)]).toArray:=by
   simp[dC]
  rw[e] at r8;exact r8
 have W:sZ G k p (w.push ll) s' c:=⟨C,(o6.ext x7).mod m8 λb a q=>E (q▸a),(by
  have:=o7.yD;rw[SY] at this;exact this.mod m8 λb a q=>an (q▸a))⟩
 have R:Mod (λb=>b=k\/ai sw b) A G:=by
  have a1:Mod (λb=>b=k\/ai sw b) A Y:=X.mod.trans' g2.1 λb _ q=>.inr q;have a2:Mod (λb=>b=k\/ai sw b) A Q:=a1.trans' o λb _ q=>.inl q;have a3:Mod (λb=>b=k\/ai sw b) A A7:=a2.trans' x7 λb _ q=>q.elim;exact a3.trans' m8 λb _ q=>.inl q
 have y:∀b,ai s' b->ai sw b\/A.size<=b:=λb a=>(g2.2 b a).imp_right λq=>by omega
 have I:∀b,ai c b->A.size<=b:=λb a=>by have:=v b a;have:=o.size;omega
 have p8:ax F G p dp s:=S.ar λb a a6=>R.same b a6 λq=>hd b a (q.imp_right .inl);have z:∀b,F b->¬dH k s' c b:=by
  rintro b a (q|q|q)
  ·exact hd b a (.inl q)
  ·rcases y b q with u|u
   ·exact hd b a (.inr (.inl u))
   ·have:=S.lt b a;omega
  ·have:=I b q;have:=S.lt b a;omega
 have S8:∀(F':Nat->Prop) (d:Sl) (H':aa),(∀b,ai d b->ai s' b)->Mod (λb=>F b\/b=k) G H'->(∀b,F' b->F b\/G.size<=b)->Step (λb=>F b\/dH k sw sl b) (λb=>F' b\/dH k d c b) A H':=by
  intro F' d H' h1 h2 h3;have bl:=R.size;refine⟨(R.mono λb _ q=>.inr (q.imp_right .inl)).trans' h2 λb _ q=>q.imp_right .inl,λb a=>?_⟩;rcases a with q|q|q|q
  ·rcases h3 b q with u|u
   ·exact .inl (.inl u)
   ·right;omega
  ·exact .inl (.inr (.inl q))
  ·rcases y b (h1 b q) with u|u
   ·exact .inl (.inr (.inr (.inl u)))
   ·exact .inr u
  ·exact .inr (I b q)
 refine⟨λA=>bP A k Kc p w.b [s'.v,.int .i64 ((w.n+1:Nat):Int),c.v,.int .i64 ((w.rows+1:Nat):Int)],C,?_⟩;refine ao.dE (c:=ab .i64) (i:=6) (x:=((w.n+1:Nat):Int)) (cs:=λ_=>_) (λ_ q=>q) (λ_ _=>bP.tail (j:=1) rfl) ?_;refine ao.ld (c:=ab .i64) (i:=2) (x:=w.b.width) C (bP.get 2 _ rfl) ?_;refine fH ⟨C,?_⟩;refine ah (λf=>?_) (λf=>?_)
 ·have O:((w.n+1:Nat):Int)<aL w.b.width:=by simpa using f
  rw[if_pos O] at g;exact g F s' c G p8 W z (S8 F s' G (λ_ q=>q) (.refl _ _) λb q=>.inl q)
 ·have O:¬((w.n+1:Nat):Int)<aL w.b.width:=by simpa using f
  rw[if_neg O] at g;refine CR W p8 z af hn J Z h0 U λF' d H' p9 h9 B m9 m=>g F' d c H' p9 h9 ?_ (S8 F' d H' B m9 m);rintro b a (q|q|q)
  ·rcases m b a with u|u
   ·exact z b u (.inl q)
   ·have:=W.lt b (.inl q);omega
  ·rcases m b a with u|u
   ·exact z b u (.inr (.inl (B b q)))
   ·have:=W.lt b (.inr (.inl (B b q)));omega
  ·rcases m b a with u|u
   ·exact z b u (.inr (.inr q))
   ·have:=W.lt b (.inr (.inr q));omega
end
end
section
open Go.MapKept
theorem Jb {H:aa}{z:Sl}{ws:List Wr}(h:aF Ay AO H z ws){i:Nat}{w:Wr}(hw:ws[i]?=some w){K:(Int×Int×ByteArray)->Prop}(e:K (w.no,(w.page:Int),cP w.b.1)):
  ae z.a λa=>(0<=(i:Int)/\(i:Int)<(z.n:Int))/\cN (bR [(ab .i64),(ab .i64),aN]) 3 H (a.add ((i:Int).toNat*3)) K:=by
 have f:=h.n (by decide);have hi:=(QJ.1 hw).1;obtain⟨ad,d⟩:=bX.addr h.rd (by decide) (by omega);rw[d];refine⟨⟨by omega,by omega⟩,?_⟩;exact bX.cN (E:=Ay) (c:=bR [(ab .i64),(ab .i64),aN]) (y:=(w.no,(w.page:Int),cP w.b.1)) h.rd d hw rfl (by simp[Ay]) rfl e
theorem JV {H:aa}{z:Sl}{ws:List Wr}(h:aF Ay AO H z ws){i:Nat}{w:Wr}(hw:ws[i]?=some w){K:Int->Prop}(e:K w.no):
  ae z.a λa=>(0<=(i:Int)/\(i:Int)<(z.n:Int))/\ld (ab .i64) H ((a.add ((i:Int).toNat*3)).add 0) K:=by
 have f:=h.n (by decide);have hi:=(QJ.1 hw).1;obtain⟨ad,d⟩:=bX.addr h.rd (by decide) (by omega);rw[d];refine⟨⟨by omega,by omega⟩,?_⟩;exact bX.ld (E:=Ay) (c:=ab .i64) (y:=w.no) h.rd d (j:=0) hw rfl (by simp[Ay]) e
theorem JM {fl:Sl}{gs:List (Sl×Sl)}{d:Nat}{cs:Array gp}{s:Dk}{no:Int}{H:aa}{K:Int->aa->Prop}(hd:ao H d yo cs)(A:cs[0]?=some fl.v)(O:aQ H fl gs s.files)(af:s.files.length<=4096)(P:s.aH<68719476736)
  (U:K (s.zk no:Nat) H):Mk.sp (aK d) no H K:=by
 refine Mk.of ?_;unfold Mk.vc;simp only[aw];have V:=O.n;obtain⟨cnt,g⟩:∃cnt:List Int->Nat,cnt=λl=>(l.filter λx=>decide (x<no)).length:=⟨_,rfl⟩;obtain⟨pre,m⟩:∃pre:Nat->List Int,pre=λk=>(s.files.take k).flatMap λf=>f.log.map (·.no):=⟨_,rfl⟩;have r:∀l,cnt l<=l.length:=λl=>by rw[g];exact T2 _ _
 have B:∀k,(pre k).length<=s.aH:=λk=>by
  rw[<-Dk.kQ];unfold Dk.IV;rw[m];simp only
  conv=>rhs;rw[<-List.take_append_drop k s.files,Vn,Ri]
  omega
 refine av s.files.length (λk x H1=>x=(((cnt (pre k):Nat):Int),(k:Int))/\H1=H) ⟨by rw[g,m];rfl,rfl⟩ ?_;rintro k _ H1 next hk ⟨rfl,rfl⟩ C
 refine hd.ld (c:=aq) (i:=0) (x:=fl) A ?_;refine ah (λI=>?_) (λI=>?_)
 ·have D:k<s.files.length:=by rw[V] at I;simpa using I
  have u:s.files[k]?=some s.files[k]:=QK D;obtain⟨f,J⟩:∃f,f=s.files[k]:=⟨_,rfl⟩;rw[<-J] at u;obtain⟨W,X,_,Y⟩:=O.Dl u;have L:=Y.n (by decide);have al:=Dk.kM u;have M:pre (k+1)=pre k++f.log.map (·.no):=by
   rw[m];simp only;rw[QO D,<-J,Vn];simp
  have o:∀a b,cnt (a++b)=cnt a+cnt b:=λa b=>by rw[g];simp
  have Q:=B (k+1);have an:=r (pre k);refine av f.log.length (λj x Z=>x=(((cnt (pre k)+cnt ((f.log.take j).map (·.no)):Nat):Int),(j:Int))/\Z=H1) ⟨by rw[g];simp,rfl⟩ ?_;rintro j _ Z R hj ⟨rfl,rfl⟩ q;refine hd.ld (c:=aq) (i:=0) (x:=fl) A ?_;refine O.ld1 u X (j:=2) (c:=aq) (y:=W.2) rfl ?_;refine ah (λv=>?_) (λv=>?_)
  ·have z:j<f.log.length:=by rw[L] at v;simpa using v
   refine hd.ld (c:=aq) (i:=0) (x:=fl) A ?_;refine O.ld1 u X (j:=2) (c:=aq) (y:=W.2) rfl ?_;refine JV Y (QK z) ?_;have N:cnt ((f.log.take (j+1)).map (·.no))=cnt ((f.log.take j).map (·.no))+(if f.log[j].no<no then 1 else 0):=by
    rw[QO z,Rm,o];congr 1;rw[g];simp only[Q7,TD,S0,List.filter_nil];split<;>rename_i h<;>simp at h<;>simp[h]
   have S:=r ((f.log.take j).map (·.no));simp only[Rg,Ro] at S;rw[M,Ri,Rg] at Q;refine ah (λT=>?_) (λT=>?_)
   ·have E:f.log[j].no<no:=by simpa using T
    refine q z _ _ ⟨?_,rfl⟩;rw[N,if_pos E,aD j (by omega),wrap64 (by omega) (by omega)];simp only[Prod.mk.injEq,and_true];omega
   ·have E:¬f.log[j].no<no:=by simpa using T
    refine q z _ _ ⟨?_,rfl⟩;rw[N,if_neg E,aD j (by omega)];simp
  ·have G:j=f.log.length:=by rw[L] at v;simp at v;omega
   rw[G,QS (QN _)];refine C D _ _ ⟨?_,rfl⟩;rw[M,o,aD k (by omega)]
 ·have G:k=s.files.length:=by rw[V] at I;simp at I;omega
  have e:s.zk no=cnt (pre k):=by
   unfold Dk.zk Dk.IV;rw[g,m,G];simp
  rw[e] at U;exact U
set_option maxHeartbeats 1000000 in
theorem yK {F:Nat->Prop}{d:Nat}{s:Dk}{H:aa}{K:Unit->aa->Prop}(h:cA F H d s)(S:s.aH<68719476736)
  (hK:∀F' H',cA F' H' d s.c8->Step F F' H H'->K () H'):L7.sp (aK d) H K:=by
 have h0:=h;obtain⟨fl,gs,cin,kp,g,hF⟩:=h;refine L7.of ?_;unfold L7.vc;simp only[aw];refine g.head.ld (c:=aC) (i:=8) (x:=s.down) rfl ?_;refine ah (λhd=>?_) (λhd=>?_)
 ·have P:s.down=false:=by simpa using hd
  have e:s.c8=s:=by unfold Dk.c8;rw[P];rfl
  rw[e] at hK;exact hK F H h0 (.refl _ _)
 have P:s.down=true:=by simpa using hd
 obtain⟨ci,kk,Z⟩:∃ci kk,s.crash=some (ci,kk):=by
  have:=g.wf.down P;cases G:s.crash with
  |none=>rw[G] at this;cases this
  |some p=>exact⟨p.1,p.2,rfl⟩
 obtain⟨rfl,rfl⟩:=g.crash ci kk Z;have T:s.ar=kp:=by unfold Dk.ar;rw[Z]
 have hn:=g.files.n;have af:=g.wf.files;have w1:=g.wf.used;have w2:=g.wf.most;have w3:=g.wf.quota;refine av s.files.length (λk x H1=>x.2=(k:Int)/\Mod (λ_=>False) H H1/\(∀b,ai x.1 b->H.size<=b)/\∃l,aQ H1 x.1 l ((s.files.take k).map s.after)/\(∀u∈l,(∀b,ai u.1 b->CI fl gs b\/H.size<=b)/\u.2=Sl.mk none 0 0))
  ⟨rfl,.refl _ _,(by rintro b ⟨ad,q,_⟩;cases q),[],⟨aF.nil _ _ _,rfl,by intro i f g h;simp at h,by intro i j g g' h;simp at h⟩,by simp⟩ ?_
 rintro k ⟨z,i⟩ H1 next hk ⟨hi,m1,f1,l,R1,I⟩ J
 simp only at hi;subst hi;simp only at f1 R1 J ⊢;have d1:=g.head.ext m1;have F1:aQ H1 fl gs s.files:=g.files.ar λb a hl=>m1.same b hl id;refine d1.ld (c:=aq) (i:=0) (x:=fl) rfl ?_;refine ah (λG=>?_) (λG=>?_)
 ·have U:k<s.files.length:=by rw[hn] at G;simpa using G
  have m:s.files[k]?=some s.files[k]:=QK U;obtain⟨f,al⟩:∃f,f=s.files[k]:=⟨_,rfl⟩;rw[<-al] at m;obtain⟨u,hg,q1,q2⟩:=F1.Dl m;have L:=nF _ _ k f u m hg;have an:=q2.n (by decide);have bO:=Dk.fm m;have b0:=Dk.kM m;have bd:=QL hg;obtain⟨ad,ha⟩:=bX.addr F1.arr.rd (by decide) (by have:=(QJ.1 L).1;omega);refine⟨λA=>ao A d yo (dq fl s.most s.quota s.ops s.next s.crash.isSome cin kp s.down)/\aF qS vD A fl (rQ s.files gs),⟨d1,F1.arr⟩,?_⟩;refine⟨fl,λA Q=>by rw[bg];exact Q.1.cell rfl,?_⟩;refine aZ ad ha ⟨⟨by omega,by omega⟩,?_⟩;refine⟨f.name,λA Q=>?_,?_⟩
  ·obtain⟨bh,e1,G⟩:=bX.cell Q.2.rd L (j:=0) (v:=.string f.name) rfl;rw[ha] at e1;cases e1;rw[add_add];exact G
  refine⟨fl,λA Q=>by rw[bg];exact Q.1.cell rfl,?_⟩;refine aZ ad ha ⟨⟨by omega,by omega⟩,?_⟩;refine⟨u.1,λA Q=>?_,?_⟩
  ·obtain⟨bh,e1,G⟩:=bX.cell Q.2.rd L (j:=1) (v:=u.1.v) rfl;rw[ha] at e1;cases e1;rw[add_add];exact G
  refine au λH2 s2 r2 m2=>⟨⟨d1.ext m2,F1.arr.ext m2⟩,?_⟩;refine r2.iE (cs:=#[.string f.name,u.1.v,.slice none 0 0]) (by kernel_rfl) (by kernel_rfl) (by intro v hv;simp at hv;rcases hv with rfl|rfl|rfl<;>rfl) λH3 r3 m3 s3=>?_;obtain⟨p,hp⟩:∃p,p=H1.size:=⟨_,rfl⟩;rw[<-hp] at r3 m3;rw[<-hp];have z1:=m1.size;have z2:=m2.size;have m13:Mod (λ_=>False) H1 H3:=⟨by omega,λb a _=>(m3.same b (by omega) (by omega)).trans (m2.same b a id)⟩;obtain⟨q,hq⟩:∃q:Wr->Bool,q=λw=>jB s.ar (s.zk w.no):=⟨_,rfl⟩;have M:s.after f=⟨f.name,(f.log.filter q).foldl dZ f.synced,[]⟩:=by rw[hq];rfl
  have bl:aF jL dG H3 u.1 f.synced:=q1.ext m13
  -- the writes, one by one
  refine av f.log.length (λj x B=>x=(j:Int)/\Mod (λb=>b=p) H3 B/\∃C,ao B p vD #[.string f.name,C.v,.slice none 0 0]/\aF jL dG B C (((f.log.take j).filter q).foldl dZ f.synced)/\(∀b,ai C b->CI fl gs b\/H.size<=b)/\(∀b,ai C b->b≠p))
   ⟨rfl,.refl _ _,u.1,r3,by simpa using bl,λb a=>.inl (.inr ⟨u,bd,.inl a⟩),λb a=>by have:=q1.lt b a;omega⟩ ?_
  rintro j _ B bn hj ⟨rfl,m4,C,r4,o4,fy,ny⟩ r;have m14:Mod (λ_=>False) H1 B:=⟨by have:=m4.size;omega,λb a _=>(m4.same b (by omega) (by omega)).trans (m13.same b a id)⟩;have d4:=d1.ext m14;have F4:aQ B fl gs s.files:=F1.ar λb a hl=>m14.same b hl id;obtain⟨_,bs⟩:=F4.ent k f u m hg;have z4:=m14.size;refine d4.ld (c:=aq) (i:=0) (x:=fl) rfl ?_;refine F4.ld1 m hg (j:=2) (c:=aq) (y:=u.2) rfl ?_;refine ah (λN=>?_) (λN=>?_)
  ·have R:j<f.log.length:=by rw[an] at N;simpa using N
   obtain⟨w,a1⟩:∃w,w=f.log[j]:=⟨_,rfl⟩;have hw:f.log[j]?=some w:=by rw[a1];exact QK R
   refine d4.ld (c:=aq) (i:=0) (x:=fl) rfl ?_;refine F4.ld1 m hg (j:=2) (c:=aq) (y:=u.2) rfl ?_;refine Jb bs hw ?_;refine au λH5 s5 r5 m5=>?_;refine r5.iE (cs:=#[.int .i64 w.no,.int .i64 w.page,.string (cP w.b.1)]) (by kernel_rfl) (by kernel_rfl) (by intro v hv;simp at hv;rcases hv with rfl|rfl|rfl<;>rfl) λH6 r6 m6 s6=>?_;have D:Mod (λ_=>False) B H6:=⟨by omega,λb a _=>(m6.same b (by omega) (by omega)).trans (m5.same b a id)⟩;have d6:=d4.ext D;have F6:aQ H6 fl gs s.files:=F4.ar λb a hl=>D.same b hl id;refine⟨λA=>ao A d yo (dq fl s.most s.quota s.ops s.next s.crash.isSome cin kp s.down),d6,?_⟩;refine⟨kp,λA Q=>by rw[bg];exact Q.cell rfl,?_⟩;refine r6.ld (c:=ab .i64) (i:=0) (x:=w.no) rfl ?_;refine JM d6 rfl F6 af S ⟨d6,?_⟩;refine⟨Int.tmod_nonneg _ (by omega),?_⟩;have a6:q w=((mS .u64 (dQ .u64 kp (RP ((s.zk w.no:Nat):Int) 64)) 1)==1):=by rw[hq,T];rfl
   have a7:(f.log.take (j+1)).filter q=(f.log.take j).filter q++(if q w then [w] else []):=by
    rw[QO R,Sh,<-a1];cases bx:q w<;>simp[bx]
   have V:=r4.ext D;have a8:aF jL dG H6 C (((f.log.take j).filter q).foldl dZ f.synced):=o4.ext D;refine ah (λa=>?_) (λa=>?_)
   ·have W:q w=true:=by rw[a6];exact a
    refine V.ld (c:=aq) (i:=1) (x:=C) rfl ?_;refine r6.cN (c:=bR [(ab .i64),(ab .i64),aN]) (x:=(w.no,(w.page:Int),cP w.b.1)) rfl rfl ?_;have b1:=nU f.log f.synced w (QL hw);have hle:=nR f.log q j f.synced;have b2:(f.log.foldl dZ f.synced).length=f.az.length:=rfl;refine C6 (w:=w) a8 (by omega) (by omega) λs7 H7 o7 m7 f7=>?_;have bA:=V.ext m7;refine bA.st (i:=1) (by simp) (by rfl) λH8 r8 m8 s8=>?_;have z7:=m7.size;have bN:=aI r4;refine r R _ _ ⟨aD j (by omega),((m4.trans (Ext.mod D)).trans (Ext.mod m7)).trans m8,s7,(show ao H8 p vD #[.string f.name,s7.v,.slice none 0 0] from r8),?_,λb a=>by have:=f7 b a;right;omega,λb a=>by have:=f7 b a;omega⟩;rw[a7,if_pos W,List.foldl_append];exact o7.ar λb a hl=>m8.same b hl (by have:=f7 b a;omega)
   ·have W:q w=false:=by rw[a6];exact a
    refine r R _ _ ⟨aD j (by omega),m4.trans (Ext.mod D),C,V,?_,fy,ny⟩;rw[a7,W];simpa using a8
  ·have X:j=f.log.length:=by rw[an] at N;simp at N;omega
   rw[X,QS (QN _)] at o4;refine r4.cN (c:=bR [aN,aq,aq]) (x:=(f.name,C,Sl.mk none 0 0)) rfl rfl ?_;have R4:aQ B z l ((s.files.take k).map s.after):=R1.ar λb a hl=>m14.same b hl id;have b3:(rQ ((s.files.take k).map s.after) l).length=k:=by
    rw[fI _ _ R4.len];simp;omega
   refine aF.push (E:=qS) KN (x:=(f.name,C,Sl.mk none 0 0)) R4.arr rfl (by omega) (by omega) λz5 H5 o5 g5 _=>?_;have b4:=g5.1.size;have bB:∀b,ai C b->¬ai z b:=o4.apart R4.arr (by decide);have m15:Mod (λ_=>False) H H5:=⟨by omega,λb a _=>(g5.1.same b (by omega) λhh=>by have:=f1 b hh;omega).trans ((m14.same b (by omega) id).trans (m1.same b a id))⟩;have R5:=R4.push (H':=H5) (fl':=z5) (f:=s.after f) (g:=(C,Sl.mk none 0 0)) (by rw[M];exact o5) (by rw[M];exact o4.ar λb a hl=>g5.1.same b hl (bB b a)) (by rw[M];exact aF.nil _ _ _)
    (λb a hl=>g5.1.same b hl λhh=>by
     obtain⟨Y,o,a⟩:=a;obtain⟨i2,bC⟩:=List.mem_iff_getElem?.1 o;exact R4.gX bC b a hh) (by rintro b ⟨ad,q,_⟩;cases q)
   refine J U _ _ ⟨aD k (by omega),m15,λb a=>?_,l++[(C,Sl.mk none 0 0)],?_,?_⟩
   ·rcases g5.2 b a with h|h
    ·exact f1 b h
    ·omega
   ·rw[QO U,<-al,Rm];exact R5
   ·intro g' bD;rcases QQ.1 bD with h|h
    ·exact I g' h
    ·simp at h;subst h;exact⟨fy,rfl⟩
 ·have X:k=s.files.length:=by rw[hn] at G;simp at G;omega
  rw[X,QS (QN _)] at R1;have b5:=aI g.head;refine d1.st (i:=0) (by simp[dq]) (by rfl) λH2 r2 m2 s2=>?_;refine r2.st (i:=8) (by simp[dq]) (by rfl) λH3 r3 m3 s3=>?_;refine r3.st (i:=5) (by simp[dq]) (by rfl) λB r4 m4 s4=>?_;have m14:Mod (λb=>b=d) H1 B:=(m2.trans m3).trans m4;have off:¬CI z l d:=by
   rintro(q|⟨Y,o,q|q⟩)
   ·have:=f1 d q;omega
   ·rcases (I Y o).1 d q with h|h
    ·exact iL.off g.head g.files h
    ·omega
   ·rw[(I Y o).2] at q;obtain⟨ad,q,_⟩:=q;cases q
  have O:s.c8={s with files:=s.files.map s.after,down:=false,crash:=none}:=by unfold Dk.c8;rw[P];rfl
  have bb:s.c8.used<=s.used:=by
   rw[O];show ((s.files.map s.after).map λf=>f.az.length).sum<=s.used;rw[R8];exact oK _ _ _ λf _=>s.Aw f
  have gG:iL z l cin kp B d s.c8:=by
   refine⟨?_,?_,?_,?_⟩
   ·rw[O];exact r4
   ·rw[O];intro i k q;cases q
   ·rw[O];exact R1.ar λb a hl=>m14.same b hl λe=>off (e▸a)
   ·refine⟨?_,QZ bb (by rw[O];exact w1),by rw[O];exact w2,by rw[O];exact w3,by rw[O];simp;exact af,(by rw[O];intro h;cases h),(by rw[O];intro i k q;cases q)⟩;rw[O];simp only[R8];exact g.wf.nodup
  have bM:Mod F H B:=(Ext.mod m1).trans (m14.mono λb _ e=>(hF b).2 (.inl e));obtain⟨F',t1,t2⟩:=gG.out (fl:=fl) (gs:=gs) (F:=F) (H:=H) hF bM (by
   rintro b (q|⟨Y,o,q|q⟩)
   ·exact .inr (f1 b q)
   ·exact(I Y o).1 b q
   ·rw[(I Y o).2] at q;obtain⟨ad,q,_⟩:=q;cases q)
  exact hK F' B t1 t2
end
section
open Go.MapKept
end
section
open Go.MapKept
theorem yc {a b:Sl}{L:List (List UInt8)}{H:aa}{K:Bool->aa->Prop}(e:aF EN dG H a L)(f:aF EN dG H b L)(hl:L.length<4611686018427387904)(h:K true H):LU.sp a b H K:=by
 refine LU.of ?_;unfold LU.vc;have j:=e.n (by decide);have l:=f.n (by decide);refine aE (by simp;omega) ?_;refine av L.length (λk i H1=>i=(k:Int)/\H1=H) ⟨rfl,rfl⟩ ?_;rintro k _ H1 next hk ⟨rfl,rfl⟩ c
 refine ah (λg=>?_) (λ_=>h);have d:k<L.length:=by rw[j] at g;simpa using g
 refine tf e d ?_;refine tf f d ?_;refine aE (by simp) (c d _ _ ⟨aD k (by omega),rfl⟩)
def Px (G:Nat->Prop)(H:aa)(d m:Nat)(s:Dk):Prop:=∃a c,bw a H d s/\cA c H m s/\(∀b,a b->¬c b)/\∀b,G b↔a b\/c b
end
section
open Go.MapKept
section
variable {Q:Nat->Prop}{A B:aa}{p dp m dm:Nat}{s1 s2:Pl}
end
theorem ax.cD {F:Nat->Prop}{H:aa}{p dp:Nat}{s:Pl}(h:ax F H p dp s):∃D,cA D H dp s.d/\(∀b,D b->F b)/\∀a H' d,cA a H' dp d->Step D a H H'->∃F',ax F' H' p dp (s.bJ d)/\Step F F' H H':=by
 obtain⟨ll,zs,D,g,e⟩:=h;refine⟨D,g.cD,λb f=>(e b).2 (.inl f),λa H' d c i=>?_⟩;obtain⟨j,l⟩:=g.ks c i;exact j.out e l
theorem ax.head {F:Nat->Prop}{H:aa}{p dp:Nat}{s:Pl}(h:ax F H p dp s):∃ll:Sl,ao H p tw (dR dp ll s)/\ll.n=s.fs.length/\F p:=by
 obtain⟨ll,zs,D,g,a⟩:=h;exact⟨ll,g.aj.head,g.aj.n,(a p).2 (.inr (.inl rfl))⟩
end
section
open Go.MapKept
structure ng (H0:aa)(F0:Nat->Prop)(k p dp:Nat)(sw sl:Sl)(F:Nat->Prop)(A:aa)(s:Pl)(w:RW):Prop where
 aj:ax F A p dp s
 wr:sZ A k p w sw sl
 dis:∀b,F b->¬dH k sw sl b
 mod:Mod (λb=>F0 b\/b=k) H0 A
 own:∀b,F b->F0 b\/H0.size<=b
theorem JN {H:aa}{W:Int}{n:Nat}{K:Sl->aa->Prop}(M:0<=W)(N:n<1099511627776)(v:∀out H',aF EB fU H' out (ft W n)->Ext H H'->(∀b,ai out b->H.size<=b)->K out H'):K7.sp W (n:Int) H K:=by
 refine K7.of ?_;unfold K7.vc;have g:RE.wrap W=((UInt8.ofNat W.toNat).toNat:Int):=by
  have:W=(W.toNat:Int):=by omega
  rw[this,pR];simp
 have c:Rj.wrap (n:Int)=(n:Int):=Lo (by omega);rw[g,c];refine au λH1 O y h=>?_;refine au λP z2 r2 f=>?_;refine wT (yJ r2) (by simp) λr C o d=>?_;have D:=Gx ((y.ext f).ext d);have E:bX EB C r.a (cZ (fh [(n:Int)])):=by
  unfold bX;rw[jc,kP (lg _)];exact o.reads
 have i:r.n=(cZ (fh [(n:Int)])).length:=by have:=o.1;rw[cv];simpa using this.symm
 have e:(cZ (fh [(n:Int)])).length=8:=by rw[cv];simp[fh,fk]
 refine aF.append jM (s:=Sl.mk (some ⟨H.size,0,none⟩) 1 1) (x:=r) D E i (by rw[e];simp) (by rw[e];simp) λz G I j _=>?_;have z3:=d.size;have a:∀b,ai (Sl.mk (some ⟨H.size,0,none⟩) 1 1) b->H.size<=b:=by
  rintro b ⟨ad,J,L⟩;cases J;subst L;exact QN _
 refine v z G I ⟨by have:=((h.trans f).trans d).size;have:=j.1.size;omega,λb l _=>(j.1.same b (by have:=((h.trans f).trans d).size;omega) λu=>by have:=a b u;omega).trans (((h.trans f).trans d).same b l id)⟩ λb l=>?_;rcases j.2 b l with q|q
 ·exact a b q
 ·omega
section
variable {H0:aa}{F0:Nat->Prop}{k p dp:Nat}{sw sl:Sl}{F:Nat->Prop}{A:aa}{s:Pl}{w:RW}
theorem ng.step {F':Nat->Prop}{c:aa}{s':Pl}(h:ng H0 F0 k p dp sw sl F A s w)(d:ax F' c p dp s')(S:Step F F' A c):ng H0 F0 k p dp sw sl F' c s' w:=by
 refine⟨d,h.wr.mod S.mod λb a q=>h.dis b q a,λb a q=>?_,h.mod.trans' S.mod λb a q=>?_,λb a=>?_⟩
 ·rcases S.own b a with r|r
  ·exact h.dis b r q
  ·have:=h.wr.lt b q;omega
 ·rcases h.own b q with r|r
  ·exact .inl r
  ·omega
 ·rcases S.own b a with r|r
  ·exact h.own b r
  ·right;have:=h.mod.size;omega
theorem ng.ext {a:aa}(h:ng H0 F0 k p dp sw sl F A s w)(e:Ext A a):ng H0 F0 k p dp sw sl F a s w:=h.step (h.aj.ext e) ⟨e.mod,λ_ q=>.inl q⟩
theorem ng.dz {c:aa}{w':RW}{a:Sl}(h:ng H0 F0 k p dp sw sl F A s w)(m:Mod (λb=>b=k) A c)(hw:sZ c k p w' a sl)(hs:∀b,ai a b->ai sw b):ng H0 F0 k p dp a sl F c s w':=by
 refine⟨h.aj.ar λb d hl=>m.same b hl λq=>h.dis b d (.inl q),hw,λb d q=>h.dis b d (q.imp_right λr=>r.imp_left (hs b)),h.mod.trans' m λb _ q=>.inr q,h.own⟩
set_option maxHeartbeats 1000000 in
theorem wP {H:aa}{K:(Int×Int)->aa->Prop}(h:sZ H k p w sw sl)(hp:ax F H p dp s)(hd:∀b,F b->¬dH k sw sl b)
  (W:w.rows<1099511627776) (X:0<=w.b.width) (hn:w.b.name.size<=9223372036854775807) (a8:s.d.aH<68716900000) (bs:s.next<1099511620000) (h0:0<=s.next) (Y:s.Fit)
  (bx:(w.out s).1.d.aH<68716950000) (bA:(w.out s).1.next<1099511620000)
  (Z:∀h hd,(Pl.leave (((w.out s).1.bF w.b.name 0).1.set h 2 hd) h).1.d.aH<68717000000) (bb:(w.out s).1.Fit) (E:∀h hd,(Pl.leave (((w.out s).1.bF w.b.name 0).1.set h 2 hd) h).1.Fit)
  (C:∀F' o H',ax F' H' p dp (w.close s).1->sZ H' k p (w.close s).2.1 o sl->(∀b,F' b->¬dH k o sl b)->Step (λb=>F b\/dH k sw sl b) (λb=>F' b\/dH k o sl b) H H'->K (((w.close s).2.2.1:Int),(w.close s).2.2.2) H'):I0.sp (aK k) H K:=by
 refine I0.of ?_;unfold I0.vc;simp only[aw,aK];unfold RW.close at C;refine qZ h.row ?_;have B0:ng H F k p dp sw sl F H s w:=⟨hp,h,hd,.refl _ _,λb q=>.inl q⟩
 -- the end of all
 have fin:∀(F':Nat->Prop) (o:Sl) (A:aa) (s':Pl) (w':RW),(∀b,ai o b->ai sw b)->ng H F k p dp o sl F' A s' w'->Step (λb=>F b\/dH k sw sl b) (λb=>F' b\/dH k o sl b) H A:=by
  intro F' o A s' w' hs B;refine⟨B.mod.mono λb _ q=>q.imp_right .inl,λb v=>?_⟩;rcases v with q|q|q|q
  ·rcases B.own b q with r|r
   ·exact .inl (.inl r)
   ·exact .inr r
  ·exact .inl (.inr (.inl q))
  ·exact .inl (.inr (.inr (.inl (hs b q))))
  ·exact .inl (.inr (.inr (.inr q)))
 by_cases T:w.b.ready≠0
 ·rw[if_pos T] at C;refine⟨λe A=>e=w.b.ready/\A=H,aE (by simpa using T) ⟨rfl,rfl⟩,?_⟩;rintro _ A ⟨rfl,rfl⟩;exact aR (by simpa using T) (C F sw A hp h hd (.refl _ _))
 rw[if_neg T] at C;obtain⟨P,bl⟩:=Rb.iZ T;refine⟨λe A=>e=(w.out s).2.2/\∃U f,(∀b,ai f b->ai sw b)/\ng H F k p dp f sl U A (w.out s).1 (w.out s).2.1,?_,?_⟩
 ·refine aR (by simpa using T) ?_;refine CR h hp hd P hn (by omega) (by omega) h0 Y λU f H1 p1 h1 g m1 u=>?_;refine⟨rfl,U,f,g,p1,h1,?_,m1,u⟩;rintro b v (q|q|q)
  ·rcases u b v with r|r
   ·exact hd b r (.inl q)
   ·have:=h.lt b (.inl q);omega
  ·rcases u b v with r|r
   ·exact hd b r (.inr (.inl (g b q)))
   ·have:=h.lt b (.inr (.inl (g b q)));omega
  ·rcases u b v with r|r
   ·exact hd b r (.inr (.inr q))
   ·have:=h.lt b (.inr (.inr q));omega
 rintro _ H1 ⟨rfl,U,f,g,B1⟩;have p1:=B1.aj;have h1:=B1.wr;have af:0<=(w.out s).1.next:=by have:=p1.wf.tick;omega
 refine ah (λl=>?_) (λl=>?_)
 ·have V:(w.out s).2.2≠0:=by simpa using l
  rw[if_pos V] at C;exact C U f H1 p1 h1 B1.dis (fin U f H1 _ _ g B1)
 have V:¬(w.out s).2.2≠0:=by simpa using l
 rw[if_neg V] at C;have bd:(w.out s).2.1.b=w.b/\(w.out s).2.1.rows=w.rows:=by
  unfold RW.out at V ⊢;split
  ·exact⟨rfl,rfl⟩
  ·rename_i hq;rw[if_neg hq] at V;refine⟨?_,rfl⟩;show w.b.cE _=_;unfold Rb.cE;rw[if_neg V]
 obtain⟨al,an⟩:=bd;rw[<-al] at hn Z X P E;rw[<-an] at W;generalize bB:(w.out s).1=s1 at*;generalize bC:(w.out s).2.1=a at*;refine ao.ld (c:=aB) (i:=0) (x:=aK p) h1.row (bP.get 0 _ rfl) ?_;refine ao.ld (c:=aN) (i:=1) (x:=a.b.name) h1.row (bP.get 1 _ rfl) ?_;refine yM p1 hn (by omega) (by omega) λF2 H2 p2 S2=>?_;have B2:=B1.step p2 S2;have J:(s1.bF a.b.name 0).1.next<=s1.next+1:=s1.mF af (by omega)
 have R:a.head s1=if (s1.bF a.b.name 0).2.2≠0 then ((s1.bF a.b.name 0).1,(s1.bF a.b.name 0).2.2) else
   if (Pl.leave ((s1.bF a.b.name 0).1.set (s1.bF a.b.name 0).2.1 2 (ft a.b.width a.rows)) (s1.bF a.b.name 0).2.1).2≠0 then Pl.leave ((s1.bF a.b.name 0).1.set (s1.bF a.b.name 0).2.1 2 (ft a.b.width a.rows)) (s1.bF a.b.name 0).2.1
   else (Pl.leave ((s1.bF a.b.name 0).1.set (s1.bF a.b.name 0).2.1 2 (ft a.b.width a.rows)) (s1.bF a.b.name 0).2.1).1.flush a.b.name:=rfl
 have bh:=(s1.bF a.b.name 0).1.j5 (s1.bF a.b.name 0).2.1 2 (ft a.b.width a.rows);have a1:=Z (s1.bF a.b.name 0).2.1 (ft a.b.width a.rows);have a6:=E (s1.bF a.b.name 0).2.1 (ft a.b.width a.rows);generalize (s1.bF a.b.name 0).1=s2 at*;generalize (s1.bF a.b.name 0).2.1=hh at*;generalize (s1.bF a.b.name 0).2.2=G at*
 -- what stands behind each cut
 obtain⟨I,y⟩:∃I:Pl×Int,I=if G≠0 then (s2,G) else s2.set hh 2 (ft a.b.width a.rows):=⟨_,rfl⟩
 obtain⟨X1,S⟩:∃X1:Pl×Int,X1=if G≠0 then (s2,G) else Pl.leave (s2.set hh 2 (ft a.b.width a.rows)) hh:=⟨_,rfl⟩
 have L:X1=Pl.leave I hh:=by
  rw[S,y];by_cases q:G≠0
  ·rw[if_pos q,if_pos q];exact(if_neg q).symm
  ·rw[if_neg q,if_neg q]
 have a7:a.head s1=if X1.2≠0 then X1 else X1.1.flush a.b.name:=by
  rw[R,S];by_cases q:G≠0
  ·rw[if_pos q,if_pos q,if_pos q]
  ·rw[if_neg q,if_neg q]
 have bn:I.1.next<=s1.next+1:=by
  rw[y];by_cases q:G≠0
  ·rw[if_pos q];exact J
  ·rw[if_neg q,bh];exact J
 have M:X1.2=0->X1.1.d.aH<68717000000/\X1.1.Fit:=by
  rw[S];by_cases q:G≠0
  ·rw[if_pos q];intro r;exact absurd r q
  ·rw[if_neg q];intro _;exact⟨a1,a6⟩
 refine⟨λe A=>e=I.2/\∃F',ng H F k p dp f sl F' A I.1 a,?_,?_⟩
 ·refine ah (λl=>?_) (λl=>?_)
  ·have q:¬G≠0:=by simpa using l
   rw[if_neg q] at y;refine⟨λA=>bP A k Kc p a.b [f.v,.int .i64 (a.n:Int),sl.v,.int .i64 (a.rows:Int)],B2.wr.row,?_⟩;refine ao.dE (c:=aB) (i:=0) (x:=aK p) (cs:=λ_=>_) (λ_ q=>q) (λ_ _=>bP.get 0 _ rfl) ?_;refine ao.ld (c:=ab .i64) (i:=2) (x:=a.b.width) B2.wr.row (bP.get 2 _ rfl) ?_;refine ao.dE (c:=ab .i64) (i:=8) (x:=(a.rows:Int)) (cs:=λ_=>_) (λ_ q=>q) (λ_ _=>bP.tail (j:=3) rfl) ?_;refine JN X W λz A3 oz x3 fz=>?_;have N:=B2.ext x3;refine⟨N.wr.row,?_⟩;refine yW (kd:=2) N.aj (by omega) (cg oz) (λad ha r=>by have:=p2.lt _ r;have:=fz _ ⟨ad,ha,rfl⟩;omega) λF4 H4 p4 S4=>?_;rw[y];exact⟨rfl,F4,N.step p4 S4⟩
  ·have q:G≠0:=by simpa using l
   rw[if_pos q] at y;rw[y];exact⟨rfl,F2,B2⟩
 rintro _ A3 ⟨rfl,F3,N⟩;refine⟨λe A=>e=X1.2/\∃F',ng H F k p dp f sl F' A X1.1 a,?_,?_⟩
 ·refine ah (λl=>?_) (λl=>?_)
  ·have q:I.2=0:=by simpa using l
   refine ao.ld (c:=aB) (i:=0) (x:=aK p) N.wr.row (bP.get 0 _ rfl) ?_;refine kO N.aj (by omega) λF4 H4 p4 S4=>?_;have e:X1=I.1.bk hh:=by rw[L];exact if_pos q
   rw[e];exact⟨rfl,F4,N.step p4 S4⟩
  ·have q:¬I.2=0:=by simpa using l
   have e:X1=I:=by rw[L];exact if_neg q
   rw[e];exact⟨rfl,F3,N⟩
 rintro _ A4 ⟨rfl,F4,B4⟩;refine⟨λe A=>e=(a.head s1).2/\∃F',ng H F k p dp f sl F' A (a.head s1).1 a,?_,?_⟩
 ·refine ah (λl=>?_) (λl=>?_)
  ·have q:X1.2=0:=by simpa using l
   refine ao.ld (c:=aB) (i:=0) (x:=aK p) B4.wr.row (bP.get 0 _ rfl) ?_;refine ao.ld (c:=aN) (i:=1) (x:=a.b.name) B4.wr.row (bP.get 1 _ rfl) ?_;refine Bf B4.aj (M q).1 (M q).2 λO H5 p5 S5=>?_;have e:a.head s1=X1.1.flush a.b.name:=by rw[a7];exact if_neg (by simpa using q)
   rw[e];exact⟨rfl,O,B4.step p5 S5⟩
  ·have q:¬X1.2=0:=by simpa using l
   have e:a.head s1=X1:=by rw[a7];exact if_pos q
   rw[e];exact⟨rfl,F4,B4⟩
 rintro _ A5 ⟨rfl,O,D⟩;unfold RW.ends at C;refine ah (λl=>?_) (λl=>?_)
 ·have q:(a.head s1).2≠0:=by simpa using l
  rw[if_pos q] at C;refine rr D.wr.row P λA6 r6 m6 z6=>?_;have B6:ng H F k p dp f sl O A6 (a.head s1).1 {a with b:=a.b.cE (a.head s1).2}:=D.dz m6 ⟨r6,D.wr.wait.mod m6 λb v q=>D.wr.j9 (q▸v),D.wr.last.mod m6 λb v q=>D.wr.AT (q▸v)⟩ λ_ q=>q;exact C O f A6 B6.aj B6.wr B6.dis (fin O f A6 _ _ g B6)
 ·have q:¬(a.head s1).2≠0:=by simpa using l
  rw[if_neg q] at C;refine ao.st D.wr.row (i:=4) (by simp[dC]) rfl λA7 r7 m7 z7=>?_;rw[zl] at r7;have B7:ng H F k p dp f sl O A7 (a.head s1).1 a.stop:=D.dz m7 ⟨r7,D.wr.wait.mod m7 λb v q=>D.wr.j9 (q▸v),D.wr.last.mod m7 λb v q=>D.wr.AT (q▸v)⟩ λ_ q=>q;refine ao.ld (c:=ab .i64) (i:=8) (x:=(a.rows:Int)) B7.wr.row (bP.tail (j:=3) rfl) ?_;exact C O f A7 B7.aj B7.wr B7.dis (fin O f A7 _ _ g B7)
end
section
variable {F:Nat->Prop}{H:aa}{p dp:Nat}{s:Pl}{n:ByteArray}{W:Int}{K:(Option hY×Int)->aa->Prop}
theorem yR (y:ax F H p dp s)(U:n.size<=9223372036854775807)(z:s.d.aH<68719460000)(V:s.next<1099511610000)(h0:0<=s.next)(g:s.Fit)
  (a:∀F' H',ax F' H' p dp (bo s n W).1->Step F F' H H'->(bo s n W).2.1=none->K (none,(bo s n W).2.2) H')
  (h:∀F' H' k w,ax F' H' p dp (bo s n W).1->Step F F' H H'->(bo s n W).2.1=some w->sZ H' k p w aY aY->H.size<=k->¬F' k->K (aK k,(bo s n W).2.2) H'):J0.sp (aK p) n W H K:=by
 refine J0.of ?_;unfold J0.vc;simp only[aw,aK];refine aE rfl ?_;refine fH ?_;by_cases r:aL W=0
 ·have em:bo s n W=(s,none,60):=if_pos r;rw[em] at a;exact aR (by simpa using r) (a F H y (.refl _ _) rfl)
 refine aE (by simpa using r) ?_;obtain⟨ll,C,_,X⟩:=y.head;refine ao.ld (c:=aB) (i:=0) (x:=aK dp) C rfl ?_;obtain⟨D,d1,_,d3⟩:=y.cD;refine BT d1 λY j d4 Z=>?_;obtain⟨E,p4,G⟩:=d3 Y j _ d4 Z;have em:bo s n W=if (s.d.create n).2≠0 then (s.bJ (s.d.create n).1,none,(s.d.create n).2)
   else if ((s.bJ (s.d.create n).1).more n 0 []).2≠0 then (((s.bJ (s.d.create n).1).more n 0 []).1,none,((s.bJ (s.d.create n).1).more n 0 []).2)
   else (((s.bJ (s.d.create n).1).more n 0 []).1,some (xD n W),0):=by unfold bo;rw[if_neg r]
 have I:(s.bJ (s.d.create n).1).d.aH<68719470000:=by have:=s.d.mN n;show (s.d.create n).1.aH<_;omega
 have J:(s.bJ (s.d.create n).1).Fit:=g.bJ (s.d.kL n);have af:(s.bJ (s.d.create n).1).next=s.next:=rfl
 generalize s.bJ (s.d.create n).1=L at*;generalize (s.d.create n).2=M at*;refine ah (λe=>?_) (λe=>?_)
 ·have q:M≠0:=by simpa using e
  rw[if_pos q] at em;rw[em] at a;exact a E j p4 G rfl
 have q:¬M≠0:=by simpa using e
 rw[if_neg q] at em;refine au λN z5 r5 O=>?_;have p5:=p4.ext O;have o:bP N j.size Kc p ⟨n,W,0,false⟩ [aY.v,.int .i64 ((0:Nat):Int),aY.v,.int .i64 ((0:Nat):Int)]:=r5;have f:¬E j.size:=λq=>by have:=p4.lt _ q;omega
 refine C4 (kd:=0) (sl:=Sl.mk none 0 0) (l:=[]) o p5 f ⟨rfl,Reads.nil _ _⟩ (by intro ad q;cases q) U I (by omega) (by omega) J λP R S v=>?_;have T:Step F E H N:=G.trans ⟨Ext.mod O,λb q=>.inl q⟩;have r6:=o.mod v.mod f;have z4:=G.mod.size;refine ah (λe=>?_) (λe=>?_)
 ·have q:(L.more n 0 []).2≠0:=by simpa using e
  rw[if_pos q] at em;rw[em] at a;exact a P R S (T.trans v) rfl
 ·have q:¬(L.more n 0 []).2≠0:=by simpa using e
  rw[if_neg q] at em;rw[em] at h;refine h P R j.size (xD n W) S (T.trans v) rfl ⟨r6,aF.nil _ _ _,aO.nil _ _ _ _⟩ z4 λq=>?_;rcases v.own _ q with u|u
  ·exact f u
  ·omega
end
end
section
open Go.MapKept
def kx:Option Nat->Int
 |none=>0
 |some k=>(k:Int)+1
structure Cv (H:aa)(k p:Nat)(r:RR)(si:Sl)(rs:List Sl):Prop where
 row:bP H k NT p r.b [.int .i64 (r.rows:Int),.int .i64 (r.at_:Int),.int .i64 (kx r.page),si.v]
 ins:aJ H 0 si rs r.ins
section
variable {H:aa}{k p:Nat}{r:RR}{si:Sl}{rs:List Sl}
theorem Cv.lt (h:Cv H k p r si rs):∀b,oI k si rs b->b<H.size:=by
 rintro b (rfl|q|⟨x,a,q⟩)
 ·exact aI h.row
 ·exact(h.ins.block.1 b q).2
 ·exact(h.ins.block.2 x a b q).2
theorem Cv.mod {G:Nat->Prop}{H':aa}(h:Cv H k p r si rs)(m:Mod G H H')(a:∀b,oI k si rs b->¬G b):Cv H' k p r si rs:=
 ⟨h.row.mod m (a k (.inl rfl)),h.ins.mod m (λb c=>a b (.inr (.inl c))) λx d b c=>a b (.inr (.inr ⟨x,d,c⟩))⟩
theorem Cv.EG (h:Cv H k p r si rs):¬ai si k:=λq=>by
 obtain⟨cur,a⟩:=h.ins.out.obj k q;exact absurd (aM a h.row) (by decide)
theorem Cv.jS (h:Cv H k p r si rs):∀x∈rs,¬ai x k:=λx a q=>by
 obtain⟨l,hl⟩:=h.ins.rowAt a;obtain⟨cur,c⟩:=hl.obj k q;exact absurd (aM c h.row) (by decide)
end
structure lV (H0:aa)(F0 O0:Nat->Prop)(k p dp:Nat)(si:Sl)(rs:List Sl)(F:Nat->Prop)(A:aa)(s:Pl)(r:RR):Prop where
 aj:ax F A p dp s
 rd:Cv A k p r si rs
 dis:∀b,F b->¬oI k si rs b
 mod:Mod (λb=>F0 b\/b=k) H0 A
 own:∀b,F b->F0 b\/H0.size<=b
 own2:∀b,oI k si rs b->O0 b\/H0.size<=b
section
variable {H0:aa}{F0 O0:Nat->Prop}{k p dp:Nat}{si:Sl}{rs:List Sl}{F:Nat->Prop}{A:aa}{s:Pl}{r:RR}
theorem lV.step {F':Nat->Prop}{c:aa}{s':Pl}(h:lV H0 F0 O0 k p dp si rs F A s r)(d:ax F' c p dp s')(S:Step F F' A c):lV H0 F0 O0 k p dp si rs F' c s' r:=by
 refine⟨d,h.rd.mod S.mod λb a q=>h.dis b q a,λb a q=>?_,h.mod.trans' S.mod λb a q=>?_,λb a=>?_,h.own2⟩
 ·rcases S.own b a with r|r
  ·exact h.dis b r q
  ·have:=h.rd.lt b q;omega
 ·rcases h.own b q with r|r
  ·exact .inl r
  ·omega
 ·rcases S.own b a with r|r
  ·exact h.own b r
  ·right;have:=h.mod.size;omega
theorem lV.ext {a:aa}(h:lV H0 F0 O0 k p dp si rs F A s r)(e:Ext A a):lV H0 F0 O0 k p dp si rs F a s r:=h.step (h.aj.ext e) ⟨Ext.mod e,λ_ q=>.inl q⟩
theorem lV.dz {e:aa}{r':RR}{a:Sl}{c:List Sl}(h:lV H0 F0 O0 k p dp si rs F A s r)(m:Mod (λb=>b=k) A e)(f:Cv e k p r' a c)(hs:∀b,oI k a c b->oI k si rs b\/(H0.size<=b/\¬F b)):lV H0 F0 O0 k p dp a c F e s r':=by
 refine⟨h.aj.ar λb d hl=>m.same b hl λq=>h.dis b d (.inl q),f,λb d q=>?_,h.mod.trans' m λb _ q=>.inr q,h.own,λb q=>?_⟩
 ·rcases hs b q with u|u
  ·exact h.dis b d u
  ·exact u.2 d
 ·rcases hs b q with u|u
  ·exact h.own2 b u
  ·exact .inr u.1
theorem lV.cE {e:Int}{K:Int->aa->Prop}(h:lV H0 F0 O0 k p dp si rs F A s r)(hw:r.b.wrong=0)(f:∀a,lV H0 F0 O0 k p dp si rs F a s {r with b:=r.b.cE e}->A.size<=a.size->K e a):EW.sp (aK k) e A K:=by
 refine rr h.rd.row hw λa r' d z'=>f a (h.dz d ⟨r',h.rd.ins.mod d (λb c q=>h.rd.EG (q▸c)) λx g b c q=>h.rd.jS x g (q▸c)⟩ λb q=>.inl q) (W7 z'.symm)
set_option maxHeartbeats 1000000 in
theorem G1 {j:Nat}{K:Int->aa->Prop}(h:lV H0 F0 O0 k p dp si rs F A s r)(ok:r.Ok)(o:r.b.wrong=0)(hj:j*r.b.room<=r.rows)(a8:j<1099511627776)
  (hn:r.b.name.size<=9223372036854775807) (v:s.d.aH<68719470000) (S:s.next<1099511620000) (h0:0<=s.next)
  (d:∀F' T U V,lV H0 F0 O0 k p dp T U F' V (r.load s j).1 (r.load s j).2.1->A.size<=V.size->K (r.load s j).2.2 V):Lu.sp (aK k) (j:Int) A K:=by
 refine Lu.of ?_;unfold Lu.vc;simp only[aw,aK];obtain⟨E,bb⟩:=de r.b;unfold RR.load at d;refine ao.ld (c:=ab .i64) (i:=7) (x:=kx r.page) h.rd.row (bP.tail (j:=2) rfl) ?_;rw[aD j (by omega)];have e1:((j+1:Nat):Int)=(j:Int)+1:=by omega
 by_cases N:r.page=some j
 ·rw[if_pos N] at d;refine aR (by rw[N];simp[kx]) ?_;exact d F si rs A h (QN _)
 rw[if_neg N] at d;refine aE ?_ ?_
 ·cases e:r.page with
  |none=>simp only[kx,beq_eq_false_iff_ne,ne_eq];omega
  |some i=>
    have:i≠j:=λq=>N (by rw[e,q]);simp only[kx,beq_eq_false_iff_ne,ne_eq];omega
 refine ao.ld (c:=ab .i64) (i:=2) (x:=r.b.width) h.rd.row (bP.get 2 _ rfl) ?_;refine fH ?_;refine zy h.rd.row h.aj (λq=>h.dis k q (.inl rfl)) hn v S h0 λO A1 sl p1 G o1 f1 X _=>?_;rw[e1] at p1 o1 X ⊢;have I:=h.step p1 G;generalize (s.look r.b.name ((j:Int)+1)).1=s1 at*;generalize (s.look r.b.name ((j:Int)+1)).2.1=kd at*;generalize (s.look r.b.name ((j:Int)+1)).2.2.1=b at*;generalize (s.look r.b.name ((j:Int)+1)).2.2.2=e at*;refine ah (λa=>?_) (λa=>?_)
 ·have Y:e≠0:=by simpa using a
  rw[if_pos Y] at d;exact I.cE o λZ y z2=>d O si rs Z y (QZ G.mod.size z2)
 have Y:¬e≠0:=by simpa using a
 rw[if_neg Y] at d;refine ao.ld (c:=ab .i64) (i:=2) (x:=r.b.width) I.rd.row (bP.get 2 _ rfl) ?_;refine wz (b:=eV b) o1 (by rw[lq];omega) λD z Z ro P=>?_;have y:=I.ext P;have f:r.fits j kd b=true↔(kd=1/\qR (eV b) r.b.width=0/\(jK (eV b) r.b.width).length=min r.b.room (r.rows - j*r.b.room)):=by
  unfold RR.fits qR;simp only[QY,beq_iff_eq,decide_eq_true_eq];cases eU (eV b) r.b.width<;>simp
 refine ah (λa=>?_) (λa=>?_)
 ·have C:¬r.fits j kd b=true:=λq=>by
   obtain⟨q1,q2,_⟩:=f.1 q;rw[q2,q1] at a;simp at a
  rw[if_neg C] at d;exact y.cE o λR B3 z3=>d O si rs R B3 (by have:=G.mod.size;have:=P.size;omega)
 have J:kd=1/\qR (eV b) r.b.width=0:=by
  simp only[Sp,bne_eq_false_iff_eq] at a;refine⟨?_,a.2⟩;have:kd.toNat=1:=by omega
  exact Tp.1 this
 refine ao.ld (c:=ab .i64) (i:=5) (x:=(r.rows:Int)) y.rd.row (bP.tail (j:=0) rfl) ?_;have af:(j:Int)*(r.b.room:Int)=((j*r.b.room:Nat):Int):=by simp
 have al:QI.wrap ((j:Int)*aL r.b.width)=((j*r.b.room:Nat):Int):=by
  rw[E,af];have:=ok.rows;exact wrap64 (by omega) (by omega)
 have an:QI.wrap ((r.rows:Int) - ((j*r.b.room:Nat):Int))=((r.rows - j*r.b.room:Nat):Int):=by
  have:=ok.rows;rw[wrap64 (by omega) (by omega)];omega
 rw[al,an,E,ro.n];have L:(if ((r.rows - j*r.b.room:Nat):Int)<(r.b.room:Int) then ((r.rows - j*r.b.room:Nat):Int) else (r.b.room:Int))=((min r.b.room (r.rows - j*r.b.room):Nat):Int):=by
  split<;>omega
 rw[L];refine ah (λa=>?_) (λa=>?_)
 ·have C:¬r.fits j kd b=true:=λq=>by
   obtain⟨_,_,q3⟩:=f.1 q;rw[q3] at a;simp at a
  rw[if_neg C] at d;exact y.cE o λR B3 z3=>d O si rs R B3 (by have:=G.mod.size;have:=P.size;omega)
 have a1:((jK (eV b) r.b.width).length:Int)=((min r.b.room (r.rows - j*r.b.room):Nat):Int):=by simpa only[bne_eq_false_iff_eq] using a
 have hf:r.fits j kd b=true:=f.2 ⟨J.1,J.2,Int.ofNat.inj a1⟩;rw[if_pos hf] at d;refine ao.st y.rd.row (i:=7) (by simp[dC]) rfl λR r3 m3 z3=>?_;refine ao.st r3 (i:=8) (by simp[dC]) rfl λA4 r4 m4 z4=>?_;have m24:=m3.trans m4;have a6:bP A4 k NT p r.b [.int .i64 (r.rows:Int),.int .i64 (r.at_:Int),.int .i64 (kx (some j)),D.v]:=by
  have e:((dC p r.b++[.int .i64 (r.rows:Int),.int .i64 (r.at_:Int),.int .i64 (kx r.page),si.v]).toArray.setIfInBounds 7 (.int .i64 ((j:Int)+1))).setIfInBounds 8 D.v=(dC p r.b++[.int .i64 (r.rows:Int),.int .i64 (r.at_:Int),.int .i64 (kx (some j)),D.v]).toArray:=by
   simp[dC,kx]
  rw[e] at r4;exact r4
 have g:=ro.block;have bd:k<A1.size:=aI I.rd.row;have bh:=I.mod.size;have a7:aJ Z 0 D z (jK (eV b) r.b.width):=⟨ro.out.yD,ro.len,λi x l h1 h2=>(ro.row i x l h1 h2).yD,ro.apart⟩;have rn:Cv A4 k p {r with page:=some j,ins:=jK (eV b) r.b.width} D z:=
  ⟨a6,a7.mod m24 (λb M q=>by have:=(g.1 b M).1;omega) λx hx b M q=>by have:=(g.2 x hx b M).1;omega⟩
 refine d O D z A4 (y.dz m24 rn λb M=>?_) (by have:=G.mod.size;have:=P.size;have:=m24.size;omega);rcases M with q|q|⟨x,hx,q⟩
 ·exact .inl (.inl q)
 ·have:=(g.1 b q).1;exact .inr ⟨by omega,λu=>by have:=p1.lt b u;omega⟩
 ·have:=(g.2 x hx b q).1;exact .inr ⟨by omega,λu=>by have:=p1.lt b u;omega⟩
theorem Ht {K:(Sl×Bool×Int)->aa->Prop}(h:lV H0 F0 O0 k p dp si rs F A s r)(ok:r.Ok)
  (hn:r.b.name.size<=9223372036854775807) (z:s.d.aH<68719470000) (N:s.next<1099511620000) (h0:0<=s.next)
  (v:∀F' G I L l,lV H0 F0 O0 k p dp G I F' L (r.next s).1 (r.next s).2.1->Ints .u64 L l (r.next s).2.2.1->(∀b,ai l b->oI k G I b/\b≠k)->A.size<=L.size->K (l,(r.next s).2.2.2.1,(r.next s).2.2.2.2) L):Ep.sp (aK k) A K:=by
 refine Ep.of ?_;unfold Ep.vc;simp only[aw,aK];obtain⟨O,al⟩:=de r.b;unfold RR.next at v;refine qZ h.rd.row ?_;refine ah (λu=>?_) (λu=>?_)
 ·have M:r.b.ready≠0:=by simpa using u
  rw[if_pos M] at v;exact v F si rs A _ h ⟨rfl,Reads.nil _ _⟩ (λb q=>absurd q (aU b)) (QN _)
 have M:¬r.b.ready≠0:=by simpa using u
 obtain⟨P,_⟩:=Rb.iZ M;rw[if_neg M] at v;refine ao.ld (c:=ab .i64) (i:=6) (x:=(r.at_:Int)) h.rd.row (bP.tail (j:=1) rfl) ?_;refine ao.ld (c:=ab .i64) (i:=5) (x:=(r.rows:Int)) h.rd.row (bP.tail (j:=0) rfl) ?_;have af:=ok.at_;refine ah (λu=>?_) (λu=>?_)
 ·have e1:r.at_=r.rows:=by
   have:(r.at_:Int)>=(r.rows:Int):=by simpa using u
   omega
  rw[if_pos e1] at v;exact v F si rs A _ h ⟨rfl,Reads.nil _ _⟩ (λb q=>absurd q (aU b)) (QN _)
 have an:r.at_<r.rows:=by
  have:¬(r.at_:Int)>=(r.rows:Int):=by simpa using u
  omega
 rw[if_neg (by omega)] at v;refine ao.ld (c:=ab .i64) (i:=2) (x:=r.b.width) h.rd.row (bP.get 2 _ rfl) ?_;refine fH ?_;refine ao.ld (c:=ab .i64) (i:=6) (x:=(r.at_:Int)) h.rd.row (bP.tail (j:=1) rfl) ?_;have R:=ok.room;have a1:=ok.rows;rw[O];refine⟨by omega,?_⟩;have hdiv:QI.wrap (Rt (r.at_:Int) (r.b.room:Int))=((r.at_/r.b.room:Nat):Int):=by
  have h1:Rt (r.at_:Int) (r.b.room:Int)=((r.at_/r.b.room:Nat):Int):=rfl;have h2:=VK r.at_ r.b.room;rw[h1];generalize r.at_/r.b.room=q at h2 ⊢;exact wrap64 (by omega) (by omega)
 rw[hdiv];have a6:=Nat.div_mul_le_self r.at_ r.b.room;have a7:=VK r.at_ r.b.room;refine G1 h ok P (by omega) (by omega) hn z N h0 λS d f A1 g hz=>?_;obtain⟨k1,k2,k3,k4,_,k6⟩:=RR.qb (s:=s) (j:=r.at_/r.b.room) ok;generalize (r.load s (r.at_/r.b.room)).1=s1 at*;generalize (r.load s (r.at_/r.b.room)).2.1=o at*;generalize (r.load s (r.at_/r.b.room)).2.2=e2 at*;refine ah (λu=>?_) (λu=>?_)
 ·have T:e2≠0:=by simpa using u
  rw[if_pos T] at v;exact v S d f A1 _ g ⟨rfl,Reads.nil _ _⟩ (λb q=>absurd q (aU b)) hz
 have T:¬e2≠0:=by simpa using u
 rw[if_neg T] at v;obtain⟨k7,k8⟩:=k6 (by omega);have hlen:=k1.page _ k8;rw[k7,k2] at hlen;have hm:=U1 r.at_ R;have a8:=Nat.div_add_mod r.at_ r.b.room;have bb:r.b.room*(r.at_/r.b.room)=r.at_/r.b.room*r.b.room:=Xb _ _;have C:r.at_%r.b.room<o.ins.length:=by rw[hlen];omega
 refine ao.ld (c:=aq) (i:=8) (x:=d) g.rd.row (bP.tail (j:=3) rfl) ?_;refine ao.ld (c:=ab .i64) (i:=6) (x:=(o.at_:Int)) g.rd.row (bP.tail (j:=1) rfl) ?_;rw[k3];refine⟨by omega,?_⟩;have J:RP (r.at_:Int) (r.b.room:Int)=((r.at_%r.b.room:Nat):Int):=rfl;rw[J];have D:r.at_%r.b.room<f.length:=by rw[g.rd.ins.len];exact C
 have U:∀{K:hY->Sl->Prop},(∀a,K a f[r.at_%r.b.room])->ae d.a λa=>(0<=((r.at_%r.b.room:Nat):Int)/\((r.at_%r.b.room:Nat):Int)<(d.n:Int))/\tb aq A1 (a.add (((r.at_%r.b.room:Nat):Int).toNat*1)) λx=>K a x:=λ{K} hk=>by
  obtain⟨ad,V,u⟩:=g.rd.ins.out.reads.at (i:=r.at_%r.b.room) (by simpa using D);refine aZ ad V ⟨⟨by omega,by rw[g.rd.ins.n];omega⟩,f[r.at_%r.b.room],?_,hk ad⟩;rw[QP,Rz,u,Vl]
 refine U λ_=>?_;have ol:=g.rd.ins.row _ _ _ (QK D) (QK C);refine ao.ld (c:=ab .i64) (i:=6) (x:=(o.at_:Int)) g.rd.row (bP.tail (j:=1) rfl) ?_;refine ao.st g.rd.row (i:=6) (by simp[dC]) rfl λX Y m3 z3=>?_;rw[k3,aD r.at_ (by omega)] at Y;have Z:bP X k NT p o.b [.int .i64 (o.rows:Int),.int .i64 ((r.at_+1:Nat):Int),.int .i64 (kx o.page),d.v]:=by
  have e:(dC p o.b++[.int .i64 (o.rows:Int),.int .i64 (r.at_:Int),.int .i64 (kx o.page),d.v]).toArray.setIfInBounds 6 (.int .i64 ((r.at_+1:Nat):Int))=(dC p o.b++[.int .i64 (o.rows:Int),.int .i64 ((r.at_+1:Nat):Int),.int .i64 (kx o.page),d.v]).toArray:=by
   simp[dC]
  rw[e] at Y;exact Y
 have B3:lV H0 F0 O0 k p dp d f S X s1 {o with at_:=r.at_+1}:=g.dz m3 ⟨Z,g.rd.ins.mod m3 (λb E q=>g.rd.EG (q▸E)) λx hx b E q=>g.rd.jS x hx (q▸E)⟩ λb q=>.inl q;have y:f[r.at_%r.b.room]∈f:=Re D;refine v S d f X _ B3 ?_ (λb E=>⟨.inr (.inr ⟨_,y,E⟩),λq=>g.rd.jS _ y (q▸E)⟩) (by omega);have eg:o.ins.getD (r.at_%r.b.room) []=o.ins[r.at_%r.b.room]:=by rw[RY,QK C];rfl
 rw[eg];exact(aO.ints ol).mod m3 λad V q=>g.rd.jS _ y (q▸⟨ad,V,rfl⟩)
end
end
section
open Go.MapKept
theorem Et {n room:Nat}{H:aa}{K:Int->aa->Prop}(a:0<room/\room<=504)(g:n<=528482304)(c:K (dr n room:Int) H):Lg.sp (n:Int) (room:Int) H K:=by
 refine Lg.of ?_;unfold Lg.vc;refine⟨by omega,?_⟩;have d:QI.wrap ((n:Int)+(room:Int))=((n+room:Nat):Int):=by rw[wrap64 (by omega) (by omega)];omega
 have e:QI.wrap (((n+room:Nat):Int) - 1)=((n+room - 1:Nat):Int):=by rw[wrap64 (by omega) (by omega)];omega
 have f:Rt ((n+room - 1:Nat):Int) (room:Int)=((dr n room:Nat):Int):=rfl;rw[d,e,f];have:=nN (n:=n) a.1;rw[wrap64 (by omega) (by omega)];exact c
section
variable {F:Nat->Prop}{H:aa}{p dp:Nat}{s:Pl}{n:ByteArray}{W:Int}{K:(Option hY×Int)->aa->Prop}
set_option maxHeartbeats 1000000 in
theorem zp (hp:ax F H p dp s)(hn:n.size<=9223372036854775807)(af:s.d.aH<68719460000)(al:s.next<1099511620000)(h0:0<=s.next)(E:(s.look n 0).1.d.aH<68719476736)
  (f:∀F' H',ax F' H' p dp (rnOpen s n W).1->Step F F' H H'->(rnOpen s n W).2.1=none->K (none,(rnOpen s n W).2.2) H')
  (l:∀F' H' k r,ax F' H' p dp (rnOpen s n W).1->Step F F' H H'->(rnOpen s n W).2.1=some r->Cv H' k p r aY []->H.size<=k->¬F' k->K (aK k,(rnOpen s n W).2.2) H'):KX.sp (aK p) n W H K:=by
 refine KX.of ?_;unfold KX.vc;simp only[aw,aK];refine aE rfl ?_;refine fH ?_;by_cases Y:aL W=0
 ·have em:rnOpen s n W=(s,none,60):=if_pos Y;rw[em] at f;exact aR (by simpa using Y) (f F H hp (.refl _ _) rfl)
 refine aE (by simpa using Y) ?_;refine au λH3 z3 r3 e3=>?_;have p3:=hp.ext e3;have S3:Step F F H H3:=⟨Ext.mod e3,λb q=>.inl q⟩;have hk:¬F H.size:=λq=>by have:=hp.lt _ q;omega
 have b3:bP H3 H.size NT p ⟨n,W,0,false⟩ [.int .i64 ((0:Nat):Int),.int .i64 ((0:Nat):Int),.int .i64 (kx none),aY.v]:=r3;refine zy (g:=0) (b:=⟨n,W,0,false⟩) b3 p3 hk hn (by omega) al h0 λy H4 sl p4 S4 z f4 an c4=>?_;have em:rnOpen s n W=if (s.look n 0).2.2.2≠0 then ((s.look n 0).1,none,(s.look n 0).2.2.2)
  else if ¬((s.look n 0).2.1=2/\(s.look n 0).2.2.1.length=9/\(((s.look n 0).2.2.1.getD 0 0).toNat:Int)=W) then ((s.look n 0).1,none,280)
  else if ((s.look n 0).1.d.len n).2≠0 then ((s.look n 0).1,none,((s.look n 0).1.d.len n).2)
  else if cp (eV ((s.look n 0).2.2.1.drop 1))<=528482304/\((s.look n 0).1.d.len n).1=1+dr (cp (eV ((s.look n 0).2.2.1.drop 1))).toNat (aL W).toNat then
   ((s.look n 0).1,some ⟨⟨n,W,0,false⟩,(cp (eV ((s.look n 0).2.2.1.drop 1))).toNat,0,none,[]⟩,0)
  else ((s.look n 0).1,none,280):=by unfold rnOpen;rw[if_neg Y]
 rw[em] at f l;simp only at p4 z an ⊢;generalize (s.look n 0).1=s4 at*;generalize (s.look n 0).2.1=kd at*;generalize (s.look n 0).2.2.1=b at*;generalize (s.look n 0).2.2.2=e at*;have Z:=S3.trans S4;have b4:=b3.mod S4.mod hk;have a1:=z.n;refine ah (λh=>?_) (λh=>?_)
 ·have e0:e≠0:=by simpa using h
  rw[if_pos e0] at f;exact f y H4 p4 Z rfl
 have e0:¬e≠0:=by simpa using h
 rw[if_neg e0] at f l;refine ah (λh=>?_) (λh=>?_)
 ·have o:¬(kd=2/\b.length=9/\((b.getD 0 0).toNat:Int)=W):=by
   rintro⟨q1,q2,_⟩;rw[a1,q2,q1] at h;simp at h
  rw[if_pos o] at f;exact f y H4 p4 Z rfl
 have a6:kd=2/\b.length=9:=by
  simp only[Sp,bne_eq_false_iff_eq] at h;refine⟨Tp.1 (by have:=h.1;show kd.toNat=2;omega),by have:=h.2;omega⟩
 obtain⟨a7,a8⟩:=a6;refine eR z (i:=0) (by omega) rfl λad ha=>?_;have bb:QI.wrap ((b[0]'(by omega)).toNat:Int)=((b.getD 0 0).toNat:Int):=by
  have:b.getD 0 0=b[0]'(by omega):=by rw[RY,QK (by omega)];rfl
  have bN:=(b[0]'(by omega)).toNat_lt;rw[this,wrap64 (by omega) (by omega)]
 rw[bb];refine ah (λh=>?_) (λh=>?_)
 ·have o:¬(kd=2/\b.length=9/\((b.getD 0 0).toNat:Int)=W):=by
   rintro⟨_,_,q3⟩;rw[q3] at h;simp at h
  rw[if_pos o] at f;exact f y H4 p4 Z rfl
 have R:¬¬(kd=2/\b.length=9/\((b.getD 0 0).toNat:Int)=W):=λq=>q ⟨a7,a8,by simpa only[bne_eq_false_iff_eq] using h⟩;rw[if_neg R] at f l;refine⟨by omega,?_⟩;have hd:=z.drop c4 1;have bd:(eV (b.drop 1)).length=8:=by rw[lq,RM];omega
 refine wz (b:=eV (b.drop 1)) hd (by omega) λsr rs H5 ro G=>?_;rw[yu bd] at ro;have p5:=p4.ext G;have T5:Step F y H H5:=Z.trans ⟨Ext.mod G,λb q=>.inl q⟩;have b5:=b4.ext G;obtain⟨ll,bh,_,bO⟩:=p5.head;refine ao.ld (c:=aB) (i:=0) (x:=aK dp) bh rfl ?_;obtain⟨D,d1,_,_⟩:=p5.cD;refine nZ d1 E λC M=>?_;have S:=p5.ext M;have O:Step F y H C:=T5.trans ⟨Ext.mod M,λb q=>.inl q⟩;have b6:=b5.ext M;have bl:Rows C sr [[cp (eV (b.drop 1))]]:=(ro.mod M (λ_ _ u=>u) λ_ _ _ _ u=>u).rows;have hm:=Dk.kG d1.wf n;generalize (s4.d.len n).1=N at*;generalize (s4.d.len n).2=e5 at*;refine ah (λh=>?_) (λh=>?_)
 ·have M:e5≠0:=by simpa using h
  rw[if_pos M] at f;exact f y C S O rfl
 have bn:¬e5≠0:=by simpa using h
 rw[if_neg bn] at f l;have I:∀{K:hY->Sl->hY->Int->Prop},(∀a x c,K a x c (cp (eV (b.drop 1))))->ae sr.a λT=>(0<=(0:Int)/\(0:Int)<(sr.n:Int))/\ld aq C (T.add ((0:Int).toNat*1)) λ(J:Sl)=>ae J.a λU=>(0<=(0:Int)/\(0:Int)<(J.n:Int))/\ld (ab .u64) C (U.add ((0:Int).toNat*1)) λ(bs:Int)=>K T J U bs:=λ{K} hk=>by
  refine bl.ld (i:=0) (by simp) λbx x1 b0 bA=>?_;have V:Ints .u64 C x1 [cp (eV (b.drop 1))]:=bA;exact jW V (i:=0) (j:=0) rfl (by simp) λbB b1=>hk bx x1 bB
 have b2:=iP (eV (b.drop 1));generalize cp (eV (b.drop 1))=w at*;have L:=de ⟨n,W,0,false⟩;refine I λ_ _ _=>?_;refine ah (λh=>?_) (λh=>?_)
 ·have hw:¬w<=528482304:=by
   have:w>528482304:=by simpa using h
   omega
  rw[if_neg (λq=>hw q.1)] at f;exact f y C S O rfl
 ·have hw:w<=528482304:=by
   have:¬w>528482304:=by simpa using h
   omega
  refine I λ_ _ _=>?_;obtain⟨wn,rfl⟩:∃wn:Nat,w=(wn:Int):=⟨w.toNat,by omega⟩;rw[show QI.wrap (wn:Int)=(wn:Int) from wrap64 (by omega) (by omega)];have v:0<(Rb.room ⟨n,W,0,false⟩):=by
   have:=L.1;simp only at this;omega
  have bC:aL W=((aL W).toNat:Int):=L.1;rw[bC];refine Et ⟨v,L.2⟩ (by omega) ?_;have bD:=nN (n:=wn) v;have bM:Rb.room ⟨n,W,0,false⟩=(aL W).toNat:=rfl;rw[bM] at bD;have w2:QI.wrap (1+(dr wn (aL W).toNat:Int))=((1+dr wn (aL W).toNat:Nat):Int):=by
   rw[wrap64 (by omega) (by omega)];omega
  rw[w2];rw[QP] at f l;refine ah (λh=>?_) (λh=>?_)
  ·have e7:¬(((wn:Nat):Int)<=528482304/\N=1+dr wn (aL W).toNat):=λq=>by
    rw[q.2] at h;simp at h
   rw[if_neg e7] at f;exact f y C S O rfl
  ·have e7:N=1+dr wn (aL W).toNat:=by
    have:(N:Int)=((1+dr wn (aL W).toNat:Nat):Int):=by simpa using h
    omega
   rw[if_pos ⟨hw,e7⟩] at l;refine I λ_ _ _=>?_;rw[show QI.wrap (wn:Int)=(wn:Int) from wrap64 (by omega) (by omega)];refine ao.st b6 (i:=5) (by simp[dC]) rfl λH7 r7 m7 z7=>?_;have X:¬y H.size:=λq=>by
    rcases S4.own _ q with u|u
    ·exact hk u
    ·omega
   have:=O.mod.size;refine l y H7 H.size ⟨⟨n,W,0,false⟩,wn,0,none,[]⟩ (S.ar λb P _=>m7.same b (S.lt b P) λq=>X (q▸P)) ⟨⟨by omega,λb P hn=>(m7.same b (by omega) λq=>by omega).trans (O.mod.same b P hn)⟩,λb P=>O.own b P⟩ rfl ⟨r7,aJ.nil _ _⟩ (QN _) X
end
end
section
open Go.MapKept
section
variable {H0:aa}{F0 O0:Nat->Prop}{k p dp:Nat}{si:Sl}{rs:List Sl}{F:Nat->Prop}{A:aa}{s:Pl}{r:RR}{low:Sl}{ll:List Int}
end
end
section
open Go.MapKept
structure qH (H0:aa)(F0:Nat->Prop)(col:Nat->Nat)(p dp:Nat)(F:Nat->Prop)(A:aa)(s:Pl)(xs:List oh)(l:Sl):Prop where
 aj:ax F A p dp s
 rds:∀(i:Nat) (x:oh),xs[i]?=some x->Cv A x.k p x.r x.si x.srs
 oks:∀x∈xs,x.r.Ok/\x.r.b.name.size<=9223372036854775807
 list:aF dW OF A l (xs.map (·.k))
 cF:∀b,F b->col b=0/\(F0 b\/H0.size<=b)
 cR:∀(i:Nat) (x:oh),xs[i]?=some x->∀b,x.own b->col b=5+i/\H0.size<=b
 cL:∀b,ai l b->col b=4/\H0.size<=b
 mod:Mod F0 H0 A
section
variable {H0 A:aa}{F0 F:Nat->Prop}{col:Nat->Nat}{p dp:Nat}{s:Pl}{xs:List oh}{l:Sl}
theorem qH.step (h:qH H0 F0 col p dp F A s xs l):Step F0 F H0 A:=⟨h.mod,λb a=>(h.cF b a).2⟩
theorem qH.lt (h:qH H0 F0 col p dp F A s xs l){i:Nat}{x:oh}(a:xs[i]?=some x):∀b,x.own b->b<A.size:=(h.rds i x a).lt
theorem qH.tP {G:Nat->Prop}{F':Nat->Prop}{B:aa}{s':Pl}{col':Nat->Nat}(h:qH H0 F0 col p dp F A s xs l)(g:ax F' B p dp s')(m:Mod G A B)(e:∀b,b<A.size->G b->col b<4)(d:∀b,b<H0.size->G b->F0 b)
  (j:∀b,F' b->col' b=0/\(F0 b\/H0.size<=b)) (f:∀b,b<A.size->4<=col b->col' b=col b):qH H0 F0 col' p dp F' B s' xs l:=by
 refine⟨g,λi x c=>(h.rds i x c).mod m λb a q=>?_,h.oks,h.list.mod m λb a q=>?_,j,λi x c b a=>?_,λb a=>?_,h.mod.trans' m d⟩
 ·have:=e b (h.lt c b a) q;have:=(h.cR i x c b a).1;omega
 ·have:=e b (h.list.lt b a) q;have:=(h.cL b a).1;omega
 ·have:=h.cR i x c b a;rw[f b (h.lt c b a) (by omega)];exact this
 ·have:=h.cL b a;rw[f b (h.list.lt b a) (by omega)];exact this
theorem qH.next {K:(Sl×Bool×Int)->aa->Prop}{i:Nat}{x:oh}{u v:Nat}(h:qH H0 F0 col p dp F A s xs l)(D:xs[i]?=some x)(b:Bd s u v)(hu:u<1000000000000)(P:v<68719470000)
  (M:∀F' B col' x' row,qH H0 F0 col' p dp F' B (x.r.next s).1 (xs.set i x') l->x'.k=x.k->x'.r=(x.r.next s).2.1->Ints .u64 B row (x.r.next s).2.2.1->(∀b,ai row b->x'.own b/\b≠x.k)->(∀b,b<A.size->col' b=col b)->Mod (λb=>F b\/b=x.k) A B->
   K (row,(x.r.next s).2.2.2.1,(x.r.next s).2.2.2.2) B):Ep.sp (aK x.k) A K:=by
 have I:=QL D;obtain⟨ok,L⟩:=h.oks x I;have hi:=(QJ.1 D).1;have dis:∀b,F b->¬oI x.k x.si x.srs b:=λb a q=>by
  have:=(h.cF b a).1;have:=(h.cR i x D b q).1;omega
 have J:=b.lo;have N:=b.hi;have O:=b.aH;refine Ht (⟨h.aj,h.rds i x D,dis,.refl _ _,λ_ q=>.inl q,λ_ q=>.inl q⟩:lV A F (oI x.k x.si x.srs) x.k p dp x.si x.srs F A s x.r) ok L (by omega) (by omega) J λF' E C B row g o f R=>?_;obtain⟨col',c1,c2⟩:=iI col A.size F' (oI x.k E C) (λ_=>False) 0 (5+i) 3 g.dis (λb q r=>r) (λb q r=>r);have G:=RR.fC ok s;have z:=g.mod.size;have ar:∀(j:Nat) (y:oh),j≠i->xs[j]?=some y->∀b,y.own b->¬(F b\/b=x.k):=λj y S d b a q=>by
  have c:=(h.cR j y d b a).1;rcases q with q|q
  ·have:=(h.cF b q).1;omega
  ·have:=(h.cR i x D b (by subst q;exact .inl rfl)).1;omega
 refine M F' B col' ⟨x.k,(x.r.next s).2.1,E,C⟩ row ⟨g.aj,λj y d=>?_,λy d=>?_,?_,λb a=>?_,λj y d b a=>?_,λb a=>?_,?_⟩ rfl rfl o (λb a=>f b a) c1 g.mod
 ·by_cases q:j=i
  ·subst q;rw[RT hi] at d;cases d;exact g.rd
  ·rw[RO (Sg q)] at d;exact(h.rds j y d).mod g.mod (ar j y q d)
 ·rcases List.mem_or_eq_of_mem_set d with q|q
  ·exact h.oks y q
  ·subst q;exact⟨G.1,by show (x.r.next s).2.1.b.name.size<=_;rw[G.2.1];exact L⟩
 ·have e:(xs.set i ⟨x.k,(x.r.next s).2.1,E,C⟩).map (·.k)=xs.map (·.k):=by
   rw[R9];apply List.ext_getElem?;intro j;rw[Rx];split
   ·rename_i q;subst q;rw[QV,D];simp[hi]
   ·rfl
  rw[e];exact h.list.mod g.mod λb a q=>by
   have c:=(h.cL b a).1;rcases q with q|q
   ·have:=(h.cF b q).1;omega
   ·have:=(h.cR i x D b (by subst q;exact .inl rfl)).1;omega
 ·rcases g.own b a with q|q
  ·rw[c1 b (h.aj.lt b q)];exact h.cF b q
  ·exact⟨(c2 b q).1 a,.inr (by have:=h.mod.size;omega)⟩
 ·by_cases q:j=i
  ·subst q;rw[RT hi] at d;cases d;rcases g.own2 b a with q|q
   ·rw[c1 b (h.lt D b q)];exact h.cR j x D b q
   ·exact⟨(c2 b q).2.1 a,by have:=h.mod.size;omega⟩
  ·rw[RO (Sg q)] at d;rw[c1 b (h.lt d b a)];exact h.cR j y d b a
 ·rw[c1 b (h.list.lt b a)];exact h.cL b a
 ·refine h.mod.trans' g.mod λb a q=>?_;rcases q with q|q
  ·exact(h.cF b q).2.resolve_right (by omega)
  ·have:=(h.cR i x D b (by subst q;exact .inl rfl)).2;omega
end
end
section
open Go.MapKept
def Iz:eZ Sl:=⟨1,λx=>[x.v],λ_=>rfl,λx u hu=>by simp at hu;subst hu;rfl⟩
def MZ:eZ Bool:=⟨1,λx=>[.bool x],λ_=>rfl,λx u hu=>by simp at hu;subst hu;rfl⟩
theorem O2:tc QH dY dv 1 24:=fe (by kernel_rfl)
theorem O7:tc QH Nh Nu 1 1:=fe (by kernel_rfl)
theorem OK:tc QH ND OF 1 8:=fe (by kernel_rfl)
structure vE (H0:aa)(F0:Nat->Prop)(col:Nat->Nat)(p dp:Nat)(F:Nat->Prop)(A:aa)(s:Pl)(xs:List oh)(l:Sl)(kw:Nat)(w:RW)(sw sl hsl:Sl)(hd:List Sl)(isl:Sl)(isb:List Bool)(hs:List (Option (List Int))):Prop where
 rds:qH H0 F0 col p dp F A s xs l
 wr:sZ A kw p w sw sl
 cW:∀b,dH kw sw sl b->col b=2/\(F0 b\/H0.size<=b)
 hO:aF Iz dv A hsl hd
 iO:aF MZ Nu A isl isb
 cH:∀b,(ai hsl b\/ai isl b)->col b=1/\H0.size<=b
 row:∀(i:Nat) (y:List Int),hs[i]?=some (some y)->∃r x,hd[i]?=some r/\xs[i]?=some x/\Ints .u64 A r y/\(∀b,ai r b->x.own b/\b≠x.k)/\y.length<=16
section
variable {H0 A B:aa}{F0 F F':Nat->Prop}{col col':Nat->Nat}{p dp:Nat}{s s':Pl}{xs:List oh}{l:Sl}{kw:Nat}{w:RW}{sw sl hsl isl:Sl}{hd:List Sl}{isb:List Bool}{hs:List (Option (List Int))}
theorem vE.Pe (h:vE H0 F0 col p dp F A s xs l kw w sw sl hsl hd isl isb hs):∀b,dH kw sw sl b->b<A.size:=h.wr.lt
theorem vE.Js (h:vE H0 F0 col p dp F A s xs l kw w sw sl hsl hd isl isb hs){i:Nat}{x:oh}(a:xs[i]?=some x){b:Nat}(c:x.own b):col b=5+i/\b<A.size:=⟨(h.rds.cR i x a b c).1,h.rds.lt a b c⟩
set_option maxHeartbeats 1000000 in
theorem vE.add {K:Int->aa->Prop}{row:Sl}{y:List Int}{to:ByteArray}{c u v:Nat}(h:vE H0 F0 col p dp F A s xs l kw w sw sl hsl hd isl isb hs)(ok:nh w to c)(Z:c<1000000000000)(z:to.size<=9223372036854775807)(b:Bd s u v)(hu:u<1000000000000)(hv:v<68719460000)(hy:y.length<=16)
  (g:Ints .u64 A row y) (j:∀ad,row.a=some ad->¬dH kw sw sl ad.block)
  (L:∀F' B col' e f,vE H0 F0 col' p dp F' B (w.add s y).1 xs l kw (w.add s y).2.1 e f hsl hd isl isb hs->A.size<=B.size->K (w.add s y).2.2 B):CP.sp (aK kw) row A K:=by
 have dis:∀b,F b->¬dH kw sw sl b:=λb d q=>by
  have:=(h.rds.cF b d).1;have:=(h.cW b q).1;omega
 have C:=b.lo;have M:=b.hi;have N:=b.aH;have o1:=ok.wait;have o2:=ok.n;have o3:=ok.rows;refine Dm h.wr h.rds.aj dis g (λad D _=>j ad D) (λ_=>by omega) (by omega) (by omega) (by omega) (by rw[ok.name];exact z) (by omega) (by omega) C b.fit λF' e f B O P R S=>?_;have o:∃col':Nat->Nat,(∀b,F' b->col' b=0)/\(∀b,dH kw e f b->col' b=2)/\∀b,¬F' b->¬dH kw e f b->col' b=col b:=by
  classical
  refine⟨λb=>if F' b then 0 else if dH kw e f b then 2 else col b,λb d=>if_pos d,λb d=>?_,λb h1 T=>?_⟩
  ·show (if F' b then _ else _)=_;rw[if_neg λq=>R b q d,if_pos d]
  ·show (if F' b then _ else _)=_;rw[if_neg h1,if_neg T]
 obtain⟨col',c1,c2,U⟩:=o;have z0:=h.rds.mod.size;have old:∀b,b<A.size->F' b\/dH kw e f b->col b=0\/col b=2:=λb d q=>by
  rcases (S.own b q).resolve_right (by omega) with u|u
  ·exact .inl (h.rds.cF b u).1
  ·exact .inr (h.cW b u).1
 have same:∀b,b<A.size->col b≠0->col b≠2->col' b=col b:=λb d n0 n2=>U b (λq=>by rcases old b d (.inl q) with u|u<;>omega) λq=>by rcases old b d (.inr q) with u|u<;>omega
 have base:∀b,F' b\/dH kw e f b->F0 b\/H0.size<=b:=λb q=>by
  rcases S.own b q with (u|u)|u
  ·exact(h.rds.cF b u).2
  ·exact(h.cW b u).2
  ·exact .inr (by omega)
 have E:∀b,b<A.size->(F b\/dH kw sw sl b)->col b=0\/col b=2:=λb _ q=>q.imp (λu=>(h.rds.cF b u).1) λu=>(h.cW b u).1;have G:∀b,(ai hsl b\/ai isl b)->¬(F b\/dH kw sw sl b):=λb d q=>by
  have a:=(h.cH b d).1;have lt:b<A.size:=d.elim (λu=>h.hO.lt b u) λu=>h.iO.lt b u;have:=E b lt q;omega
 refine L F' B col' e f ⟨h.rds.tP O S.mod (λb d q=>by have:=E b d q;omega) (λb d q=>?_) (λb d=>⟨c1 b d,base b (.inl d)⟩) (λb d q=>same b d (by omega) (by omega)),P,λb d=>⟨c2 b d,base b (.inr d)⟩,h.hO.mod S.mod λb d=>G b (.inl d),h.iO.mod S.mod λb d=>G b (.inr d),λb d=>?_,λi y' hi=>?_⟩ S.mod.size
 ·rcases q with u|u
  ·exact(h.rds.cF b u).2.resolve_right (by omega)
  ·exact(h.cW b u).2.resolve_right (by omega)
 ·have a:=h.cH b d;have lt:b<A.size:=d.elim (λu=>h.hO.lt b u) λu=>h.iO.lt b u;rw[same b lt (by omega) (by omega)];exact a
 ·obtain⟨r,x,V,I,X,J,Y⟩:=h.row i y' hi;exact⟨r,x,V,I,X.mod S.mod λad D q=>by
   obtain⟨a1,a2⟩:=h.Js I (J _ ⟨ad,D,rfl⟩).1;have:=E _ a2 q;omega,J,Y⟩
set_option maxHeartbeats 1000000 in
theorem vE.next {K:(Sl×Bool×Int)->aa->Prop}{i:Nat}{x:oh}{u v:Nat}(h:vE H0 F0 col p dp F A s xs l kw w sw sl hsl hd isl isb hs)(g:xs[i]?=some x)(b:Bd s u v)(hu:u<1000000000000)(G:v<68719470000)
  (I:∀F' B col' x' row,vE H0 F0 col' p dp F' B (x.r.next s).1 (xs.set i x') l kw w sw sl hsl hd isl isb (hs.set i none)->x'.r=(x.r.next s).2.1->Ints .u64 B row (x.r.next s).2.2.1->(∀b,ai row b->x'.own b/\b≠x'.k)->A.size<=B.size->K (row,(x.r.next s).2.2.2.1,(x.r.next s).2.2.2.2) B):Ep.sp (aK x.k) A K:=by
 refine h.rds.next g b hu G λF' B col' x' row J L M N o C e=>?_;have c:∀b,F b\/b=x.k->col b=0\/col b=5+i:=λb q=>by
  rcases q with q|q
  ·exact .inl (h.rds.cF b q).1
  ·exact .inr (h.rds.cR i x g b (by subst q;exact .inl rfl)).1
 have z:=e.size;refine I F' B col' x' row ⟨J,h.wr.mod e λb a q=>?_,λb a=>?_,h.hO.mod e λb a q=>?_,h.iO.mod e λb a q=>?_,λb a=>?_,λj y f=>?_⟩ M N (λb a=>⟨(o b a).1,by rw[L];exact(o b a).2⟩) z
 ·have:=c b q;have:=(h.cW b a).1;omega
 ·rw[C b (h.Pe b a)];exact h.cW b a
 ·have:=c b q;have:=(h.cH b (.inl a)).1;omega
 ·have:=c b q;have:=(h.cH b (.inr a)).1;omega
 ·have lt:b<A.size:=a.elim (λu=>h.hO.lt b u) λu=>h.iO.lt b u;rw[C b lt];exact h.cH b a
 ·by_cases d:j=i
  ·subst d;rw[Rx] at f;simp at f
  ·rw[RO (Sg d)] at f;obtain⟨r,y',O,D,P,E,R⟩:=h.row j y f;refine⟨r,y',O,by rw[RO (Sg d)];exact D,P.mod e λad S q=>?_,E,R⟩;obtain⟨T,a2⟩:=h.Js D (E _ ⟨ad,S,rfl⟩).1;have:=c _ q;omega
theorem vE.lK {e f:Sl}{j:List Sl}{g:List Bool}{hs':List (Option (List Int))}(h:vE H0 F0 col p dp F A s xs l kw w sw sl hsl hd isl isb hs)(o:Mod (λb=>ai hsl b\/ai isl b) A B)(hO:aF Iz dv B e j)(iO:aF MZ Nu B f g)(E:∀b,(ai e b\/ai f b)->(ai hsl b\/ai isl b)\/A.size<=b)
  (row:∀(i:Nat) (y:List Int),hs'[i]?=some (some y)->∃r x,j[i]?=some r/\xs[i]?=some x/\Ints .u64 A r y/\(∀b,ai r b->x.own b/\b≠x.k)/\y.length<=16):∃col',vE H0 F0 col' p dp F B s xs l kw w sw sl e j f g hs'/\∀b,b<A.size->col' b=col b:=by
 obtain⟨col',c1,c2⟩:=iI col A.size (λ_=>False) (λ_=>False) (λ_=>True) 1 1 1 (λ_ q=>q.elim) (λ_ q=>q.elim) λ_ q=>q.elim;have z:=h.rds.mod.size;have N:∀b,b<A.size->col b≠1->¬(ai hsl b\/ai isl b):=λb _ G q=>G (h.cH b q).1;refine⟨col',⟨h.rds.tP (h.rds.aj.ar λb d hl=>o.same b hl λq=>?_) o (λb d q=>by rw[(h.cH b q).1];decide) (λb d q=>by have:=(h.cH b q).2;omega) (λb q=>by rw[c1 b (h.rds.aj.lt b q)];exact h.rds.cF b q) (λb d _=>c1 b d),h.wr.mod o λb d q=>?_,λb d=>?_,hO,iO,λb d=>?_,λi y hi=>?_⟩,c1⟩
 ·have a:=(h.rds.cF b d).1;have c:=(h.cH b q).1;omega
 ·have:=(h.cW b d).1;have:=(h.cH b q).1;omega
 ·rw[c1 b (h.Pe b d)];exact h.cW b d
 ·rcases E b d with u|u
  ·have lt:b<A.size:=u.elim (λv=>h.hO.lt b v) λv=>h.iO.lt b v;rw[c1 b lt];exact h.cH b u
  ·exact⟨(c2 b u).2.2 trivial,by omega⟩
 ·obtain⟨r,x,I,C,J,D,L⟩:=row i y hi;refine⟨r,x,I,C,J.mod o λad M q=>?_,D,L⟩;obtain⟨O,a2⟩:=h.Js C (D _ ⟨ad,M,rfl⟩).1;have:=(h.cH _ q).1;omega
end
structure dP (hs:List (Option (List Int)))(i:Nat)(b:Option (Nat×List Int)):Prop where
 nn:b=none->∀j,j<i->∀y,hs[j]?≠some (some y)
 sm:∀k x,b=some (k,x)->k<i/\hs[k]?=some (some x)/\∀j,j<i->∀y,hs[j]?=some (some y)->aX x y<=0/\(j<k->aX x y<0)
theorem dP.zero (hs:List (Option (List Int))):dP hs 0 none:=⟨λ_ j a=>by omega,λk x h=>by cases h⟩
theorem dP.skip {hs:List (Option (List Int))}{i:Nat}{b:Option (Nat×List Int)}(h:dP hs i b)(hi:∀y,hs[i]?≠some (some y)):dP hs (i+1) b:=by
 refine⟨λe j c y=>?_,λk x e=>?_⟩
 ·rcases RA j i with q|q
  ·exact h.nn e j q y
  ·have:j=i:=by omega
   subst this;exact hi y
 ·obtain⟨h1,d,f⟩:=h.sm k x e;refine⟨by omega,d,λj c y a=>?_⟩;rcases RA j i with q|q
  ·exact f j q y a
  ·have:j=i:=by omega
   subst this;exact absurd a (hi y)
theorem dP.first {hs:List (Option (List Int))}{i:Nat}{y:List Int}(h:dP hs i none)(c:hs[i]?=some (some y)):dP hs (i+1) (some (i,y)):=by
 refine⟨λe=>(by cases e),λk x e=>?_⟩;cases e;refine⟨by omega,c,λj d z a=>?_⟩;rcases RA j i with q|q
 ·exact absurd a (h.nn rfl j q z)
 ·have:j=i:=by omega
  subst this;rw[c] at a;cases a;exact⟨by rw[gN];decide,λu=>by omega⟩
theorem dP.less {hs:List (Option (List Int))}{i k:Nat}{x y:List Int}(h:dP hs i (some (k,x)))(c:hs[i]?=some (some y))(d:aX y x<0):dP hs (i+1) (some (i,y)):=by
 obtain⟨h1,o,f⟩:=h.sm k x rfl;refine⟨λe=>(by cases e),λv x' e=>?_⟩;cases e;refine⟨by omega,c,λj C z a=>?_⟩;rcases RA j i with q|q
 ·have g:=(f j q z a).1;have:aX y z<0:=by
   rcases Int.lt_or_eq_of_le g with u|u
   ·exact fF d u
   ·rw[<-cr.1 u];exact d
  exact⟨by omega,λ_=>this⟩
 ·have:j=i:=by omega
  subst this;rw[c] at a;cases a;exact⟨by rw[gN];decide,λu=>by omega⟩
theorem dP.stay {hs:List (Option (List Int))}{i k:Nat}{x y:List Int}(h:dP hs i (some (k,x)))(c:hs[i]?=some (some y))(g:¬aX y x<0):dP hs (i+1) (some (k,x)):=by
 obtain⟨h1,d,f⟩:=h.sm k x rfl;refine⟨λe=>(by cases e),λo x' e=>?_⟩;cases e;refine⟨by omega,d,λj v z a=>?_⟩;rcases RA j i with q|q
 ·exact f j q z a
 ·have:j=i:=by omega
  subst this;rw[c] at a;cases a;have:=bZ y x;exact⟨by omega,λu=>by omega⟩
theorem dP.ky {hs:List (Option (List Int))}{b:Option (Nat×List Int)}(h:dP hs hs.length b):dU hs=b:=by
 cases e:dU hs with
 |none=>
   cases b with
   |none=>rfl
   |some q=>
     obtain⟨k,x⟩:=q;exact absurd (h.sm k x rfl).2.1 (kI e k x)
 |some q=>
   obtain⟨k,x⟩:=q;obtain⟨d,i⟩:=gW e;have hk:=(QJ.1 d).1;cases b with
   |none=>exact absurd d (h.nn rfl k hk x)
   |some q=>
     obtain⟨f,x'⟩:=q;obtain⟨h1,g,j⟩:=h.sm f x' rfl;have a:=i f x' g;have c:=j k hk x d;have sw:=bZ x x';rcases Ua k f with q|q|q
     ·have:=c.2 q;omega
     ·subst q;rw[d] at g;cases g;rfl
     ·have:=a.2 q;omega
end
section
open Go.MapKept
section
variable {H0 H A B:aa}{F0 F F':Nat->Prop}{col col':Nat->Nat}{p dp:Nat}{s s':Pl}{xs:List oh}{l:Sl}{kw:Nat}{w:RW}{sw sl hsl isl:Sl}{hd:List Sl}{isb:List Bool}{hs:List (Option (List Int))}{names:Sl}{ns:List ByteArray}{to:ByteArray}{W:Int}
set_option maxHeartbeats 1000000 in
theorem EM {x y:Nat}{h:(Option hY×Int)->aa->Prop}{o:(Sl×Int)->aa->Prop}(hp:ax F H p dp s)(hn:names.n=ns.length)(S:∀A,Mod F H A->bX kz A names.a ns)(J:∀n∈ns,n.size<=9223372036854775807)(b:Bd s x y)(hl:ns.length<=1000000)(d:x<900000000000)(hy:y<60000000000)
  (L:(bc W ns s).2.2≠0->∀F' A a,ax F' A p dp (bc W ns s).1->Step F F' H A->h (a,(bc W ns s).2.2) A)
  (T:(bc W ns s).2.2=0->∀F' A col xs l i,qH H F col p dp F' A (bc W ns s).1 xs l->xs.map (·.r)=(bc W ns s).2.1->xs.length=ns.length->o (l,i) A):
  ay (Sl×Int) ((Sl.mk none 0 0),(0:Int)) H λnext z H1=>br (decide (z.2<(names.n:Int))) (ae names.a λa=>(0<=z.2/\z.2<(names.n:Int))/\tb aN H1 (a.add (z.2.toNat*1)) λ(x:ByteArray)=>KX.sp (aK p) x W H1 λ(r:(Option hY×Int)) H2=>br (r.2!=(0:Int)) (h r H2) (aG H2 #[.pointer r.1] OF λU H3=>bf aq QH (QM #[ND,ND] ND #[z.1.v,.slice (some U) 1 1]) H3 λ(l:Sl) H4=>next (l,QI.wrap (z.2+(1:Int))) H4)) (o z H1):=by
 refine av ns.length (λi z A=>z.2=(i:Int)/\∃F' s' col xs,qH H F col p dp F' A s' xs z.1/\xs.length=i/\Bd s' (x+i) (y+i)/\
  bc W ns s=((bc W (ns.drop i) s').1,xs.map (·.r)++(bc W (ns.drop i) s').2.1,(bc W (ns.drop i) s').2.2)) ?_ ?_
 ·refine⟨rfl,F,s,λ_=>0,[],⟨hp,λi x d=>by simp at d,λx d=>(by cases d),aF.nil _ _ _,λb e=>⟨rfl,.inl e⟩,λi x d=>by simp at d,λb e=>absurd e (aU b),.refl _ _⟩,rfl,b,?_⟩;simp
 rintro i ⟨l,j⟩ A next hi ⟨P,F',s',col,xs,g,M,N,he⟩ D
 simp only at P;subst P;simp only;refine ah (λV=>?_) (λV=>?_)
 ·have f:i<ns.length:=by
   have:(i:Int)<(names.n:Int):=by simpa using V
   omega
  rw[Rw f] at he;have X:ns[i]?=some ns[i]:=QK f;refine bX.one (E:=kz) (c:=aN) (S A g.mod) hn rfl X rfl ?_;have q1:=N.lo;have q2:=N.hi;have q3:=N.aH;have Y:=N.open (n:=ns[i]) (W:=W) (by omega);have bl:=N.look (n:=ns[i]) (by omega) 0;have q4:=bl.aH;simp only[bc] at he;refine zp g.aj (J _ (Re f)) (by omega) (by omega) q1 (by omega) (λR B p1 O G=>?_) (λR B k r p1 O G r1 k1 k2=>?_)
  ·have I:=qh.1 G;rw[G] at he;simp only[Tl] at he;refine aR (by simpa using I) ?_;rw[he] at L;exact L I R B none p1 (g.step.trans O)
  ·have I:(rnOpen s' ns[i] W).2.2=0:=qh.2 (by rw[G];simp);rw[G] at he;simp only at he;rw[I];refine aE rfl ?_;obtain⟨ok,rb,_⟩:=jU G;have z1:=O.mod.size;obtain⟨col',c1,c2⟩:=iI col A.size R (λb=>b=k) (λb=>B.size<=b) 0 (5+i) 4 (λb q r=>k2 (r▸q)) (λb q r=>by have:=p1.lt b q;omega) (λb q r=>by have:=r1.lt b (.inl q);omega);have h1:=g.tP (col':=col') p1 O.mod (λb e q=>by rw[(g.cF b q).1];decide) (λb e q=>(g.cF b q).2.resolve_right (by omega)) (λb q=>by
    rcases O.own b q with u|u
    ·rw[c1 b (g.aj.lt b u)];exact g.cF b u
    ·exact⟨(c2 b u).1 q,.inr (by have:=g.mod.size;omega)⟩) λb e _=>c1 b e
   refine aF.push (E:=dW) (x:=k) OK h1.list rfl (by simp;omega) (by simp;omega) λl' C o3 g3 _=>?_;rw[aD i (by omega)];have off:∀b,ai l b->col' b=4:=λb e=>(h1.cL b e).1;have kr:Cv C k p r aY []:=r1.mod g3.1 λb e q=>by
    have hk:b=k:=by
     rcases e with u|u|⟨z,u,_⟩
     ·exact u
     ·exact absurd u (aU b)
     ·cases u
    have a:=h1.list.lt b q;have b4:=off b q;subst hk;have:=(c2 b k1).2.1 rfl;omega
   have hz:=h1.mod.size;refine D f (l',((i+1:Nat):Int)) C ⟨rfl,R,(rnOpen s' ns[i] W).1,col',xs++[⟨k,r,aY,[]⟩],⟨?_,λj x d=>?_,λx d=>?_,?_,λb e=>h1.cF b e,λj x d b e=>?_,λb e=>?_,?_⟩,?_,?_,?_⟩
   ·exact h1.aj.ar λb e f=>g3.1.same b f λq=>by have:=(h1.cF b e).1;have:=off b q;omega
   ·rw[TJ] at d;split at d
    ·exact(h1.rds j x d).mod g3.1 λb e q=>by have:=(h1.cR j x d b e).1;have:=off b q;omega
    ·rename_i q;have:j - xs.length=0:=by have:=(QJ.1 d).1;simp at this;omega
     rw[this] at d;simp at d;subst d;exact kr
   ·rcases QQ.1 d with q|q
    ·exact h1.oks x q
    ·rw[Q1] at q;subst q;exact⟨ok,by show r.b.name.size<=_;rw[rb];exact J _ (Re f)⟩
   ·rw[Rm];exact o3
   ·rw[TJ] at d;split at d
    ·exact h1.cR j x d b e
    ·rename_i q;have P:j - xs.length=0:=by have:=(QJ.1 d).1;simp at this;omega
     rw[P] at d;simp at d;subst d;have hk:b=k:=by
      rcases e with u|u|⟨z,u,_⟩
      ·exact u
      ·exact absurd u (aU b)
      ·cases u
     subst hk;have:=(c2 b k1).2.1 rfl;refine⟨by omega,by have:=g.mod.size;omega⟩
   ·rcases g3.2 b e with q|q
    ·exact h1.cL b q
    ·exact⟨(c2 b (by omega)).2.2 q,by omega⟩
   ·exact h1.mod.trans' g3.1 λb e q=>by have:=(h1.cL b q).2;omega
   ·simp;exact M
   ·exact Y.mono (by omega) (by omega)
   ·rw[he,Rm];simp
 ·have Z:i=ns.length:=by
   have:¬(i:Int)<(names.n:Int):=by simpa using V
   omega
  subst Z;rw[TV] at he;simp only[bc,Tl] at he;have I:(bc W ns s).2.2=0:=by rw[he]
  exact T I F' A col xs l _ (by rw[he];exact g) (by rw[he]) M
set_option maxHeartbeats 2000000 in
theorem Ei {u v:Nat}{J:(Sl×Bool×Int)->aa->Prop}{L:(Sl×Sl×Int)->aa->Prop}(h:vE H0 F0 col p dp F A s xs l kw w sw sl (Sl.mk none 0 0) [] (Sl.mk none 0 0) [] [])(b:Bd s u v)(hu:u<900000000000)(hv:v<60000000000)(hl:xs.length<=1000000)
  (an:(bp (xs.map (·.r)) s).2.2.2≠0->∀F' B r k,ax F' B p dp (bp (xs.map (·.r)) s).1->Step F0 F' H0 B->J (r,k,(bp (xs.map (·.r)) s).2.2.2) B)
  (a1:(bp (xs.map (·.r)) s).2.2.2=0->∀F' B col' a hsl hd isl isb hs i,vE H0 F0 col' p dp F' B (bp (xs.map (·.r)) s).1 a l kw w sw sl hsl hd isl isb hs->a.map (·.r)=(bp (xs.map (·.r)) s).2.1->hs=(bp (xs.map (·.r)) s).2.2.1->isb=hs.map WJ->hs.length=xs.length->hd.length=xs.length->a.length=xs.length->Bd (bp (xs.map (·.r)) s).1 (u+xs.length) (v+xs.length)->L (hsl,isl,i) B):
  ay (Sl×Sl×Int) ((Sl.mk none 0 0),(Sl.mk none 0 0),(0:Int)) A λg d H6=>br (decide (d.2.2<(l.n:Int))) (ae l.a λa6=>(0<=d.2.2/\d.2.2<(l.n:Int))/\tb aB H6 (a6.add (d.2.2.toNat*1)) λ(a7:Option hY)=>Ep.sp a7 H6 λ(o:(Sl×Bool×Int)) H7=>br (o.2.2!=(0:Int)) (J o H7) (aG H7 #[o.1.v] dv λa8 H8=>bf aq QH (QM #[dY,dY] dY #[d.1.v,.slice (some a8) 1 1]) H8 λ(lK:Sl) H9=>aG H9 #[.bool o.2.1] Nu λbb bh=>bf aq QH (QM #[Nh,Nh] Nh #[d.2.1.v,.slice (some bb) 1 1]) bh λ(is:Sl) bl=>g (lK,is,QI.wrap (d.2.2+(1:Int))) bl)) (L d H6):=by
 have bn:l.n=xs.length:=by rw[aF.n h.rds.list (by decide)];simp
 refine av xs.length (λi z B=>z.2.2=(i:Int)/\i<=xs.length/\∃F' col' s' a hd isb hs,vE H0 F0 col' p dp F' B s' a l kw w sw sl z.1 hd z.2.1 isb hs/\Bd s' (u+i) (v+i)/\isb=hs.map WJ/\hs.length=i/\hd.length=i/\a.length=xs.length/\a.drop i=xs.drop i/\
  bp (xs.map (·.r)) s=((bp ((xs.drop i).map (·.r)) s').1,(a.take i).map (·.r)++(bp ((xs.drop i).map (·.r)) s').2.1,hs++(bp ((xs.drop i).map (·.r)) s').2.2.1,(bp ((xs.drop i).map (·.r)) s').2.2.2))
  ⟨rfl,Q5 _,F,col,s,xs,[],[],[],h,b,rfl,rfl,rfl,rfl,rfl,by simp⟩ ?_
 rintro i ⟨hsl,isl,zi⟩ B next hi ⟨R,b0,F',col',s',a,hd,isb,hs,S,bd,G,T,U,V,X,he⟩ N
 simp only at R S ⊢;subst R;refine ah (λhc=>?_) λhc=>?_
 ·have O:i<xs.length:=by have:(i:Int)<(l.n:Int):=of_decide_eq_true hc;omega
  have M:i<a.length:=by omega
  have hx:a[i]?=some a[i]:=QK M;have bs:xs[i]=a[i]:=by
   have h1:=congrArg (λq=>q[0]?) X;simp only[Si,Ux] at h1;rw[hx,QK O] at h1;exact(Rc h1).symm
  rw[Rw O,Q7,bs] at he;simp only[bp] at he;refine bX.one (E:=dW) (c:=aB) (y:=aK a[i].k) S.rds.list.rd (by rw[bn];simp;omega) rfl (i:=i) (x:=a[i].k) (by rw[QV,hx];rfl) rfl ?_;have bx:=bd.next (r:=a[i].r) (by omega);refine S.next hx bd (by omega) (by omega) λF2 C bN x' row e q2 q3 q4 q5=>?_;by_cases Y:(a[i].r.next s').2.2.2.2=0
  ·rw[if_neg (by rw[Y];simp)] at he;refine aE (by rw[Y];rfl) ?_;rw[List.set_eq_of_length_le (l:=hs) (by omega)] at e;obtain⟨ok,_⟩:=S.rds.oks _ (Re M);have I:=RR.fC ok s';refine aF.push (E:=Iz) (x:=row) O2 e.hO rfl (by omega) (by omega) λZ D oD gD _=>?_;have zD:=gD.1.size;have af:aF MZ Nu D isl isb:=e.iO.mod gD.1 λb hb u=>e.iO.apart e.hO (by decide) b hb u;refine aF.push (E:=MZ) (x:=(a[i].r.next s').2.2.2.1) O7 af rfl (by rw[G];simp;omega) (by rw[G];simp;omega) λbO E oE gE _=>?_;have zE:=gE.1.size;have bA:aF Iz dv E Z (hd++[row]):=oD.mod gE.1 λb hb u=>by
    rcases gD.2 b hb with v|v
    ·exact e.iO.apart e.hO (by decide) b u v
    ·have:=af.lt b u;have b1:=e.iO.lt b u;omega
   have bB:Mod (λb=>ai hsl b\/ai isl b) C E:=(gD.1.mono λb _ u=>.inl u).trans' gE.1 λb _ u=>.inr u;obtain⟨al,q6,c3⟩:=e.lK (hs':=hs++[ez (a[i].r.next s').2.2.1 (a[i].r.next s').2.2.2.1]) bB bA oE (λb hb=>by
    rcases hb with u|u
    ·exact(gD.2 b u).imp .inl id
    ·exact(gE.2 b u).imp .inr λv=>by omega) λj y f=>by
    rcases RA j hs.length with v|v
    ·rw[Rf v] at f;obtain⟨r,x,P,e2,e3,e4,e5⟩:=e.row j y f;exact⟨r,x,by rw[Rf (by omega)];exact P,e2,e3,e4,e5⟩
    ·rw[RK v] at f;have j0:j - hs.length=0:=by have:=(QJ.1 f).1;simp at this;omega
     have bC:j=i:=by omega
     rw[j0] at f;simp only[List.getElem?_cons_zero,RH] at f;unfold ez at f;split at f
     ·rename_i bD;cases f;exact⟨row,x',by rw[RK (by omega),show j - hd.length=0 by omega];rfl,by rw[bC,RT (by omega)],q3,q4,(I.2.2.2.1 bD).2.2.2⟩
     ·cases f
   refine N O _ _ ⟨aD i (by omega),by omega,F2,al,_,a.set i x',hd++[row],isb++[(a[i].r.next s').2.2.2.1],hs++[ez (a[i].r.next s').2.2.1 (a[i].r.next s').2.2.2.1],q6,bx.mono (by omega) (by omega),?_,by simp[T],by simp[U],by simp[V],?_,?_⟩
   ·rw[G,Rm];congr 1;unfold ez;cases (a[i].r.next s').2.2.2.1<;>rfl
   ·rw[List.drop_set_of_lt (by omega)];have:=congrArg (List.drop 1) X;rw[TZ,TZ] at this;exact this
   ·rw[he,QO (by simp;omega),Rm];simp only[List.getElem_set_self,Q7,TD,RD,List.singleton_append,List.cons_append,SY];rw[List.take_set_of_le (QN i),q2]
  ·rw[if_pos Y] at he;refine aR (by simpa using Y) ?_;have P:(bp (xs.map (·.r)) s).2.2.2=(a[i].r.next s').2.2.2.2:=by rw[he]
   have e2:(bp (xs.map (·.r)) s).1=(a[i].r.next s').1:=by rw[he]
   rw[<-P];refine an (by rw[P];exact Y) F2 C row _ (by rw[e2];exact e.rds.aj) e.rds.step
 ·have bM:i=xs.length:=by have:¬(i:Int)<(l.n:Int):=of_decide_eq_false hc;omega
  subst bM;rw[TV] at he;simp only[TD,bp,Tl] at he;have P:(bp (xs.map (·.r)) s).1=s':=by rw[he]
  have e2:(bp (xs.map (·.r)) s).2.1=(a.take xs.length).map (·.r):=by rw[he]
  have e3:(bp (xs.map (·.r)) s).2.2.1=hs:=by rw[he]
  have e4:(bp (xs.map (·.r)) s).2.2.2=0:=by rw[he]
  refine a1 e4 F' B col' a hsl hd isl isb hs _ (by rw[P];exact S) (by rw[e2,QS (by omega)]) e3.symm G T U V (by rw[P];exact bd)
theorem Gt {v:(Int×Int)->aa->Prop}(h:vE H0 F0 col p dp F A s xs l kw w sw sl hsl hd isl isb hs)(J:isb=hs.map WJ)(hl:hs.length=xs.length)(an:hd.length=xs.length)(a1:xs.length<=1000000)
  (hK:∀z,(dU hs=none->z.1<0)->(∀k x,dU hs=some (k,x)->z.1=(k:Int)/\k<xs.length)->v z A):
  ay (Int×Int) ((-1:Int),(0:Int)) A λd a g=>br (decide (a.2<(l.n:Int))) (ae isl.a λN=>(0<=a.2/\a.2<(isl.n:Int))/\tb aC g (N.add (a.2.toNat*1)) λ(O:Bool)=>br (O==true) (br (decide (a.1<(0:Int))) (d (a.2,QI.wrap (a.2+(1:Int))) g) (ae hsl.a λP=>(0<=a.2/\a.2<(hsl.n:Int))/\tb aq g (P.add (a.2.toNat*1)) λ(R:Sl)=>ae hsl.a λS=>(0<=a.1/\a.1<(hsl.n:Int))/\tb aq g (S.add (a.1.toNat*1)) λ(T:Sl)=>BV.sp R T g λ(U:Int) L=>br (decide (U<(0:Int))) (d (a.2,QI.wrap (a.2+(1:Int))) L) (d (a.1,QI.wrap (a.2+(1:Int))) L))) (d (a.1,QI.wrap (a.2+(1:Int))) g)) (v a g):=by
 have a6:l.n=xs.length:=by rw[aF.n h.rds.list (by decide)];simp
 have a7:isl.n=isb.length:=aF.n h.iO (by decide);have a8:hsl.n=hd.length:=aF.n h.hO (by decide);have al:isb.length=xs.length:=by rw[J,Rg,hl]
 refine av xs.length (λi z B=>A=B/\z.2=(i:Int)/\i<=xs.length/\∃b,dP hs i b/\(b=none->z.1<0)/\∀k x,b=some (k,x)->z.1=(k:Int)) ⟨rfl,rfl,Q5 _,none,dP.zero hs,λ_=>by decide,λk x e=>by cases e⟩ ?_;rintro i ⟨zb,zi⟩ B next hi ⟨rfl,M,bb,b,C,j,o⟩ f
 simp only at M j o ⊢;subst M;refine ah (λV=>?_) λV=>?_
 ·have u:i<xs.length:=by have:(i:Int)<(l.n:Int):=of_decide_eq_true V;omega
  have D:i<hs.length:=by omega
  have I:=aD i (by omega);have X:isb[i]?=some (hs[i]).isSome:=by rw[J,QV,QK D];rfl
  refine bX.one (E:=MZ) (c:=aC) (y:=(hs[i]).isSome) h.iO.rd (by omega) rfl (i:=i) (x:=(hs[i]).isSome) X rfl ?_;cases hh:hs[i] with
  |none=>
    refine aE rfl ?_;rw[I];exact f u _ _ ⟨rfl,rfl,by omega,b,C.skip (λy G=>(by rw[QK D,hh] at G;cases G)),j,o⟩
  |some y=>
    have G:hs[i]?=some (some y):=by rw[QK D,hh]
    refine aR rfl ?_;obtain⟨r,x,r1,r2,r3,r4,r5⟩:=h.row i y G;cases hb:b with
    |none=>
      subst hb;refine aR (decide_eq_true (j rfl)) ?_;rw[I];exact f u _ _ ⟨rfl,rfl,by omega,some (i,y),C.first G,λe=>(by cases e),λk x e=>by cases e;rfl⟩
    |some q=>
      obtain⟨k,x0⟩:=q;subst hb;have Y:=o k x0 rfl;obtain⟨k1,k2,_⟩:=C.sm k x0 rfl;subst Y;refine aE (decide_eq_false (by omega)) ?_;obtain⟨rk,xk,s1,s2,s3,s4,s5⟩:=h.row k x0 k2;refine bX.one (E:=Iz) (c:=aq) (y:=r) h.hO.rd (by omega) rfl (i:=i) (x:=r) r1 rfl ?_;refine bX.one (E:=Iz) (c:=aq) (y:=rk) h.hO.rd (by omega) rfl (i:=k) (x:=rk) s1 rfl ?_;refine kj r3 s3 (by omega) ?_;rw[I];refine ah (λZ=>?_) λZ=>?_
      ·exact f u _ _ ⟨rfl,rfl,by omega,some (i,y),C.less G (of_decide_eq_true Z),λe=>(by cases e),λk x e=>by cases e;rfl⟩
      ·exact f u _ _ ⟨rfl,rfl,by omega,some (k,x0),C.stay G (of_decide_eq_false Z),λe=>(by cases e),λk x e=>by cases e;rfl⟩
 ·have af:i=xs.length:=by have:¬(i:Int)<(l.n:Int):=of_decide_eq_false V;omega
  subst af;rw[<-hl] at C;have e:=C.ky;refine hK _ (λe0=>j (e.symm.trans e0)) λk x e0=>?_;have I:=e.symm.trans e0;have:=(C.sm k x I).1;exact⟨o k x I,by omega⟩
end
end
section
open Go.MapKept
theorem aF.st1 {α:Type}{E:eZ α}{e:ic}{H:aa}{s:Sl}{l:List α}{K:aa->Prop}(h:aF E e H s l)(hs:E.size=1){i:Nat}{x y:α}{v:gp}(hi:l[i]?=some x)(d:jJ v=true)(f:E.enc y=[v])
  (g:∀H',aF E e H' s (l.set i y)->Mod (ai s) H H'->H'.size=H.size->K H'):ae s.a λa=>(0<=(i:Int)/\(i:Int)<(s.n:Int))/\tl H (a.add ((i:Int).toNat*1)) v K:=by
 have hl:=(QJ.1 hi).1;have o:=aF.n h (by omega);obtain⟨ad,c⟩:=h.rd.addr (by omega) (by omega);refine aZ ad c ⟨⟨by omega,by omega⟩,?_⟩;obtain⟨u,hu⟩:=List.length_eq_one_iff.1 ((E.len x).trans hs);have:=aF.st h c (j:=0) (n:=(i:Int).toNat*1) hi (by omega) d (by rw[f,hu];rfl) (by rw[hs,QP]) g;rw[add_add] at this;exact this
structure uX (H0:aa)(F0:Nat->Prop)(p dp:Nat)(A:aa)(l hsl isl:Sl)(kw:Nat)(to:ByteArray)(f0 u v:Nat)(res:Pl×Nat×Int)(f:Nat):Prop where
 ex:∃col F s xs w sw sl hd isb hs,vE H0 F0 col p dp F A s xs l kw w sw sl hsl hd isl isb hs/\isb=hs.map WJ/\hs.length=xs.length/\hd.length=xs.length/\xs.length<=1000000/\bT (xs.map (·.r))+gH hs<f/\res=gO f s (xs.map (·.r)) hs w/\nh w to (f0 - f)/\Bd s (u+2*(f0 - f)) (v+3*(f0 - f))/\f<=f0
section
variable {H A:aa}{F:Nat->Prop}{p dp:Nat}{s:Pl}{names l hsl isl:Sl}{ns:List ByteArray}{to:ByteArray}{W:Int}{kw f0 f u v:Nat}{res:Pl×Nat×Int}
set_option maxHeartbeats 4000000 in
theorem DY {K:(Int×Int)->aa->Prop}(a8:to.size<=9223372036854775807)(eB:f0<=20000000000)(hu:u+2*f0<990000000000)(hv:v+3*f0<68000000000)
  (h:uX H F p dp A l hsl isl kw to f0 u v res f)
  (hK:∀F' B,ax F' B p dp res.1->Step F F' H B->K ((res.2.1:Int),res.2.2) B):
  ay Unit () A λX _ b7=>ay (Int×Int) ((-1:Int),(0:Int)) b7 λL g G=>br (decide (g.2<(l.n:Int))) (ae isl.a λb9=>(0<=g.2/\g.2<(isl.n:Int))/\tb aC G (b9.add (g.2.toNat*1)) λ(cb:Bool)=>br (cb==true) (br (decide (g.1<(0:Int))) (L (g.2,QI.wrap (g.2+(1:Int))) G) (ae hsl.a λck=>(0<=g.2/\g.2<(hsl.n:Int))/\tb aq G (ck.add (g.2.toNat*1)) λ(cm:Sl)=>ae hsl.a λcx=>(0<=g.1/\g.1<(hsl.n:Int))/\tb aq G (cx.add (g.1.toNat*1)) λ(cy:Sl)=>BV.sp cm cy G λ(cz:Int) bb=>br (decide (cz<(0:Int))) (L (g.2,QI.wrap (g.2+(1:Int))) bb) (L (g.1,QI.wrap (g.2+(1:Int))) bb))) (L (g.1,QI.wrap (g.2+(1:Int))) G)) (br (decide (g.1<(0:Int))) (I0.sp (aK kw) G λ(bh:(Int×Int)) cB=>K (bh.1,bh.2) cB) (cut Unit (λJ=>ae (aK kw) λc0=>tb (ab .i64) G (c0.add 8) λ(c5:Int)=>br (c5==(0:Int)) (ae hsl.a λdc=>(0<=g.1/\g.1<(hsl.n:Int))/\tb aq G (dc.add (g.1.toNat*1)) λ(dk:Sl)=>CP.sp (aK kw) dk G λ(e:Int) bl=>br (e !=(0:Int)) (K ((0:Int),e) bl) (J () bl)) (ae hsl.a λdn=>(0<=g.1/\g.1<(hsl.n:Int))/\tb aq G (dn.add (g.1.toNat*1)) λ(dA:Sl)=>ae (aK kw) λdB=>tb aq G (dB.add 7) λ(dD:Sl)=>BV.sp dA dD G λ(dT:Int) a1=>br (dT !=(0:Int)) (ae hsl.a λeb=>(0<=g.1/\g.1<(hsl.n:Int))/\tb aq a1 (eb.add (g.1.toNat*1)) λ(ec:Sl)=>CP.sp (aK kw) ec a1 λ(bn:Int) bs=>br (bn !=(0:Int)) (K ((0:Int),bn) bs) (J () bs)) (J () a1))) λ(_:Unit) bx=>ae l.a λbA=>(0<=g.1/\g.1<(l.n:Int))/\tb aB bx (bA.add (g.1.toNat*1)) λ(bB:Option hY)=>Ep.sp bB bx λ(Y:(Sl×Bool×Int)) bC=>br (Y.2.2!=(0:Int)) (K ((0:Int),Y.2.2) bC) (ae hsl.a λbD=>(0<=g.1/\g.1<(hsl.n:Int))/\tl bC (bD.add (g.1.toNat*1)) Y.1.v λed=>ae isl.a λbM=>(0<=g.1/\g.1<(isl.n:Int))/\tl ed (bM.add (g.1.toNat*1)) (.bool Y.2.1) λee=>X () ee))):=by
 refine⟨Nat,λf _ A=>uX H F p dp A l hsl isl kw to f0 u v res f,λf=>f,⟨f,h⟩,?_⟩;rintro f _ A ⟨col,F',s',xs,w,sw,sl,hd,isb,hs,I,a6,hlen,bN,bO,hf,an,hw,bd,eC⟩;cases f with
 |zero=>exact absurd hf (Nat.not_lt_zero _)
 |succ f=>
 refine Gt I a6 hlen bN bO λz b0 b1=>?_;obtain⟨zb,zi⟩:=z;simp only at b0 b1 ⊢;have eg:hsl.n=hd.length:=aF.n I.hO (by decide);have eD:isl.n=isb.length:=aF.n I.iO (by decide);have ei:l.n=xs.length:=by rw[aF.n I.rds.list (by decide)];simp
 cases P:dU hs with
 |none=>
   refine aR (decide_eq_true (b0 P)) ?_;have er:res=((w.close s').1,(w.close s').2.2.1,(w.close s').2.2.2):=by
    rw[an];unfold gO;rw[P]
   rw[er] at hK;have U:=bd.lo;have q2:=bd.hi;have q3:=bd.aH;have o:=bd.out (w:=w) (by omega);have o1:=o.hi;have o2:=o.aH;refine wP I.wr I.rds.aj (λb P q=>by have:=(I.rds.cF b P).1;have:=(I.cW b q).1;omega) (by have:=hw.rows;omega) hw.width.1 (by rw[hw.name];exact a8) (by omega) (by omega) U bd.fit (by omega) (by omega) (λz d=>by have:=(Bd.leave ((o.bF (n:=w.b.name) (by omega) 0).set z 2 d) z).aH;omega) o.fit (λz d=>(Bd.leave ((o.bF (n:=w.b.name) (by omega) 0).set z 2 d) z).fit) λN eE C p2 w2 d2 S2=>?_;refine hK N C p2 ⟨I.rds.mod.trans' S2.mod λb P q=>?_,λb P=>?_⟩
   ·rcases q with r|r
    ·exact(I.rds.cF b r).2.resolve_right (by omega)
    ·exact(I.cW b r).2.resolve_right (by omega)
   ·rcases S2.own b (.inl P) with (r|r)|r
    ·exact(I.rds.cF b r).2
    ·exact(I.cW b r).2
    ·have:=I.rds.mod.size;exact .inr (by omega)
 |some q=>
   obtain⟨k,x⟩:=q;obtain⟨hz,hk⟩:=b1 k x P;subst hz;refine aE (decide_eq_false (by omega)) ?_;have b2:=(gW P).1;obtain⟨r,y,e1,e2,e3,e4,e5⟩:=I.row k x b2;have er:res=if (aV s' w x).2.2≠0 then ((aV s' w x).1,0,(aV s' w x).2.2)
    else if (y.r.next (aV s' w x).1).2.2.2.2≠0 then ((y.r.next (aV s' w x).1).1,0,(y.r.next (aV s' w x).1).2.2.2.2)
    else gO f (y.r.next (aV s' w x).1).1 ((xs.map (·.r)).set k (y.r.next (aV s' w x).1).2.1) (hs.set k (ez (y.r.next (aV s' w x).1).2.2.1 (y.r.next (aV s' w x).1).2.2.2.1)) (aV s' w x).2.1:=by
    have ej:(xs.map (·.r)).getD k default=y.r:=by rw[RY,QV,e2];rfl
    rw[an];show (match dU hs with|none=>_|some (i,x)=>_)=_;rw[P];simp only;rw[ej]
   have a7:∀{C:aa} {K':Sl->Prop},aF Iz dv C hsl hd->K' r->ae hsl.a λa=>(0<=(k:Int)/\(k:Int)<(hsl.n:Int))/\tb aq C (a.add ((k:Int).toNat*1)) K':=λ{C K'} hC ek=>bX.one (E:=Iz) (c:=aq) (y:=r) hC.rd eg rfl (i:=k) (x:=r) e1 rfl ek;refine⟨λ_ B=>(aV s' w x).2.2=0/\∃M N R S,vE H F M p dp N B (aV s' w x).1 xs l kw (aV s' w x).2.1 R S hsl hd isl isb hs/\nh (aV s' w x).2.1 to (f0 - f)/\Bd (aV s' w x).1 (u+2*(f0 - (f+1))+1) (v+3*(f0 - (f+1))+2),?_,?_⟩
   ·have added:∀(Kb:Int->aa->Prop),(aV s' w x)=w.add s' x->(∀B,(w.add s' x).2.2≠0->(∃N,ax N B p dp (w.add s' x).1/\Step F N H B)->Kb (w.add s' x).2.2 B)->
      (∀B,((aV s' w x).2.2=0/\∃M N R S,vE H F M p dp N B (aV s' w x).1 xs l kw (aV s' w x).2.1 R S hsl hd isl isb hs/\nh (aV s' w x).2.1 to (f0 - f)/\Bd (aV s' w x).1 (u+2*(f0 - (f+1))+1) (v+3*(f0 - (f+1))+2))->(w.add s' x).2.2=0->Kb (w.add s' x).2.2 B)->CP.sp (aK kw) r A Kb:=by
     intro Kb V k1 k2;refine I.add hw (by omega) a8 bd (by omega) (by omega) e5 e3 (λad ha q=>by have:=(I.Js e2 (e4 _ ⟨ad,ha,rfl⟩).1).1;have:=(I.cW _ q).1;omega) λN B M R S hB zB=>?_;by_cases O:(w.add s' x).2.2=0
     ·have ra:=hw.add s' x;refine k2 B ?_ O;rw[V];exact⟨O,M,N,R,S,hB,ra.1.mono (by omega),bd.add (by omega) _⟩
     ·exact k1 B O ⟨N,hB.rds.aj,hB.rds.step⟩
    have bad:∀B,(aV s' w x)=w.add s' x->(w.add s' x).2.2≠0->(∃N,ax N B p dp (w.add s' x).1/\Step F N H B)->K ((0:Int),(w.add s' x).2.2) B:=λB V O ⟨N,p2,S2⟩=>by
     have b3:=er;rw[V,if_pos O] at b3;rw[b3] at hK;exact hK N B p2 S2
    refine aZ ⟨kw,0,none⟩ rfl ?_;refine ao.ld (c:=ab .i64) (i:=8) (x:=(w.rows:Int)) I.wr.row (bP.tail (j:=3) rfl) ?_;by_cases Z:w.rows=0
    ·have V:aV s' w x=w.add s' x:=by unfold aV;rw[if_pos (.inl Z)]
     refine aR (by rw[Z];rfl) ?_;refine a7 I.hO ?_;exact added _ V (λB O q=>aR (by simpa using O) (bad B V O q)) λB hJ O=>aE (by rw[O];rfl) hJ
    ·refine aE (by simpa using Z) ?_;refine a7 I.hO ?_;refine aZ ⟨kw,0,none⟩ rfl ?_;refine ao.ld (c:=aq) (i:=7) (x:=sl) I.wr.row (bP.tail (j:=2) rfl) ?_;refine kj e3 I.wr.last.ints (by omega) ?_;by_cases T:aX x w.last=0
     ·have V:aV s' w x=(s',w,0):=by unfold aV;rw[if_neg (by rintro(q|q);exact Z q;exact q T)]
      refine aE (by rw[T];rfl) ?_;rw[V];exact⟨rfl,col,F',sw,sl,I,hw.mono (by omega),bd.mono (by omega) (by omega)⟩
     ·have V:aV s' w x=w.add s' x:=by unfold aV;rw[if_pos (.inr T)]
      refine aR (by simpa using T) ?_;refine a7 I.hO ?_;exact added _ V (λB O q=>aR (by simpa using O) (bad B V O q)) λB hJ O=>aE (by rw[O];rfl) hJ
   ·rintro _ B ⟨O,M,N,R,S,hB,en,b4⟩;rw[if_neg (by rw[O];simp)] at er;generalize aV s' w x=a at*;refine bX.one (E:=dW) (c:=aB) (y:=aK y.k) hB.rds.list.rd (by rw[ei];simp) rfl (i:=k) (x:=y.k) (by rw[QV,e2];rfl) rfl ?_;refine hB.next e2 b4 (by omega) (by omega) λF3 C eA y' row U q2 q3 q4 q5=>?_;by_cases e6:(y.r.next a.1).2.2.2.2=0
    ·rw[if_neg (by rw[e6];simp)] at er;refine aE (by rw[e6];rfl) ?_;have eo:=b4.next (r:=y.r) (by omega);have b5:k<hd.length:=by omega
     have ep:k<isb.length:=by rw[a6,Rg];omega
     have et:k<hs.length:=by omega
     refine aF.st1 (E:=Iz) (y:=row) U.hO rfl (QK b5) (by cases row;rfl) rfl λD oD mD zD=>?_;have eu:aF MZ Nu D isl isb:=U.iO.mod mD λb P u=>U.iO.apart U.hO (by decide) b P u;refine aF.st1 (E:=MZ) (y:=(y.r.next a.1).2.2.2.1) eu rfl (QK ep) rfl rfl λE oE mE zE=>?_;have ev:aF Iz dv E hsl (hd.set k row):=oD.mod mE λb P u=>U.iO.apart U.hO (by decide) b u P;have ew:Mod (λb=>ai hsl b\/ai isl b) C E:=(mD.mono λb _ u=>.inl u).trans' mE λb _ u=>.inr u;obtain⟨ok,_⟩:=hB.rds.oks y (QL e2);have af:=RR.fC ok a.1;obtain⟨b6,q6,c4⟩:=U.lK (hs':=hs.set k (ez (y.r.next a.1).2.2.1 (y.r.next a.1).2.2.2.1)) ew ev oE (λb P=>.inl P) λj yj hj=>by
      by_cases al:j=k
      ·subst al;rw[RT et] at hj;simp only[RH] at hj;unfold ez at hj;split at hj
       ·rename_i ey;cases hj;exact⟨row,y',RT b5,RT (by omega),q3,q4,(af.2.2.2.1 ey).2.2.2⟩
       ·cases hj
      ·rw[RO (Sg al)] at hj;obtain⟨r',x',g1,g2,g3,g4,g5⟩:=U.row j yj (by rw[RO (Sg al)];exact hj);exact⟨r',x',by rw[RO (Sg al)];exact g1,g2,g3,g4,g5⟩
     have c1:=nO (rs:=xs.map (·.r)) (i:=k) (r:=y.r) (r':=y'.r) (by rw[QV,e2];rfl);have c2:=nv (i:=k) (b:=ez (y.r.next a.1).2.2.1 (y.r.next a.1).2.2.2.1) b2;have c3:=RR.kY ok a.1;rw[q2] at c1;simp only[Option.isSome_some,if_true] at c2;refine⟨f,⟨b6,F3,_,xs.set k y',a.2.1,R,S,hd.set k row,isb.set k (y.r.next a.1).2.2.2.1,hs.set k (ez (y.r.next a.1).2.2.1 (y.r.next a.1).2.2.2.1),q6,?_,by simp;exact hlen,by simp;exact bN,by simp;exact bO,?_,?_,en,eo.mono (by omega) (by omega),by omega⟩,Us _⟩
     ·rw[a6,R9];congr 1;unfold ez;cases (y.r.next a.1).2.2.2.1<;>rfl
     ·rw[R9,q2];omega
     ·rw[er,R9,q2]
    ·rw[if_pos e6] at er;rw[er] at hK;exact aR (by simpa using e6) (hK F3 C U.rds.aj U.rds.step)
set_option maxHeartbeats 2000000 in
theorem qU {K:(Int×Int)->aa->Prop}{x y N:Nat}(hp:ax F H p dp s)(L:names.n=ns.length)(M:∀A,Mod F H A->bX kz A names.a ns)(O:∀n∈ns,n.size<=9223372036854775807)(o:to.size<=9223372036854775807)(b:Bd s x y)(hl:ns.length<=1000000)(hx:x<800000000000)(hy:y<50000000000)
  (hN:bT (bc W ns s).2.1<=N) (a1:N<=10000000000) (a6:x+2*N<900000000000) (a7:y+3*N<67000000000)
  (c:∀F' A,ax F' A p dp (cV s ns to W).1->Step F F' H A->K (((cV s ns to W).2.1:Int),(cV s ns to W).2.2) A):G7.sp (aK p) names to W H K:=by
 refine G7.of ?_;unfold G7.vc;refine aE rfl ?_;unfold cV at c;by_cases e:ns=[]
 ·rw[if_pos e] at c;refine aR (by rw[L,e];rfl) ?_;exact c F H hp (.refl _ _)
 rw[if_neg e] at c;have P:names.n≠0:=by rw[L];exact λq=>e (Ra q)
 refine aE (by simpa using P) ?_;have z:=wg (W:=W) b hl (by omega);refine EM (W:=W) hp L M O b hl (by omega) (by omega) (λR F1 A a p1 S1=>?_) (λR F1 A col xs l i g S hlen=>?_)
 ·rw[if_pos R] at c;exact c F1 A p1 S1
 rw[if_neg (by rw[R];simp)] at c;rw[<-S] at c hN;generalize (bc W ns s).1=s1 at*;have q1:=z.lo;have q2:=z.hi;have q3:=z.aH;have bM:=z.make (n:=to) (W:=W) (by omega);refine yR g.aj o (by omega) (by omega) q1 z.fit (λJ B p2 D E=>?_) (λJ B kw w p2 D E w2 k1 k2=>?_)
 ·have T:=iu.1 E;have em:mU (xs.map (·.r)) (bo s1 to W)=((bo s1 to W).1,0,(bo s1 to W).2.2):=by unfold mU;rw[E]
  rw[em] at c;exact aR (by simpa using T) (c J B p2 (g.step.trans D))
 obtain⟨T,hw,W0,U⟩:=iu.2 w E;subst hw;rw[wK E] at c;generalize (bo s1 to W).1=s2 at*;rw[T];refine aE rfl ?_;have zR:=g.mod.size;have zS:=D.mod.size;have V:∀b,dH kw aY aY b->b=kw:=by
  rintro b (q|q|q)
  ·exact q
  ·exact absurd q (aU b)
  ·exact absurd q (aU b)
 obtain⟨h,c1,c2⟩:=iI col A.size J (λb=>b=kw) (λ_=>False) 0 2 1 (λb q r=>k2 (r▸q)) (λb q r=>r) (λb q r=>r);have X:=g.tP (col':=h) p2 D.mod (λb j q=>by rw[(g.cF b q).1];decide) (λb j q=>(g.cF b q).2.resolve_right (by omega)) (λb q=>by
  rcases D.own b q with r|r
  ·rw[c1 b (g.aj.lt b r)];exact g.cF b r
  ·exact⟨(c2 b r).1 q,.inr (by omega)⟩) λb j _=>c1 b j
 have hM:vE H F h p dp J B s2 xs l kw (xD to W) aY aY (Sl.mk none 0 0) [] (Sl.mk none 0 0) [] []:=by
  refine⟨X,w2,λb j=>?_,aF.nil _ _ _,aF.nil _ _ _,λb j=>?_,λi y hi=>by simp at hi⟩
  ·have:=V b j;subst this;exact⟨(c2 b k1).2.1 rfl,.inr (by omega)⟩
  ·exact absurd j λq=>q.elim (aU b) (aU b)
 have G:xs.length<=1000000:=by omega
 refine Ei hM bM (by omega) (by omega) G (λY Z C r k p3 S3=>?_) λY Z C I d hsl hd isl isb hs i af h1 h2 h3 h4 h5 h6 b3=>?_
 ·unfold Bj at c;rw[if_pos Y] at c;exact c Z C p3 S3
 ·unfold Bj at c;rw[if_neg (by rw[Y];simp)] at c;have an:bT (d.map (·.r))+gH hs<=bT (xs.map (·.r)):=by
   rw[h1,h2];exact kW λr S=>by
    obtain⟨y,hy,rfl⟩:=QW.1 S;exact(g.oks y hy).1
  rw[<-h1,<-h2] at c;have al:uX H F p dp C l hsl isl kw to (bT (d.map (·.r))+gH hs+1) (x+2000002) (y+2000004) (gO (bT (d.map (·.r))+gH hs+1) (bp (xs.map (·.r)) s2).1 (d.map (·.r)) hs (xD to W)) (bT (d.map (·.r))+gH hs+1):=
   ⟨I,Z,_,d,xD to W,aY,aY,hd,isb,hs,af,h3,by rw[h4,h6],by rw[h5,h6],by rw[h6];exact G,Us _,rfl,by rw[Nat.sub_self];exact ym to W0 U,b3.mono (by omega) (by omega),QN _⟩
  exact DY o (by omega) (by omega) (by omega) al c
end
end
section
open Go.MapKept
section
variable {H:aa}{k p dp:Nat}{t:So}{sw ss:Sl}{rs:List Sl}{F:Nat->Prop}{s:Pl}
theorem CN {a:Option hY}{c lo n g i b:Nat}(h:ai (Sl.mk (cM a c lo 1) n i) b):ai (Sl.mk a g c) b:=by
 obtain⟨ad,d,e⟩:=h;have d:cM a c lo 1=some ad:=d;unfold cM at d;split at d
 ·exact⟨ad,d,e⟩
 ·cases a with
  |none=>cases d
  |some a0=>
    simp at d;exact⟨a0,rfl,by rw[<-e,<-d,dM]⟩
set_option maxHeartbeats 1000000 in
theorem vV {K:(Int×Int)->aa->Prop}{c x y N:Nat}{to:ByteArray}(hg:Gl H)(a6:¬cc k sw rs ss bt)(h:rK H k p t sw rs ss)(hp:aA F H p dp s)(dis:∀b,F b->¬cc k sw rs ss b)(hz:xq t)(Y:to.size<=9223372036854775807)(hc:c<=t.side.length)(b:Bd s x y)(Z:x+2*N<700000000000)(hy:y+3*N<40000000000)
  (hN:bT (bc t.width (t.side.take c) s).2.1<=N) (a7:N<=1000000000)
  (hK:∀F' P H',aA F' H' p dp (t.merge s c to).1->K6 H' k p (t.merge s c to).2.1 sw rs P->(∀b,ai P b->ai ss b)->Mod (λb=>F b\/b=k) H H'->(∀b,F' b->F b\/H.size<=b)->Bd (t.merge s c to).1 (x+2*N+3000) (y+3*N+9000)->K (((t.merge s c to).2.2.1:Int),(t.merge s c to).2.2.2) H'):I8.sp (aK k) (c:Int) to H K:=by
 refine I8.of ?_;unfold I8.vc;unfold aK;simp only[aw];have U:=h.rd.n;have af:=hp.fi;refine h.rd.row.ld (c:=aq) (i:=5) (x:=ss) rfl ?_;refine⟨⟨by omega,by omega⟩,?_⟩;simp only[QP,Wb,CK];refine h.rd.row.ld (c:=aB) (i:=0) (x:=aK p) rfl ?_;refine h.rd.row.ld (c:=ab .i64) (i:=2) (x:=t.width) rfl ?_;have a8:=hz.side;have R:(t.side.take c).length=c:=by rw[Ro];omega
 have oX:∀b,ai ss b->¬F b:=λb d q=>dis b q (.inr (.inr (.inr d)));have S:∀A,Mod F H A->bX kz A ss.a t.side:=λA m=>h.rd.names.ar λad V a=>m.same _ a λq=>oX _ ⟨ad,V,rfl⟩ q;refine zT (names:=Sl.mk ss.a c ss.c) hg hp R.symm (λA m=>(S A m).take) (λn U=>hz.sizes n (RU U)) Y b (by omega) (by omega) (by omega) hN (by omega) (by omega) (by omega) λF1 A p1 S1=>?_;have bM:=nE (to:=to) b (by omega) (by omega) hN p1.ag;unfold So.merge at hK;generalize cV s (t.side.take c) to t.width=m at*
 -- the side runs are dropped
 refine av c (λi z B=>z.2=(i:Int)/\∃F' s',aA F' B p dp s'/\Step F F' H B/\Bd s' (x+2*N+3000) (y+3*N+9000)/\gJ (t.side.take c) m=(if z.1≠0 then (s',z.1) else jF ((t.side.take c).drop i) s')) ⟨rfl,F1,m.1,p1,S1,bM,rfl⟩ ?_;rintro i ⟨e,j⟩ B next hi ⟨hj,F2,s2,p2,D,b2,G⟩ g
 simp only at hj;subst hj;simp only at G ⊢;have xC:ao B k xE (iM p t sw ss):=h.rd.row.mod D.mod λq=>dis k q (.inl rfl);have al:=hg.mod D.mod af;refine ah (λI=>?_) (λI=>?_)
 ·have a:i<c:=by
   have:(i:Int)<(c:Int):=by simpa using I
   omega
  have an:(t.side.take c)[i]?=some ((t.side.take c)[i]'(by omega)):=QK (by omega);have hd:(t.side.take c).drop i=(t.side.take c)[i]'(by omega)::(t.side.take c).drop (i+1):=Rw (by omega);rw[hd] at G;refine bX.one (E:=kz) (c:=aN) (s:=Sl.mk ss.a c ss.c) (S B D.mod).take R.symm rfl an rfl ?_;rw[aD i (by omega)];refine ah (λJ=>?_) (λJ=>?_)
  ·have X:e=0:=by simpa using J
   rw[if_neg (by rw[X];simp)] at G;refine xC.ld (c:=aB) (i:=0) (x:=aK p) rfl ?_;refine I6 al p2 λF3 C p3 S3=>?_;refine g a _ C ⟨rfl,F3,_,p3,D.trans S3,b2.c9,?_⟩;rw[G];rfl
  ·have X:e≠0:=by simpa using J
   rw[if_pos X] at G;refine g a _ B ⟨rfl,F2,s2,p2,D,b2,?_⟩;simp only;rw[if_pos X];exact G
 ·have a1:i=c:=by
   have:¬(i:Int)<(c:Int):=by simpa using I
   omega
  subst a1;have hd:(t.side.take i).drop i=[]:=RL (by omega);rw[hd] at G;have he:gJ (t.side.take i) m=(s2,e):=by
   rw[G];by_cases q:e≠0
   ·rw[if_pos q]
   ·rw[if_neg q];simp only[jF];rw[XO.1 q]
  rw[he] at hK;refine xC.ld (c:=aq) (i:=5) (x:=ss) rfl ?_;refine⟨⟨by omega,by omega⟩,?_⟩;refine ao.st xC (i:=5) (by simp[iM]) rfl λC rC mC zC=>?_;have L:Mod (λb=>F b\/b=k) H C:=(D.mod.mono λb _ q=>.inl q).trans' mC λb _ q=>.inr q;have T:¬F2 k:=λq=>(D.own k q).elim (λr=>dis k r (.inl rfl)) λr=>by have:=aI h.rd.row;omega
  have M:=h.oX;have O:=h.rd.j9;have o:∀b,cc k sw rs ss b->b≠k->¬(F b\/b=k):=λb d U q=>q.elim (λu=>dis b u d) U;refine hK F2 ⟨cM ss.a ss.c i 1,ss.n - i,ss.c - i⟩ C (p2.ar λb d a=>mC.same b a λq=>T (q▸d)) ⟨rC,?_,?_,⟨by show ss.n - i=(t.side.drop i).length;rw[RM];omega,by show ss.n - i<=ss.c - i;omega⟩,h.rd.iY⟩ (λb d=>CN d) L D.own b2
  ·exact h.rd.wait.mod L (λb d=>o b (.inr (.inl d)) λq=>O (q▸d)) λx Z b d=>o b (.inr (.inr (.inl ⟨x,Z,d⟩))) λq=>h.rd.jS x Z (q▸d)
  ·have r1:bX kz C ss.a t.side:=h.rd.names.ar λad V a=>L.same _ a (o ad.block (.inr (.inr (.inr ⟨ad,V,rfl⟩))) λq=>M (q▸⟨ad,V,rfl⟩));exact r1.drop (E:=kz) (by omega)
end
end
section
open Go.MapKept
theorem ak.pure {c:fg}{P:Program}{f:FuncId}{args:Array gp}{H:aa}{Q:Prop}(h:ak c P f args H λ_ _=>Q):Q:=by
 obtain⟨e,w',fr,⟨v,he,⟨x,_,q⟩,_⟩,_⟩:=h {(default:World) with heap:=H} rfl [];exact q
theorem yq {n room m:Nat}(a:0<room)(h:dr n room<=m):n<=room*m:=by
 unfold dr at h;rcases RA (room*m) n with q|q
 ·have h1:room*(m+1)<=n+room - 1:=by rw[Nat.mul_succ];omega
  have:=(Nat.le_div_iff_mul_le a).2 (by rw[Xb];exact h1);omega
 ·exact q
theorem rM {s:Pl}{n:ByteArray}{W:Int}{r:RR}(h:(rnOpen s n W).2.1=some r)(hw:(rnOpen s n W).1.d.WF):r.rows<=(aL W).toNat*1048576:=by
 obtain⟨a,c⟩:=de ⟨n,W,0,false⟩;simp only at a;unfold rnOpen at h hw;split at h
 ·cases h
 ·rename_i e;rw[if_neg e] at hw;split at h
  ·cases h
  ·rename_i h1;rw[if_neg h1] at hw;split at h
   ·cases h
   ·rename_i g;rw[if_neg g] at hw;split at h
    ·cases h
    ·rename_i i;rw[if_neg i] at hw;split at h
     ·rename_i j;rw[if_pos j] at hw;cases h;have:=Dk.kG hw n;simp only at this;exact yq (n:=(cp (eV ((s.look n 0).2.2.1.drop 1))).toNat) (m:=1048576) (by show 0<(aL W).toNat;omega) (by omega)
     ·cases h
section
variable {p dp:Nat}{W:Int}
theorem uF {x y:Nat}:∀{ns:List ByteArray} {s:Pl} {x y:Nat} {F:Nat->Prop} {A:aa},Gl A->aA F A p dp s->Bd s x y->x+ns.length<900000000000->y+ns.length<60000000000->(∀n∈ns,n.size<=9223372036854775807)->bT (bc W ns s).2.1<=ns.length*((aL W).toNat*1048576)
 |[],s,x,y,F,A,_,_,_,_,_,_=>by simp[bc,bT]
 |n::ns,s,x,y,F,A,a,c,b,h,i,hs=>by
   rw[Rr] at h i ⊢;have j:=b.lo;have z:=b.hi;have C:=b.aH;have ⟨F',B,g,o⟩:∃F' B,aA F' B p dp (rnOpen s n W).1/\Gl B:=ak.pure (H:=A) (pP (W:=W) a c (hs n Q9) (by omega) (by omega) j (λF' B p1 d _=>⟨F',B,p1,a.mod d.mod c.fi⟩) λF' B k r p1 d _ _ _ _=>⟨F',B,p1,a.mod d.mod c.fi⟩);simp only[bc];split
   ·simp[bT]
   ·rename_i r e;have h1:=rM e g.OT;have q:=uF (x:=x) (y:=y) (ns:=ns) o g (b.open (n:=n) (W:=W) (by omega)) (by omega) (by omega) λm hm=>hs m (Q8 _ hm);simp only[bT,Q7,RS] at q ⊢;rw[RQ];omega
end
def uw (p dp:Nat)(W:Int)(S N:Nat):Prop:=∀(F:Nat->Prop) (A:aa) (s:Pl) (x y:Nat) (l:List ByteArray),Gl A->aA F A p dp s->Bd s x y->x<800000000000->y<50000000000->l.length<=S->(∀n∈l,n.size<=9223372036854775807)->bT (bc W l s).2.1<=N
theorem LR {p dp S N:Nat}{W:Int}(d:S<=100000)(h:S*((aL W).toNat*1048576)<=N):uw p dp W S N:=λF A s x y l a c b e g hl hs=>
 QZ (QZ (uF (x:=x) (y:=y) a c b (by omega) (by omega) hs) (Rq _ hl)) h
end
section
open Go.MapKept
def So.jV (N:Nat):Nat->So->Pl->Prop
 |0,_,_=>True
 |f+1,t,s=>t.ag<=(t.side.length:Int)->bT (bc t.width (t.side.take (t.ag - 1).toNat) s).2.1<=N/\((t.round s).2.2.2=0->So.jV N f {(t.round s).2.1 with side:=t.side.drop (t.ag - 1).toNat++[bL t.name t.next]} (t.round s).1)
def So.FU (N:Nat)(r:Pl×So×Int):Prop:=r.2.2=0->bT (bc r.2.1.width (r.2.1.side.take r.2.1.side.length) r.1).2.1<=N
def So.FP (N:Nat)(r:Pl×So×Int):Prop:=r.2.2=0->r.2.1.jV N r.2.1.side.length r.1/\So.FU N (r.2.1.rounds r.2.1.side.length r.1)
section
variable {H:aa}{k p dp:Nat}{t:So}{sw ss:Sl}{rs:List Sl}{F:Nat->Prop}{s:Pl}
theorem AQ {sl:Sl}{l:List ByteArray}{K:Sl->aa->Prop}(h:bX kz H sl.a l)(j:sl.n=l.length)(hl:l.length<=1000000)
  (i:∀s' H',aF kz dG H' s' l->Ext H H'->(∀b,ai s' b->H.size<=b)->K s' H'):LH.sp sl H K:=by
 refine LH.of ?_;unfold LH.vc;refine ah (λa=>?_) (λa=>?_)
 ·have:l=[]:=by
   cases l with
   |nil=>rfl
   |cons x r=>
     obtain⟨ad,o⟩:=h.addr (by decide) (by simp);rw[o] at a;cases a
  subst this;exact i _ H (aF.nil _ _ _) (.refl _ _) (by rintro b ⟨ad,q,_⟩;cases q)
 ·refine au λH1 s1 y m1=>?_;have z:aF kz dG H1 (Sl.mk (some ⟨H.size,0,none⟩) 0 0) []:=⟨rfl,.inr ⟨H.size,0,#[],rfl,Q5 _,y,QN _,by unfold maxLen;omega,rfl,rfl⟩⟩;have h1:bX kz H1 sl.a l:=h.ar λad _ c=>m1.same _ c id;refine aF.append (E:=kz) (s:=Sl.mk (some ⟨H.size,0,none⟩) 0 0) (x:=sl) (l:=[]) (r:=l) BG z h1 j (by simp;omega) (by simp;omega) λs' H' C g' _=>?_;refine i s' H' (by simpa using C) ⟨QZ m1.size g'.1.size,λb d _=>(g'.1.same b (by omega) (by rintro⟨ad,e,g⟩;cases e;have:H.size=b:=g;omega)).trans (m1.same b d id)⟩ λb d=>?_;rcases g'.2 b d with ⟨ad,e,g⟩|q
  ·cases e;have:H.size=b:=g;omega
  ·omega
theorem nV {a:Sl}{b:Nat}(h:cc k sw rs a b)(hs:∀b,ai a b->ai ss b):cc k sw rs ss b:=by
 rcases h with q|q|q|q
 ·exact .inl q
 ·exact .inr (.inl q)
 ·exact .inr (.inr (.inl q))
 ·exact .inr (.inr (.inr (hs b q)))
set_option maxRecDepth 100000 in
set_option maxHeartbeats 2000000 in
theorem Mx {K:(Int×Int)->aa->Prop}{x y N R:Nat}(hg:Gl H)(a6:¬cc k sw rs ss bt)(h:rK H k p t sw rs ss)(hp:aA F H p dp s)(dis:∀b,F b->¬cc k sw rs ss b)(hz:xq t)(cy:t.next+t.side.length+2<=100)(cz:3<=t.ag)(b:Bd s x y)(hR:t.side.length+2<=R)(cB:N<=1000000000)(hx:x+400010+R*(2*N+3000)<=600000000000)(hy:y+805000+R*(3*N+9000)<=39000000000)
  (hle:So.FP N (t.first s)\/uw p dp t.width (t.side.length+1) N)
  (U:∀F' g j d H',aA F' H' p dp (So.goes (t.first s)).1->K6 H' k p (So.goes (t.first s)).2.1 g j d->(∀b,F' b->¬cc k g j d b)->Step (λb=>F b\/cc k sw rs ss b) (λb=>F' b\/cc k g j d b) H H'->Bd (So.goes (t.first s)).1 (x+400010+R*(2*N+3000)) (y+805000+R*(3*N+9000))->K (((So.goes (t.first s)).2.2.1:Int),(So.goes (t.first s)).2.2.2) H'):LI.sp (aK k) H K:=by
 refine LI.of ?_;unfold LI.vc;unfold aK;simp only[aw];have b0:=hg.lt;have bn:=h.rd.wait.n;refine⟨λ_ B=>(t.first s).2.2=0/\∃F' g j d,aA F' B p dp (t.first s).1/\rK B k p (t.first s).2.1 g j d/\(∀b,F' b->¬cc k g j d b)/\Step (λb=>F b\/cc k sw rs ss b) (λb=>F' b\/cc k g j d b) H B/\Bd (t.first s).1 (x+400010) (y+805000)/\xq (t.first s).2.1/\(t.first s).2.1.next+(t.first s).2.1.side.length<=100/\(t.first s).2.1.ag=t.ag/\(t.first s).2.1.side.length<=t.side.length+1/\(t.first s).2.1.width=t.width,?_,?_⟩
 ·have aside:∀(Kb:Int->aa->Prop),(t.wait≠[]\/t.side=[])->(∀e B,e≠0->K (0,e) B->Kb e B)->(∀B,((t.first s).2.2=0/\∃F' g j d,aA F' B p dp (t.first s).1/\rK B k p (t.first s).2.1 g j d/\(∀b,F' b->¬cc k g j d b)/\Step (λb=>F b\/cc k sw rs ss b) (λb=>F' b\/cc k g j d b) H B/\Bd (t.first s).1 (x+400010) (y+805000)/\xq (t.first s).2.1/\(t.first s).2.1.next+(t.first s).2.1.side.length<=100/\(t.first s).2.1.ag=t.ag/\(t.first s).2.1.side.length<=t.side.length+1/\(t.first s).2.1.width=t.width)->Kb 0 B)->
    Ic.sp (some ⟨k,0,none⟩) H Kb:=λKb T k1 k2=>by
   have ef:t.first s=t.aside s:=if_pos T;rw[ef] at U k2;refine yE hg a6 h hp dis hz b (by omega) (by omega) λF' d B pB O dB L=>?_;have c0:=jg t.wait;have hw:=hz.wait;have bd:Bd (t.aside s).1 (x+400010) (y+805000):=(tT b (by omega) pB.ag).mono (by omega) (by omega);by_cases X:(t.aside s).2.2=0
   ·rw[X];refine k2 B ⟨X,F',aY,[],d,pB,O,dB,L,bd,⟨hz.name,Q5 _,?_,λn V=>?_,?_,hz.ag⟩,?_,rfl,?_,rfl⟩
    ·show (t.side++[_]).length<=1000;simp;omega
    ·rcases QQ.1 (show n∈t.side++[bL t.name t.next] from V) with u|u
     ·exact hz.sizes n u
     ·rw[Q1] at u;subst u;have:=cU hz.next;have:=hz.name;rw[eL];omega
    ·show t.next+1<100;omega
    ·show t.next+1+(t.side++[_]).length<=100;simp;omega
    ·show (t.side++[_]).length<=t.side.length+1;simp
   ·unfold So.goes at U;rw[if_pos X] at U;exact k1 _ B X (U F' aY [] d B pB O.rd dB L (bd.mono (by omega) (by omega)))
  refine h.rd.row.ld (c:=aq) (i:=4) (x:=sw) rfl ?_;refine ah (λT=>?_) (λT=>?_)
  ·have hw:t.wait≠[]:=λq=>by rw[q] at bn;rw[bn] at T;simp at T
   exact aside _ (.inl hw) (λe B X q=>aR (by simpa using X) q) λB q=>aE rfl q
  ·have hw:t.wait=[]:=by
    have:¬(sw.n:Int)>0:=by simpa using T
    exact Ra (by omega)
   refine h.rd.row.ld (c:=aq) (i:=5) (x:=ss) rfl ?_;have V:=h.rd.n.1;refine ah (λT=>?_) (λT=>?_)
   ·have hs:t.side=[]:=by
     have:(ss.n:Int)=0:=by simpa using T
     exact Ra (by omega)
    exact aside _ (.inr hs) (λe B X q=>aR (by simpa using X) q) λB q=>aE rfl q
   ·have hs:t.side≠[]:=λq=>by rw[q] at V;rw[V] at T;simp at T
    have ef:t.first s=(s,t,0):=if_neg (by rintro(q|q);exact q hw;exact hs q);rw[ef];exact⟨rfl,F,sw,rs,ss,hp,h,dis,.refl _ _,b.mono (by omega) (by omega),hz,by show t.next+t.side.length<=100;omega,rfl,RB _,rfl⟩
 ·rintro _ A ⟨X,F1,b1,b2,b3,pA,sA,dA,SA,bA,zA,nA,fA,lA,wA⟩;have Y:((t.first s).2.1.jV N (t.first s).2.1.side.length (t.first s).1/\So.FU N ((t.first s).2.1.rounds (t.first s).2.1.side.length (t.first s).1))\/uw p dp t.width (t.side.length+1) N:=hle.imp (λh=>h X) id;have eg:So.goes (t.first s)=So.last ((t.first s).2.1.rounds (t.first s).2.1.side.length (t.first s).1):=if_neg (by rw[X];simp);rw[eg] at U;generalize hl:(t.first s).2.1.side.length=f0 at*;have b4:(t.first s).2.1.side.length<=f0:=W7 hl;have bs:f0+1<=R:=by omega
  generalize (t.first s).2.1=t1 at*;generalize (t.first s).1=s1 at*;have hmul:(f0+1)*(2*N+3000)<=R*(2*N+3000):=Rq _ bs;have a7:(f0+1)*(3*N+9000)<=R*(3*N+9000):=Rq _ bs;rw[RQ] at hmul a7;have bC:t1.jV N f0 s1\/uw p dp t.width (t.side.length+1) N:=Y.imp And.left id;refine⟨Nat,λf _ B=>∃F' g j d t' s' xx yy,aA F' B p dp s'/\rK B k p t' g j d/\(∀b,F' b->¬cc k g j d b)/\Step (λb=>F b\/cc k sw rs ss b) (λb=>F' b\/cc k g j d b) H B/\Bd s' xx yy/\xx+f*(2*N+3000)<=x+400010+f0*(2*N+3000)/\yy+f*(3*N+9000)<=y+805000+f0*(3*N+9000)/\xq t'/\t'.next+t'.side.length<=100/\t'.ag=t.ag/\t'.side.length<=f/\f<=f0/\t'.width=t.width/\t1.rounds f0 s1=t'.rounds f s'/\(t'.jV N f s'\/uw p dp t.width (t.side.length+1) N),λf=>f,
   ⟨f0,F1,b1,b2,b3,t1,s1,x+400010,y+805000,pA,sA,dA,SA,bA,QN _,QN _,zA,by rw[hl];exact nA,fA,b4,QN _,wA,rfl,bC⟩,?_⟩
  rintro f _ B ⟨F2,o,z,P,t2,s2,xx,yy,pB,O,dB,L,bB,bx,b5,J,nB,fB,lB,ff,wB,eB,bM⟩;have Z:Gl B:=hg.ar (L.mod.same _ b0 λq=>q.elim hp.fi a6);have af:¬cc k o z P bt:=λq=>by
   rcases L.own _ (.inr q) with u|u
   ·exact u.elim hp.fi a6
   ·omega
  have b6:=O.rd.n.1;refine O.rd.row.ld (c:=aq) (i:=5) (x:=P) rfl ?_;refine O.rd.row.ld (c:=ab .i64) (i:=3) (x:=t2.ag) rfl ?_;refine ah (λT=>?_) (λT=>?_)
  ·have a8:t2.ag<=(t2.side.length:Int):=by
    have:(P.n:Int)>=t2.ag:=by simpa using T
    omega
   cases f with
   |zero=>exact absurd lB (by omega)
   |succ f=>
   rw[RQ] at bx b5;have b7:bT (bc t2.width (t2.side.take (t2.ag - 1).toNat) s2).2.1<=N:=bM.elim (λh=>(h a8).1) λh=>by
    rw[wB];exact h F2 B s2 xx yy _ Z pB bB (by omega) (by omega) (by rw[Ro];omega) λn V=>J.sizes n (RU V)
   have b9:(t2.round s2).2.2.2=0->So.jV N f {(t2.round s2).2.1 with side:=t2.side.drop (t2.ag - 1).toNat++[bL t2.name t2.next]} (t2.round s2).1\/uw p dp t.width (t.side.length+1) N:=λe=>bM.imp (λh=>(h a8).2 e) id;have er:t2.rounds (f+1) s2=if (t2.round s2).2.2.2≠0 then ((t2.round s2).1,(t2.round s2).2.1,(t2.round s2).2.2.2) else So.rounds f {(t2.round s2).2.1 with side:=t2.side.drop (t2.ag - 1).toNat++[bL t2.name t2.next]} (t2.round s2).1:=if_pos a8
   have c3:t2.next<98:=by omega
   refine sF O.rd.row (by omega) J.name λC rC mC zC=>?_;have bN:¬F2 k:=λq=>dB k q (.inl rfl);have bb:=O.rd.j9;have bh:=O.oX;have sC:rK C k p (t2.to (t2.next+1)) o z P:=.mk' rC (O.rd.wait.mod mC (λb a q=>bb (q▸a)) λx hx b a q=>O.rd.jS x hx (q▸a)) (O.side.mod mC λb a q=>bh (q▸a)) O.rd.iY;have pC:aA F2 C p dp s2:=pB.ar λb a al=>mC.same b al λq=>bN (q▸a);have gC:Gl C:=Z.ar (mC.same _ Z.lt λq=>af (.inl q));refine rC.ld (c:=ab .i64) (i:=3) (x:=t2.ag) rfl ?_;have hf:=J.ag;have ec:QI.wrap (t2.ag - 1)=(((t2.ag - 1).toNat:Nat):Int):=by rw[wrap64 (by omega) (by omega)];omega
   rw[ec];have cb:xq (t2.to (t2.next+1)):=⟨J.name,J.wait,J.side,J.sizes,by show t2.next+1<100;omega,J.ag⟩;refine vV (t:=t2.to (t2.next+1)) (c:=(t2.ag - 1).toNat) gC af sC pC dB cb (by have:=cU J.next;have:=J.name;rw[eL];omega) (by show (t2.ag - 1).toNat<=t2.side.length;omega) bB (by omega) (by omega) b7 (by omega) λF3 M D pD sD oD mD wD bD=>?_;have em:(t2.to (t2.next+1)).merge s2 (t2.ag - 1).toNat (bL t2.name t2.next)=t2.round s2:=rfl;rw[em] at pD sD bD ⊢;have c4:=mC.size;have SD:Step (λb=>F2 b\/cc k o z P b) (λb=>F3 b\/cc k o z M b) B D:=by
    refine⟨(mC.mono λb _ q=>.inr (.inl q)).trans' mD λb _ q=>q.elim .inl λu=>.inr (.inl u),λb a=>?_⟩;rcases a with u|u
    ·rcases wD b u with v|v
     ·exact .inl (.inl v)
     ·exact .inr (by omega)
    ·exact .inl (.inr (nV u oD))
   have dD:∀b,F3 b->¬cc k o z M b:=λb a q=>by
    have q2:=nV q oD;rcases wD b a with v|v
    ·exact dB b v q2
    ·have:=sC.lt b q2;omega
   by_cases ee:(t2.round s2).2.2.2=0
   ·rw[if_neg (by rw[ee];simp)] at er;refine aE (by rw[ee];rfl) ?_;have e3:(t2.round s2).2.1={t2.to (t2.next+1) with side:=t2.side.drop (t2.ag - 1).toNat}:=rfl;have S:K6 D k p {t2.to (t2.next+1) with side:=t2.side.drop (t2.ag - 1).toNat} o z M:=sD;refine S.row.ld (c:=aq) (i:=5) (x:=M) rfl ?_;have hsl:=J.side;refine AQ S.names S.n.1 (by show (t2.side.drop _).length<=_;rw[RM];omega) λck E oE eE fE=>?_;refine aF.push (E:=kz) (x:=bL t2.name t2.next) BG oE rfl (by show (t2.side.drop _).length+1<=_;rw[RM];omega) (by show ((t2.side.drop _).length+1)*_<=_;rw[RM];omega) λan G oG gG _=>?_;have kD:=aI S.row;have k5:¬ai an k:=λq=>by
     rcases gG.2 k q with u|u
     ·have:=fE k u;omega
     ·have:=eE.size;omega
    have k4:¬ai ck k:=λq=>by have:=fE k q;omega
    have rG:ao G k xE (iM p {t2.to (t2.next+1) with side:=t2.side.drop (t2.ag - 1).toNat} o M):=(S.row.ext eE).mod gG.1 k4;refine ao.st rG (i:=5) (by simp[iM]) rfl λI rI mI zI=>?_;have zE:=eE.size;have zG:=gG.1.size;have bl:Mod (λb=>b=k) D I:=by
     refine⟨by have:=mI.size;omega,λb a V=>?_⟩;rw[mI.same b (by omega) V,gG.1.same b (by omega) (λq=>by have:=fE b q;omega),eE.same b a id]
    have a1:∀b,ai an b->D.size<=b:=λb a=>by
     rcases gG.2 b a with u|u
     ·exact fE b u
     ·omega
    have sI:rK I k p {(t2.round s2).2.1 with side:=t2.side.drop (t2.ag - 1).toNat++[bL t2.name t2.next]} o z an:=by
     refine .mk' rI ?_ (oG.mod mI λb a q=>k5 (q▸a)) O.rd.iY;exact S.wait.mod bl (λb a q=>S.j9 (q▸a)) λx hx b a q=>S.jS x hx (q▸a)
    have bO:¬F3 k:=λq=>dD k q (.inl rfl);have z3:=mD.size;refine⟨f,⟨F3,o,z,an,_,(t2.round s2).1,xx+2*N+3000,yy+3*N+9000,pD.ar λb a al=>bl.same b al λq=>bO (q▸a),sI,λb a q=>?_,?_,bD,by omega,by omega,⟨J.name,J.wait,?_,λn V=>?_,by show t2.next+1<100;omega,J.ag⟩,?_,fB,?_,by omega,wB,?_,b9 ee⟩,Us _⟩
    ·rcases q with u|u|u|u
     ·exact dD b a (.inl u)
     ·exact dD b a (.inr (.inl u))
     ·exact dD b a (.inr (.inr (.inl u)))
     ·have:=a1 b u;have:=pD.lt b a;omega
    ·have cm:=L.mod.size;refine⟨(L.mod.trans' SD.mod λb a q=>?_).trans' bl λb a q=>?_,λb a=>?_⟩
     ·rcases L.own b q with u|u
      ·exact u
      ·omega
     ·rcases L.own b (.inr (.inl q)) with u|u
      ·exact u
      ·omega
     ·have up:∀b,(F3 b\/cc k o z M b)->(F b\/cc k sw rs ss b)\/H.size<=b:=λb a=>by
       rcases SD.own b a with u|u
       ·exact L.own b u
       ·exact .inr (by omega)
      rcases a with u|u|u|u|u
      ·exact up b (.inl u)
      ·exact up b (.inr (.inl u))
      ·exact up b (.inr (.inr (.inl u)))
      ·exact up b (.inr (.inr (.inr (.inl u))))
      ·exact .inr (by have:=a1 b u;omega)
    ·show (t2.side.drop _++[_]).length<=1000;simp;omega
    ·rcases QQ.1 (show n∈t2.side.drop (t2.ag - 1).toNat++[bL t2.name t2.next] from V) with u|u
     ·exact J.sizes n (TI u)
     ·rw[Q1] at u;subst u;have:=cU J.next;have:=J.name;rw[eL];omega
    ·show t2.next+1+(t2.side.drop _++[_]).length<=100;simp;omega
    ·show (t2.side.drop _++[_]).length<=f;simp;omega
    ·rw[eB,er]
   ·rw[if_pos ee] at er;rw[eB,er] at U;unfold So.last at U;rw[if_pos ee] at U;refine aR (by simpa using ee) (U F3 o z M D pD sD dD ⟨L.mod.trans' SD.mod λb a q=>(L.own b q).resolve_right (by omega),λb a=>?_⟩ (bD.mono (by omega) (by omega)));rcases SD.own b a with u|u
    ·exact L.own b u
    ·have:=L.mod.size;exact .inr (by omega)
  ·have al:¬t2.ag<=(t2.side.length:Int):=by
    have:¬(P.n:Int)>=t2.ag:=by simpa using T
    omega
   have er:t2.rounds f s2=(s2,t2,0):=by
    cases f with
    |zero=>rfl
    |succ f=>exact if_neg al
   rw[eB,er] at U Y;have cx:bT (bc t2.width (t2.side.take t2.side.length) s2).2.1<=N:=Y.elim (λh=>h.2 rfl) λh=>by
    rw[wB];exact h F2 B s2 xx yy _ Z pB bB (by omega) (by omega) (by rw[Ro];omega) λn V=>J.sizes n (RU V)
   unfold So.last at U;rw[if_neg (by simp)] at U;refine O.rd.row.ld (c:=aq) (i:=5) (x:=P) rfl ?_;refine O.rd.row.ld (c:=aN) (i:=1) (x:=t2.name) rfl ?_;rw[b6];have:0<=f*(2*N+3000):=Q5 _;have:0<=f*(3*N+9000):=Q5 _;refine vV (c:=t2.side.length) Z af O pB dB J (by have:=J.name;omega) (QN _) bB (by omega) (by omega) cx (by omega) λF3 M D pD sD oD mD wD bD=>?_;have cm:=L.mod.size;refine U F3 o z M D pD sD (λb a q=>?_) ⟨L.mod.trans' mD λb a q=>?_,λb a=>?_⟩ (bD.mono (by omega) (by omega))
   ·have q2:=nV q oD;rcases wD b a with v|v
    ·exact dB b v q2
    ·have:=O.lt b q2;omega
   ·have:F2 b\/cc k o z P b:=q.elim .inl λu=>.inr (.inl u);exact(L.own b this).resolve_right (by omega)
   ·rcases a with u|u
    ·rcases wD b u with v|v
     ·exact L.own b (.inl v)
     ·exact .inr (by omega)
    ·exact L.own b (.inr (nV u oD))
set_option maxRecDepth 100000 in
theorem Gh {K:(Int×Int)->aa->Prop}{x y N R:Nat}(hg:Gl H)(G:¬cc k sw rs ss bt)(h:rK H k p t sw rs ss)(X:aA F H p dp s)(dis:∀b,F b->¬cc k sw rs ss b)(hz:xq t)(C:t.next+t.side.length+2<=100)(I:3<=t.ag)(b:Bd s x y)(hR:t.side.length+2<=R)(J:N<=1000000000)(hx:x+400010+R*(2*N+3000)<=600000000000)(hy:y+805000+R*(3*N+9000)<=39000000000)
  (hle:t.ready=0->So.FP N (t.first s)\/uw p dp t.width (t.side.length+1) N)
  (a:∀F' c D d H',aA F' H' p dp (t.done s).1->ao H' k xE (iM p (t.done s).2.1 c d)->(∀b,F' b->¬cc k c D d b)->Step (λb=>F b\/cc k sw rs ss b) (λb=>F' b\/cc k c D d b) H H'->Bd (t.done s).1 (x+400010+R*(2*N+3000)) (y+805000+R*(3*N+9000))->K (((t.done s).2.2.1:Int),(t.done s).2.2.2) H'):vU.sp (aK k) H K:=by
 refine vU.of ?_;unfold vU.vc;refine kU h.rd.row ?_;unfold So.done at a;refine ah (λe=>?_) (λe=>?_)
 ·rw[if_pos (by simpa using e)] at a;exact a F sw rs ss H X h.rd.row dis (.refl _ _) (b.mono (QZ (SP x 400010) (SP _ _)) (QZ (SP y 805000) (SP _ _)))
 have Y:¬t.ready≠0:=by simpa using e
 rw[if_neg Y] at a;refine Mx hg G h X dis hz C I b hR J hx hy (hle (XO.1 Y)) λE g j o A pA Z L M bA=>?_;unfold aK;simp only[aw];unfold So.ends at a;have go:∀(B:aa),Mod (λb=>b=k) A B->B.size=A.size->aA E B p dp (So.goes (t.first s)).1/\Step (λb=>F b\/cc k sw rs ss b) (λb=>E b\/cc k g j o b) H B:=λB m z=>
  ⟨pA.ar λb hb O=>m.same b O λq=>L b hb (.inl q),⟨M.mod.trans' m λb hb q=>(M.own b (.inr (.inl q))).resolve_right (by omega),M.own⟩⟩
 refine ah (λe=>?_) (λe=>?_)
 ·rw[if_pos (by simpa using e)] at a;refine ao.st Z.row (i:=7) (by simp[iM]) rfl λB P S T=>?_;obtain⟨U,V⟩:=go B S T;exact a E g j o B U P L V bA
 ·rw[if_neg (by simpa using e)] at a;refine ao.st Z.row (i:=8) (by simp[iM]) rfl λB P S T=>?_;obtain⟨U,V⟩:=go B S T;exact a E g j o B U P L V bA
theorem qj {K:Int->aa->Prop}(a:K 1 H):FF.sp none H K:=by
 refine FF.of ?_;unfold FF.vc;exact aR rfl a
theorem Cy {K:(Int×Int)->aa->Prop}(a:K (0,1) H):vU.sp none H K:=by
 refine vU.of ?_;unfold vU.vc;exact qj (aR rfl a)
theorem DP {l:Sl}{K:Int->aa->Prop}(a:K 1 H):so.sp none l H K:=by
 refine so.of ?_;unfold so.vc;exact qj (aR rfl a)
theorem Bk {names:Sl}{to:ByteArray}{W:Int}{K:(Int×Int)->aa->Prop}(a:K (0,1) H):Da.sp none names to W H K:=by
 refine Da.of ?_;unfold Da.vc;exact aR rfl a
end
theorem So.MV {t:So}{s:Pl}{l:List Int}{x y:Nat}(h:Bd s x y)(i:x<800000000000)(hw:t.wait.length<400000)(a:(t.add s l).1.fs.length<=4096):Bd (t.add s l).1 (x+400010) (y+805000):=by
 unfold So.add at a ⊢;split at a
 ·rename_i e;rw[if_pos e];exact h.mono (by omega) (by omega)
 ·rename_i e;rw[if_neg e];split at a
  ·rename_i c;rw[if_pos c];exact h.mono (by omega) (by omega)
  ·rename_i c;rw[if_neg c];split at a
   ·rename_i d;rw[if_pos d];exact h.mono (by omega) (by omega)
   ·rename_i d;rw[if_neg d];have g:=jg (t.wait++[l]);have hl:(t.wait++[l]).length<=400000:=by simp;omega
    exact(tT h (by show _+(cG (eN (t.wait++[l]))).length<_;omega) a).mono (by show _+(cG (eN (t.wait++[l]))).length+10<=_;omega) (by show _+2*(cG (eN (t.wait++[l]))).length+5000<=_;omega)
end
section
open Go.MapKept
theorem re {P:Program}(w:World)(t ty e:ic)(i:TypeInfo)(C:P.underlying t=some (.slice e))(hi:P.info? e=some i)
  (g o d h:Nat) (cur:Array gp) (D:w.heap[g]?=some (.cells cur e (0,0)))
  (a:hY) (m c:Nat) (news:List gp) (hl:news.length=m*i.size) (q:∀j u,news[j]?=some u->w.cell? (a.add j)=some u) (h1:∀u∈news,u.oneCell'=true)
  (x:d+m<=h) (y:o+d*i.size+news.length<=cur.size):
  (QM #[t,t] ty #[.slice (some ⟨g,o,none⟩) d h,.slice (some a) m c]).run P w=
   .ok (.slice (some ⟨g,o,none⟩) (d+m) h) (w.setRow g (cur.toList.take (o+d*i.size)++news++cur.toList.drop (o+d*i.size+news.length)).toArray):=by
 have E:=run_firstCells_some (P:=P) w i.size m a m c news hl q;have z:=run_storeCells_at P g (o+d*i.size) e news 0 cur w D (by simpa using y) h1;simp only[Ux] at z;simp[QM,run_underlying C,sizeOf,typeInfo,hi,Y9,x,E,Addr.add_lit,z]
structure lJ (H:aa)(s:Sl)(l:List ByteArray):Prop where
 n:s.n=l.length
 at_:(s=⟨none,0,0⟩/\l=[])\/∃g o cur,s.a=some ⟨g,o,none⟩/\H[g]?=some (.cells cur dG (0,0))/\s.n<=s.c/\s.c<=maxLen/\o+s.c<=cur.size/\(cur.toList.drop o).take s.n=l.map Sf
theorem kN (l:List ByteArray):kz.all l=l.map Sf:=by
 induction l with
 |nil=>rfl
 |cons a l c=>
   have:kz.all (a::l)=Sf a::kz.all l:=rfl;rw[this,c];rfl
section
variable {H B:aa}{s:Sl}{l:List ByteArray}
theorem lJ.nil (H:aa):lJ H (Sl.mk none 0 0) []:=⟨rfl,.inl ⟨rfl,rfl⟩⟩
theorem lJ.of (h:aF kz dG H s l):lJ H s l:=by
 have o:=aF.n h (by decide);refine⟨o,?_⟩;have d:=h.2;rw[kN] at d;have q:kz.size=1:=rfl;rw[q] at d;rcases d with ⟨e,z⟩|⟨g,cap,cur,e,_,x,i,y,C,j⟩
 ·left;refine⟨?_,Ra (by omega)⟩;obtain⟨a,n,c⟩:=s;simp only[Sl.v,Q2] at e;obtain⟨rfl,rfl,rfl⟩:=e;rfl
 ·right;obtain⟨a,n,c⟩:=s;simp only[Sl.v,Q2] at e;obtain⟨rfl,_,rfl⟩:=e;simp only at i j ⊢;exact⟨g,0,cur,rfl,x,i,y,by omega,by rw[V1];simpa using j⟩
theorem lJ.cap (h:lJ H s l):s.n<=s.c:=by
 rcases h.at_ with ⟨e,_⟩|⟨g,o,cur,_,_,a,_⟩
 ·rw[e];exact QN _
 ·exact a
theorem lJ.obj (h:lJ H s l):∀b,ai s b->∃cur,H[b]?=some (.cells cur dG (0,0)):=by
 rintro b ⟨ad,a,rfl⟩;rcases h.at_ with ⟨e,_⟩|⟨g,o,cur,e,c,_⟩
 ·rw[e] at a;cases a
 ·rw[e] at a;cases a;exact⟨cur,c⟩
theorem lJ.lt (h:lJ H s l):∀b,ai s b->b<H.size:=λb a=>by
 obtain⟨cur,c⟩:=h.obj b a;exact(Array.getElem?_eq_some_iff.1 c).1
theorem lJ.mod {G:Nat->Prop}(h:lJ H s l)(m:Mod G H B)(a:∀b,ai s b->¬G b):lJ B s l:=by
 refine⟨h.n,h.at_.imp id ?_⟩;rintro⟨g,o,cur,e,c,r⟩;have own:ai s g:=⟨_,e,rfl⟩;exact⟨g,o,cur,e,(m.same g (h.lt g own) (a g own)).trans c,r⟩
theorem lJ.apart {base:Nat}{e:ic}{size:Nat}{s':Sl}{xs:List gp}(h:lJ H s l)(k:aO H base e size s' xs)(a:dG≠e):∀b,ai s b->¬ai s' b:=λb h1 c=>by
 obtain⟨c1,d⟩:=h.obj b h1;obtain⟨c2,g⟩:=k.obj b c;exact a (aM d g)
theorem lJ.rd (h:lJ H s l):bX kz H s.a l:=by
 intro i v a;rw[kN] at a;rcases h.at_ with ⟨_,e⟩|⟨g,o,cur,e,c,j,q,x,d⟩
 ·rw[e] at a;simp at a
 ·refine⟨_,e,?_⟩;rw[add_lit];refine cC c ?_;rw[<-d,List.getElem?_take] at a;split at a
  ·rw[Si] at a;simpa using a
  ·cases a
theorem lJ.cut (h:lJ H s l){k:Nat}(hk:k<=l.length):lJ H ⟨cM s.a s.c k 1,s.n - k,s.c - k⟩ (l.drop k):=by
 have x:=h.n;refine⟨by rw[RM];show s.n - k=_;omega,?_⟩;rcases h.at_ with ⟨e,d⟩|⟨g,o,cur,e,c,y,z,C,i⟩
 ·subst d;have:k=0:=by simpa using hk
  subst this;left;rw[e];exact⟨rfl,rfl⟩
 ·right;have hd:∀j,(cur.toList.drop (o+j)).take (s.n - j)=(l.drop j).map Sf:=λj=>by
   rw[<-TZ,<-Xp,i,List.map_drop]
  by_cases q:s.c=k
  ·have a:s.n - k=0:=by omega
   refine⟨g,o,cur,?_,c,by show s.n - k<=s.c - k;omega,by show s.c - k<=_;omega,by show o+(s.c - k)<=_;omega,?_⟩
   ·show cM s.a s.c k 1=_;unfold cM;rw[if_pos q];exact e
   ·show (cur.toList.drop o).take (s.n - k)=_;rw[<-hd k,a];rfl
  ·refine⟨g,o+k,cur,?_,c,by show s.n - k<=s.c - k;omega,by show s.c - k<=_;omega,by show o+k+(s.c - k)<=_;omega,hd k⟩;show cM s.a s.c k 1=_;unfold cM;rw[if_neg q,e];simp[add_lit]
theorem DU {x:ByteArray}{p:hY}{ty:ic}{K:Sl->aa->Prop}(h:lJ H s l)(V:dh H p=some (.string x))(hl:l.length+1<=1000000)
  (N:∀s' B,lJ B s' (l++[x])->Mod (ai s) H B->(∀b,ai s' b->ai s b\/H.size<=b)->K s' B):
  bf aq QH (QM #[dV,dV] ty #[s.v,.slice (some p) 1 1]) H K:=by
 rcases h.at_ with ⟨e,Z⟩|⟨g,o,cur,e,X,h3,h4,h5,h6⟩
 ·subst Z;subst e;refine aF.append (E:=kz) (s:=Sl.mk none 0 0) (x:=⟨some p,1,1⟩) (l:=[]) (r:=[x]) BG (aF.nil _ _ _) (λi v G=>?_) rfl (by simp) (by simp) λs' B o g _=>N s' B (.of o) g.1 g.2;cases i with
  |zero=>
    rw[kN] at G;simp at G;subst G;exact⟨p,rfl,by rw[add_zero'];exact V⟩
  |succ i=>rw[kN] at G;simp at G
 obtain⟨inf,z,Y,hi,hz,O,hs,R,_⟩:=BG;have y:=h.n;have hlen:(l.map Sf).length=s.n:=by rw[Rg];exact y.symm
 intro w hw;subst hw;obtain⟨sa,a,q⟩:=s;simp only[Sl.v] at*;subst e;have c:∀j u,[Sf x][j]?=some u->w.cell? (p.add j)=some u:=λj u hu=>by
  cases j with
  |zero=>simp at hu;subst hu;rw[add_zero'];exact V
  |succ j=>simp at hu
 have h1:∀u∈[Sf x],u.oneCell'=true:=λu hu=>by rw[Q1] at hu;subst hu;rfl
 by_cases d:a+1<=q
 ·have M:=re (P:=QH) w dV ty dG inf Y hi g o a q cur X p 1 1 [Sf x] (by rw[hs];rfl) c h1 d (by rw[hs];simp;omega);rw[hs,Rz] at M;refine⟨_,_,M,⟨⟨some ⟨g,o,none⟩,a+1,q⟩,rfl,N _ _ ⟨by rw[Ri];show a+1=_;rw[y];rfl,.inr ⟨g,o,_,rfl,setRow_heap w g cur _ dG _ X,d,h4,?_,?_⟩⟩ ⟨by simp[World.setRow],λb _ I=>setRow_other w g b _ (λC=>I ⟨_,rfl,C.symm⟩)⟩ (λb I=>.inl ?_)⟩,(.of_le rfl (QN _))⟩
  ·simp only[Tf,Ri,Ro,RM,Td,SQ];omega
  ·simp only;have af:(cur.toList.take (o+a)).length=o+a:=by rw[Ro,Td];omega
   rw[RD,List.drop_append_of_le_length (by omega),Xp,show o+a - o=a by omega,h6,Rm,<-RD,Zu (by rw[Ri,hlen];rfl)];rfl
  ·obtain⟨D,C,S⟩:=I;exact⟨D,C,S⟩
 ·have holds:∀j u,(l.map Sf)[j]?=some u->w.cell? ((⟨g,o,none⟩:hY).add j)=some u:=λj u hu=>by
   obtain⟨D,C,hc⟩:=h.rd j u (by rw[kN];exact hu);cases C;exact hc
  have T:a+1<=maxLen:=by unfold maxLen;omega
  have M:=run_append_grow (P:=QH) w dV ty dG inf z Y hi hz ⟨g,o,none⟩ a q (l.map Sf) (by rw[hs,Rz];exact hlen) holds p 1 1 [Sf x] (by rw[hs];rfl) c (by omega) (by omega) (growslice_fits (by omega) (by rw[R];omega));have U:=grownCap_ge w (a+1) q dG;have J:grownCap w (a+1) q dG<=maxLen:=grownCap_le_maxLen w (a+1) q dG T;refine⟨_,_,M,⟨⟨some ⟨w.heap.size,0,none⟩,a+1,grownCap w (a+1) q dG⟩,rfl,N _ _ (.of ?_) (Mod.push _ _ _) (λb I=>.inr ?_)⟩,(.of_le rfl (RB _))⟩
  ·have L:(kz.all (l++[x])).length=(a+1)*1:=by rw[kN,Rg,Ri,Rz,y];rfl
   refine aO.fresh (size:=1) (Q5 _) U J ?_ L ?_
   ·simp only[Array.size_append,Tf,size_zeroCells,O,hs,hlen,SQ];omega
   ·rw[<-L,kN,Rm];simp only[Array.toList_append];exact List.take_left
  ·obtain⟨D,C,S⟩:=I;cases C;have:w.heap.size=b:=S;omega
theorem lJ.push {x:ByteArray}{ty:ic}{K:Sl->aa->Prop}(h:lJ H s l)(hl:l.length+1<=1000000)(c:∀s' B,lJ B s' (l++[x])->Mod (ai s) H B->(∀b,ai s' b->ai s b\/H.size<=b)->K s' B):
  aG H #[.string x] dG λp H1=>bf aq QH (QM #[dV,dV] ty #[s.v,.slice (some p) 1 1]) H1 K:=by
 refine au λA g d a=>?_;refine DU (h.mod a λ_ _=>id) (by
  have:=d.cell (i:=0) (v:=.string x) rfl;exact this) hl λs' B o m w=>c s' B o ((Ext.mod a).trans' m λb _ q=>q) λb e=>(w b e).imp id λq=>by omega
end
end
section
open Go.MapKept
theorem fq.get {X:Nat->Prop}{A:aa}{s:Sl}{ls:List (List Int)}{l:List Int}(h:fq X A s ls){i:Nat}(hi:ls[i]?=some l){K:Sl->Prop}(e:∀r,Ints .u64 A r l->(∀ad,r.a=some ad->ad.block<A.size/\¬X ad.block)->K r):
  ae s.a λa=>(0<=(i:Int)/\(i:Int)<(s.n:Int))/\tb aq A (a.add ((i:Int).toNat*1)) K:=by
 have z:=h.n;obtain⟨rs,o,hlen,g⟩:=h.ex;have j:=(QJ.1 hi).1;have c:i<rs.length:=by omega
 obtain⟨ad,q,x⟩:=o.reads.at (i:=i) (by rw[Rg];exact c);obtain⟨y,d⟩:=g i rs[i] l (QK c) hi;refine aZ ad q ⟨⟨by omega,by omega⟩,rs[i],?_,e _ y λad h1=>⟨(d ad h1).1,(d ad h1).2.1⟩⟩;rw[QP,Rz];simpa using x
theorem ax.ag {F:Nat->Prop}{H:aa}{p dp:Nat}{s:Pl}(h:ax F H p dp s):s.fs.length<=4096:=QZ h.wf.len h.wf.most.2
section
variable {A0:aa}{F:Nat->Prop}{p dp:Nat}{s:Pl}{name:ByteArray}{W:Int}{rows:Sl}{ls:List (List Int)}
set_option maxHeartbeats 1000000 in
theorem ET {K:Int->aa->Prop}{x y:Nat}(hp:ax F A0 p dp s)(hr:fq F A0 rows ls)(hl:ls.length<=1000000)(V:∀l∈ls,l.length<=16)(X:name.size<=9223372036854775807)(b:Bd s x y)(hx:x<800000000000)(hy:y<50000000000)
  (c:∀F' B,ax F' B p dp (fu s name W ls).1->Step F F' A0 B->K (fu s name W ls).2 B):LS.sp (aK p) name W rows A0 K:=by
 refine LS.of ?_;unfold LS.vc;have q1:=b.lo;have q2:=b.hi;have q3:=b.aH;have bM:=b.make (n:=name) (W:=W) (by omega);unfold fu at c;refine yR hp X (by omega) (by omega) q1 b.fit (λY B p2 T I=>?_) (λY B kw w p2 T I w2 k1 k2=>?_)
 ·have U:=iu.1 I;rw[I] at c;refine av 0 (λ_ z C=>z.1=(bo s name W).2.2/\C=B) ⟨rfl,rfl⟩ ?_;rintro i ⟨e,j⟩ C next hi ⟨he,rfl⟩ a
  simp only at he;subst he;refine aE (by rw[Wc];right;simpa using U) (aE (by simpa using U) ?_);exact c Y C p2 T
 obtain⟨U,hw,W0,Z⟩:=iu.2 w I;subst hw;rw[I] at c;simp only at c;generalize (bo s name W).1=s1 at*;rw[U];have a1:=hr.n;have J:∀b,dH kw aY aY b->b=kw:=by
  rintro b (q|q|q)
  ·exact q
  ·exact absurd q (aU b)
  ·exact absurd q (aU b)
 refine av ls.length (λi z B=>(z.1≠0/\K z.1 B)\/(z.1=0/\z.2=(i:Int)/\∃F' s' w sw sl,ax F' B p dp s'/\sZ B kw p w sw sl/\(∀b,F' b->¬dH kw sw sl b)/\(∀b,F' b\/dH kw sw sl b->F b\/A0.size<=b)/\Mod F A0 B/\Bd s' (x+1+i) (y+2+2*i)/\nh w name i/\
   lM ls s1 (xD name W)=lM (ls.drop i) s' w)) (.inr ⟨rfl,rfl,Y,s1,xD name W,aY,aY,p2,w2,λb L q=>k2 ((J b q)▸L),λb L=>?_,T.mod,bM,ym name W0 Z,rfl⟩) ?_
 ·rcases L with q|q
  ·exact T.own b q
  ·have:=J b q;exact .inr (by omega)
 rintro i ⟨e,j⟩ B next hi hI a
 rcases hI with ⟨g,hk⟩|⟨g,hj,F',s',w,sw,sl,pB,wB,dB,M,N,E,G,D⟩
 ·exact aE (by rw[Wc];right;simpa using g) (aE (by simpa using g) hk)
 simp only at g hj;subst g;subst hj;have u1:=E.lo;have u2:=E.hi;have u3:=E.aH;have c1:=G.wait;have c2:=G.n;have c3:=G.rows;refine ah (λO=>?_) (λO=>?_)
 ·have h:i<ls.length:=by
   rw[QY] at O;have:(i:Int)<(rows.n:Int):=of_decide_eq_true O.1;omega
  have rX:=hr.step (X':=λb=>F' b\/dH kw sw sl b) ⟨N,M⟩;refine rX.get (QK h) λr ri ro=>?_;rw[Rw h] at D;simp only[lM] at D;have a6:=V _ (Re h);have af:=E.add (w:=w) (by omega) ls[i];have al:=(G.add s' ls[i]).1;refine Dm wB pB dB ri (λad ha _ q=>(ro ad ha).2 (.inr q)) (λ_=>by omega) (by omega) (by omega) (by omega) (by rw[G.name];exact X) (by omega) (by omega) u1 E.fit λP R M8 C p3 w3 d3 S=>?_;have o3:∀b,P b\/dH kw R M8 b->F b\/A0.size<=b:=λb r=>by
   rcases S.own b r with u|u
   ·exact M b u
   ·have:=N.size;exact .inr (by omega)
  have m3:Mod F A0 C:=N.trans' S.mod λb L r=>(M b r).resolve_right (by omega);by_cases g:(w.add s' ls[i]).2.2=0
  ·rw[if_neg (by rw[g];simp)] at D;rw[g];exact a h _ C (.inr ⟨rfl,aD i (by omega),P,_,_,R,M8,p3,w3,d3,o3,m3,af.mono (by omega) (by omega),al,D⟩)
  ·rw[if_pos g] at D;rw[D] at c;unfold wq at c;rw[if_pos g] at c;exact a h _ C (.inl ⟨g,c P C p3 ⟨m3,λb r=>o3 b (.inl r)⟩⟩)
 ·have an:i=ls.length:=by
   rw[Wc] at O;have:¬(i:Int)<(rows.n:Int):=O.elim of_decide_eq_false λq=>by simp at q
   omega
  subst an;rw[TV] at D;simp only[lM] at D;rw[D] at c;unfold wq at c;rw[if_neg (by simp)] at c;have o:=E.out (w:=w) (by omega);have o1:=o.hi;have I:=o.aH;refine aR rfl ?_;refine wP wB pB dB (by omega) G.width.1 (by rw[G.name];exact X) (by omega) (by omega) u1 E.fit (by omega) (by omega) (λz d=>by have:=(Bd.leave ((o.bF (n:=w.b.name) (by omega) 0).set z 2 d) z).aH;omega) o.fit (λz d=>(Bd.leave ((o.bF (n:=w.b.name) (by omega) 0).set z 2 d) z).fit) λP a7 C p3 w3 d3 S=>?_;refine c P C p3 ⟨N.trans' S.mod λb L r=>(M b r).resolve_right (by omega),λb r=>?_⟩;rcases S.own b (.inl r) with u|u
  ·exact M b u
  ·have:=N.size;exact .inr (by omega)
end
theorem Ds:∀n:Nat,n<10->bytesOf [48+(n:Int)]=lR n:=by decide+kernel
theorem Jj:∀n:Nat,n<100->9<n->lR (n/10)++bytesOf [48+((n%10:Nat):Int)]=lR n:=by decide+kernel
theorem HQ:∀k:Nat,k<10->RE.wrap (QI.wrap (48+(k:Int)))=48+(k:Int):=by decide+kernel
section
variable {H:aa}{k p dp:Nat}{t:So}{sw ss:Sl}{rs:List Sl}{F:Nat->Prop}{s:Pl}
theorem AG {n:Nat}{K:ByteArray->aa->Prop}(h:n<100)(c:∀B,Ext H B->K (bytesOf [48+((n%10:Nat):Int)]) B):
  aG H #[(.int .u8 (RE.wrap (QI.wrap ((48:Int)+(RP (n:Int) (10:Int))))))] fU λp H1=>xw H1 (some p) 1 λ(s:ByteArray)=>K s H1:=by
 have d:RP (n:Int) 10=((n%10:Nat):Int):=by rw[XG (by omega)];omega
 rw[d,HQ _ (U1 _ (by decide))];refine wv (k:=.u8) [48+((n%10:Nat):Int)] λp B _ _ e g=>?_;exact MX (s:=Sl.mk (some p) 1 1) (e 1) (λx a=>by rw[Q1] at a;subst a;omega) (c B g)
theorem DF {n:Nat}{K:ByteArray->aa->Prop}(c:n<100)(e:∀B,Ext H B->K (lR n) B):Hq.sp (n:Int) H K:=by
 refine Hq.of ?_;unfold Hq.vc;refine AG c λB g=>?_;refine ah (λd=>?_) λd=>?_
 ·have a:9<n:=by have:(n:Int)>9:=of_decide_eq_true d;omega
  have i:QI.wrap (Rt (n:Int) 10)=((n/10:Nat):Int):=by
   rw[TT (by omega),wrap64 (by omega) (by omega)];omega
  rw[i];refine Hq.of ?_;unfold Hq.vc;refine AG (by omega) λC j=>?_;refine aE (decide_eq_false (by omega)) ?_;rw[Uh (by omega:n/10<10),Ds (n/10) (by omega)];have h:=Jj n c a;have:=cU c;refine⟨?_,?_⟩
  ·rw[<-h,Tk] at this;omega
  ·rw[h];exact e C (g.trans j)
 ·have a:n<10:=by have:¬(n:Int)>9:=of_decide_eq_false d;omega
  rw[Uh a,Ds n a];exact e B g
structure od (H:aa)(k p:Nat)(t:So)(sw:Sl)(rs:List Sl)(ss:Sl):Prop where
 row:ao H k AL (iM p t sw ss)
 wait:aJ H 0 sw rs t.wait
 side:lJ H ss t.side
 iY:∀l∈t.wait,l.length<=16
theorem od.j9 (h:od H k p t sw rs ss):¬ai sw k:=λq=>by
 obtain⟨cur,a⟩:=h.wait.out.obj k q;exact absurd (aM a h.row) (by decide)
theorem od.jS (h:od H k p t sw rs ss):∀x∈rs,¬ai x k:=λx a q=>by
 obtain⟨l,hl⟩:=h.wait.rowAt a;obtain⟨cur,c⟩:=hl.obj k q;exact absurd (aM c h.row) (by decide)
theorem od.oX (h:od H k p t sw rs ss):¬ai ss k:=λq=>by
 obtain⟨cur,a⟩:=h.side.obj k q;exact absurd (aM a h.row) (by decide)
theorem od.lt (h:od H k p t sw rs ss):∀b,cc k sw rs ss b->b<H.size:=by
 rintro b (q|q|⟨x,a,q⟩|q)
 ·subst q;exact aI h.row
 ·exact(h.wait.block.1 b q).2
 ·exact(h.wait.block.2 x a b q).2
 ·exact h.side.lt b q
theorem od.mod {G:Nat->Prop}{H':aa}(h:od H k p t sw rs ss)(m:Mod G H H')(c:∀b,cc k sw rs ss b->¬G b):od H' k p t sw rs ss:=
 ⟨h.row.mod m (c k (.inl rfl)),h.wait.mod m (λb a=>c b (.inr (.inl a))) λx d b a=>c b (.inr (.inr (.inl ⟨x,d,a⟩))),h.side.mod m λb a=>c b (.inr (.inr (.inr a))),h.iY⟩
theorem od.ext {H':aa}(h:od H k p t sw rs ss)(e:Ext H H'):od H' k p t sw rs ss:=h.mod e λ_ _=>id
theorem jH {K:Int->aa->Prop}(h:ao H k AL (iM p t sw ss))(a:K t.ready H):Jg.sp (aK k) H K:=by
 refine Jg.of ?_;unfold Jg.vc;unfold So.ready at a;unfold aK;simp only[aw];refine h.ld (c:=ab .i64) (i:=7) (x:=t.wrong) rfl ?_;refine ah (λe=>?_) (λe=>?_)
 ·refine h.ld (c:=ab .i64) (i:=7) (x:=t.wrong) rfl ?_;rw[if_pos (by simpa using e)] at a;exact a
 ·rw[if_neg (by simpa using e)] at a;refine h.ld (c:=aC) (i:=8) (x:=t.closed) rfl ?_;cases d:t.closed with
  |true=>rw[d,if_pos rfl] at a;exact a
  |false=>rw[d,if_neg (by simp)] at a;exact a
theorem yI {K:ByteArray->aa->Prop}(h:ao H k AL (iM p t sw ss))(d:t.next<100)(hs:t.name.size<=1000000)
  (o:∀H',ao H' k AL (iM p (t.to (t.next+1)) sw ss)->Mod (λb=>b=k) H H'->K (bL t.name t.next) H'):JH.sp (aK k) H K:=by
 refine JH.of ?_;unfold JH.vc;unfold aK;simp only[aw];refine h.ld (c:=ab .i64) (i:=6) (x:=(t.next:Int)) rfl ?_;rw[aD t.next (by omega)];refine ao.st h (i:=6) (by simp[iM]) rfl λH1 y m1 C=>?_;have a:ao H1 k AL (iM p (t.to (t.next+1)) sw ss):=y;have h1:JZ.size=1:=rfl;refine⟨λA=>ao A k AL (iM p (t.to (t.next+1)) sw ss),a,?_⟩;refine ao.dE (c:=aN) (i:=1) (x:=t.name) (cs:=λ_=>_) (λ_ q=>q) (λ_ _=>rfl) ?_;have z:t.name.size+(Q4 #[126]).size<=1000001:=by show t.name.size+1<=_;omega
 refine⟨by omega,?_⟩;refine a.ld (c:=ab .i64) (i:=6) (x:=((t.next+1:Nat):Int)) rfl ?_;have e:QI.wrap (((t.next+1:Nat):Int) - 1)=(t.next:Int):=by rw[wrap64 (by omega) (by omega)];omega
 rw[e];refine DF d λB g=>?_;have j:=a.ext g;refine⟨j,?_,o B j (m1.trans (g.mono λ_ _ q=>q.elim))⟩;have:=cU d;rw[Tk];omega
end
end
section
open Go.MapKept
section
variable {H:aa}{k p dp:Nat}{t:So}{sw ss:Sl}{rs:List Sl}{F:Nat->Prop}{s:Pl}
theorem Gw {K:Int->Prop}(h:ax F H p dp s)(d:K (s.most:Int)):ae (aK p) λa=>tb (ab .i64) H (a.add 1) K:=by
 obtain⟨ll,zs,D,g,e⟩:=h;refine aZ ⟨p,0,none⟩ rfl ?_;exact g.aj.head.ld (c:=ab .i64) (i:=1) (x:=(s.most:Int)) rfl d
theorem nt {n:ByteArray}{W fr:Int}{K:(Option hY×Int)->aa->Prop}(h:ax F H p dp s)
  (a:(eY s n W fr).1=none->K (none,(eY s n W fr).2) H) (d:(eY s n W fr).1=some (qJ n W fr)->(eY s n W fr).2=0->∀H',Ext H H'->H.size<H'.size->od H' H.size p (qJ n W fr) aY [] aY->K (aK H.size,0) H'):Jo.sp (aK p) n W fr H K:=by
 refine Jo.of ?_;unfold Jo.vc;unfold eY at a d;refine aE rfl ?_;refine fH ?_;refine ah (λc=>?_) (λc=>?_)
 ·have h1:aL W=0:=by simpa using c
  rw[if_pos h1] at a;exact a rfl
 have h1:aL W≠0:=by simpa using c
 rw[if_neg h1] at a d;refine ah (λc=>?_) (λc=>?_)
 ·have e:fr<3:=by simpa using c
  rw[if_pos (.inl e)] at a;exact a rfl
 have e:¬fr<3:=by simpa using c
 refine Gw h ?_;refine ah (λc=>?_) (λc=>?_)
 ·have g:fr>s.most:=by simpa using c
  rw[if_pos (.inr g)] at a;exact a rfl
 have g:¬fr>s.most:=by simpa using c
 rw[if_neg (λq=>q.elim e g)] at d;refine au λH1 o i j=>?_;exact d rfl rfl H1 j (by omega) ⟨i,aJ.nil _ _,lJ.nil _,λl hl=>(by cases hl)⟩
set_option maxHeartbeats 1000000 in
theorem wX {K:Int->aa->Prop}{x y:Nat}(h:od H k p t sw rs ss)(hp:ax F H p dp s)(dis:∀b,F b->¬cc k sw rs ss b)(M:xq t)(hw:t.wait.length<=900)(b:Bd s x y)(z:x<800000000000)(hy:y<50000000000)
  (hK:∀F' d H',ax F' H' p dp (t.aside s).1->od H' k p {t.gV with wrong:=if (t.aside s).2.2=0 then t.wrong else (t.aside s).2.2} aY [] d->(∀b,F' b->¬cc k aY [] d b)->Step (λb=>F b\/cc k sw rs ss b) (λb=>F' b\/cc k aY [] d b) H H'->K (t.aside s).2.2 H'):HZ.sp (aK k) H K:=by
 refine HZ.of ?_;unfold HZ.vc;refine yI h.row M.next M.name λA U R=>?_;unfold aK;simp only[aw];have J:=h.j9;have e:=h.oX;have hk:=aI h.row;have zA:=R.size;refine⟨λC=>ao C k AL (iM p (t.to (t.next+1)) sw ss),U,?_⟩;refine ao.dE (c:=aB) (i:=0) (x:=aK p) (cs:=λ_=>_) (λ_ q=>q) (λ_ _=>rfl) ?_;refine ao.dE (c:=ab .i64) (i:=2) (x:=t.width) (cs:=λ_=>_) (λ_ q=>q) (λ_ _=>rfl) ?_;refine U.ld (c:=aq) (i:=4) (x:=sw) rfl ?_;have wA:aJ A 0 sw rs t.wait:=h.wait.mod R (λb a q=>J (q▸a)) λx z b a q=>h.jS x z (q▸a);have pA:ax F A p dp s:=hp.ar λb a hl=>R.same b hl λq=>dis b a (.inl q);refine BQ (X:=F) wA.rows hw (λl hl=>by have:=h.iY l hl;omega) (λb a=>pA.lt b a) λout B rp S ob=>?_;have rB:=U.ext S;have zB:=S.size;refine⟨rB,?_⟩;have an:=jg t.wait;refine ET (pA.ext S) rp (by omega) (λl hl=>h.iY l (kf.1 hl)) (by have:=cU M.next;have:=M.name;rw[eL];omega) b z hy λF' C pC L=>?_;have zC:=L.mod.size;have o:¬F k:=λq=>dis k q (.inl rfl);refine ao.st (rB.mod L.mod o) (i:=4) (by simp[iM]) rfl λD rD mD zD=>?_;refine rD.ld (c:=aq) (i:=5) (x:=ss) rfl ?_;have j:Mod (λb=>F b\/b=k) H D:=(((R.mono λb _ q=>.inr q).trans' S λb _ q=>q.elim).trans' L.mod λb _ q=>.inl q).trans' mD λb _ q=>.inr q;have sD:lJ D ss t.side:=h.side.mod j λb a q=>q.elim (λu=>dis b u (.inr (.inr (.inr a)))) λu=>e (u▸a);refine lJ.push (x:=bL t.name t.next) sD (by have:=M.side;omega) λd E oE T V=>?_;have g:¬ai d k:=λq=>by
  rcases V k q with r|r
  ·exact e r
  ·have:=j.size;omega
 refine ao.st (rD.mod T e) (i:=5) (by simp[iM]) rfl λG rG Y zG=>?_;have N:ao G k AL (iM p t.gV aY d):=rG;have a1:=j.size;have zE:=T.size;have O:∀b,F' b->¬cc k aY [] d b:=by
  rintro b a (q|q|⟨x,z,_⟩|q)
  ·subst q;rcases L.own _ a with r|r
   ·exact o r
   ·omega
  ·exact aU b q
  ·cases z
  ·have bl:=pC.lt b a;rcases V b q with r|r
   ·have:=h.side.lt b r;rcases L.own b a with u|u
    ·exact dis b u (.inr (.inr (.inr r)))
    ·omega
   ·omega
 have Z:Mod (λb=>F b\/cc k sw rs ss b) H G:=((j.mono λb _ q=>q.imp id .inl).trans' T λb _ q=>.inr (.inr (.inr (.inr q)))).trans' Y λb _ q=>.inr (.inl q);have fin:∀(wr:Int) (I:aa),wr=(if (t.aside s).2.2=0 then t.wrong else (t.aside s).2.2)->Mod (λb=>b=k) G I->ao I k AL (iM p {t.gV with wrong:=wr} aY d)->K (t.aside s).2.2 I:=λwr I af P rI=>by
  have al:Mod (λb=>cc k sw rs ss b) C I:=(((mD.mono λb _ q=>.inl q).trans' T λb _ q=>.inr (.inr (.inr q))).trans' Y λb _ q=>.inl q).trans' P λb _ q=>.inl q;subst af;refine hK F' d I (pC.ar λb a hl=>al.same b hl λq=>?_) ⟨rI,aJ.nil _ _,(oE.mod Y λb a q=>g (q▸a)).mod P λb a q=>g (q▸a),λl hl=>(by cases hl)⟩ O ⟨Z.trans' P λb _ q=>.inr (.inl q),λb a=>?_⟩
  ·have:=h.lt b q;rcases L.own b a with u|u
   ·exact dis b u q
   ·omega
  ·rcases a with u|u|u|⟨x,z,_⟩|u
   ·exact(L.own b u).imp .inl λv=>by omega
   ·exact .inl (.inr (.inl u))
   ·exact absurd u (aU b)
   ·cases z
   ·exact(V b u).imp (λv=>.inr (.inr (.inr (.inr v)))) λv=>by omega
 have e2:(fu s (bL t.name t.next) t.width (cG (eN t.wait))).2=(t.aside s).2.2:=rfl;rw[e2];refine ah (λhc=>?_) λhc=>?_
 ·have e0:(t.aside s).2.2≠0:=by simpa using hc
  refine ao.st N (i:=7) (by simp[iM]) rfl λI rI P zI=>?_;exact fin (t.aside s).2.2 I (by rw[if_neg e0]) P rI
 ·have e0:(t.aside s).2.2=0:=by simpa using hc
  exact fin t.wrong G (by rw[if_pos e0]) (.refl _ _) N
set_option maxHeartbeats 1000000 in
theorem Jn {K:Int->aa->Prop}{l:Sl}{ll:List Int}{x y:Nat}(h:od H k p t sw rs ss)(U:ax F H p dp s)(dis:∀b,F b->¬cc k sw rs ss b)(R:xq t)(a7:t.wait.length<800)(hW:t.width<=16)(hl:Ints .u64 H l ll)(b:Bd s x y)(o:x<800000000000)(hy:y<50000000000)
  (j:∀F' N O P H',ax F' H' p dp (t.add s ll).1->od H' k p (t.add s ll).2.1 N O P->(∀b,F' b->¬cc k N O P b)->Step (λb=>F b\/cc k sw rs ss b) (λb=>F' b\/cc k N O P b) H H'->K (t.add s ll).2.2 H'):BX.sp (aK k) l H K:=by
 refine BX.of ?_;unfold BX.vc;unfold So.add at j;refine jH h.row ?_;unfold aK;simp only[aw];refine ah (λz=>?_) (λz=>?_)
 ·rw[if_pos (by simpa using z)] at j;exact j F sw rs ss H U h dis (.refl _ _)
 have e:¬t.ready≠0:=by simpa using z
 rw[if_neg e] at j;have V:t.wrong=0:=by
  unfold So.ready at e;by_cases q:t.wrong=0
  ·exact q
  ·rw[if_pos q] at e;exact absurd q e
 refine h.row.ld (c:=ab .i64) (i:=2) (x:=t.width) rfl ?_;have S:=hl.len;refine ah (λz=>?_) (λz=>?_)
 ·have X:(ll.length:Int)≠t.width:=by rw[<-S];simpa using z
  rw[if_pos X] at j;exact j F sw rs ss H U h dis (.refl _ _)
 have X:¬(ll.length:Int)≠t.width:=by rw[<-S];simpa using z
 rw[if_neg X] at j;have Y:ll.length<=16:=by omega
 refine jR.append (base:=0) (s:=Sl.mk none 0 0) (x:=l) (xs:=[]) (ws:=ll.map (QT .u64)) (aO.nil _ _ _ _) (by simp;omega) hl.reads (oa _ _) (by simp only;omega) (by simp only;omega) (Q5 _) λr A n3 Z mA T _=>?_;have eA:Ext H A:=mA.ext (by rintro b ⟨ad,h,_⟩;cases h);have Z:aO A 0 fM 1 r (ll.map (QT .u64)):=Z;have T:∀b,ai r b->H.size<=b:=λb a=>(T b a).resolve_left (aU b);have G:=h.ext eA;have hk:=aI h.row;have a8:=h.wait.n;refine G.row.ld (c:=aq) (i:=4) (x:=sw) rfl ?_;refine aJ.Dn (base:=0) G.wait Z (λx o b a af=>?_) (by omega) (Q5 _) λs' B n1 o1 m1 g1=>?_
 ·have:=T b a;have:=(h.wait.block.2 x o b af).2;omega
 have E:=G.j9;have zA:=eA.size;have I:¬ai s' k:=λq=>by
  rcases g1 k q with r|r
  ·exact E r
  ·omega
 refine ao.st (G.row.mod m1 E) (i:=4) (by simp[iM]) rfl λC rC mC zC=>?_;obtain⟨t1,d⟩:∃t1:So,t1={t with wait:=t.wait++[ll]}:=⟨_,rfl⟩;rw[<-d] at j;have J:ao C k AL (iM p t1 s' ss):=by rw[d];exact rC
 have jd:∀x∈rs++[r],¬ai x k:=λx o q=>by
  rcases QQ.1 o with u|u
  ·exact G.jS x u q
  ·rw[Q1] at u;subst u;have:=T k q;omega
 have hC:od C k p t1 s' (rs++[r]) ss:=by
  refine⟨J,?_,?_,?_⟩
  ·rw[d];exact o1.mod mC (λb a q=>I (q▸a)) λx o b a q=>jd x o (q▸a)
  ·rw[d];exact(G.side.mod m1 λb a q=>G.side.apart G.wait.out (by decide) b a q).mod mC λb a q=>G.oX (q▸a)
  ·rw[d];intro x o;rcases QQ.1 o with u|u
   ·exact h.iY x u
   ·rw[Q1] at u;subst u;exact Y
 have z1:=m1.size;have L:Mod (λb=>b=k\/ai sw b) H C:=((Ext.mod eA).trans' m1 λb _ q=>.inr q).trans' mC λb _ q=>.inl q;have g:∀b,cc k s' (rs++[r]) ss b->cc k sw rs ss b\/H.size<=b:=by
  rintro b (q|q|⟨x,o,q⟩|q)
  ·exact .inl (.inl q)
  ·rcases g1 b q with u|u
   ·exact .inl (.inr (.inl u))
   ·exact .inr (by omega)
  ·rcases QQ.1 o with u|u
   ·exact .inl (.inr (.inr (.inl ⟨x,u,q⟩)))
   ·rw[Q1] at u;subst u;exact .inr (T b q)
  ·exact .inl (.inr (.inr (.inr q)))
 have M:∀b,F b->¬cc k s' (rs++[r]) ss b:=λb a q=>by
  rcases g b q with u|u
  ·exact dis b a u
  ·have:=U.lt b a;omega
 have pC:ax F C p dp s:=U.ar λb a al=>L.same b al λq=>dis b a (q.imp_right .inl);refine⟨λA=>ao A k AL (iM p t1 s' ss),J,?_⟩;refine ao.dE (c:=aq) (i:=4) (x:=s') (cs:=λ_=>_) (λ_ q=>q) (λ_ _=>rfl) ?_;refine ao.dE (c:=ab .i64) (i:=3) (x:=t.ag) (cs:=λ_=>_) (λ_ q=>q) (λ_ _=>by rw[d];rfl) ?_;refine J.ld (c:=ab .i64) (i:=2) (x:=t.width) (by rw[d];rfl) ?_;refine fH ⟨J,?_⟩;obtain⟨an,bb⟩:=de ⟨t.name,t.width,0,false⟩;simp only at an;have hf:=R.ag;have p1:t.ag*aL t.width<=1000000*504:=Int.mul_le_mul hf.2 (by omega) (by omega) (by decide);have p0:0<=t.ag*aL t.width:=Int.mul_nonneg hf.1 (by omega);rw[wrap64 (by omega) (by omega)];have zH:=L.size;refine ah (λz=>?_) (λz=>?_)
 ·have e2:((t.wait.length+1:Nat):Int)<t.ag*aL t.width:=by
   have:(s'.n:Int)<t.ag*aL t.width:=by simpa using z
   omega
  rw[if_pos e2] at j;refine j F s' (rs++[r]) ss C pC hC M ⟨L.mono λb _ q=>.inr (q.imp_right .inl),λb a=>?_⟩;rcases a with u|u
  ·exact .inl (.inl u)
  ·exact(g b u).imp .inr id
 ·have e2:¬((t.wait.length+1:Nat):Int)<t.ag*aL t.width:=by
   have:¬(s'.n:Int)<t.ag*aL t.width:=by simpa using z
   omega
  rw[if_neg e2] at j;have a1:xq t1:=by rw[d];exact⟨R.name,by simp;omega,R.side,R.sizes,R.next,R.ag⟩
  refine wX hC pC M a1 (by rw[d];simp;omega) b o hy λF2 a6 D pD hD dD SD=>?_;have ew:(if (t1.aside s).2.2=0 then t1.wrong else (t1.aside s).2.2)=(t1.aside s).2.2:=by
   split
   ·rename_i q;rw[q,d];exact V
   ·rfl
  rw[ew] at hD;refine j F2 aY [] a6 D pD hD dD ⟨(L.mono λb _ q=>.inr (q.imp_right .inl)).trans' SD.mod λb a q=>q.imp_right λu=>(g b u).resolve_right (by omega),λb a=>?_⟩;rcases SD.own b a with (u|u)|u
  ·exact .inl (.inl u)
  ·exact(g b u).imp .inr id
  ·exact .inr (by omega)
theorem zM {names:Sl}{ns:List ByteArray}{x y:Nat}{K:Int->aa->Prop}(P:ao H k AL (iM p t sw ss))(hk:¬F k)(R:ax F H p dp s)(S:names.n=ns.length)(D:∀A,Mod F H A->bX kz A names.a ns)(hl:ns.length<=1000000)(b:Bd s x y)(U:y<60000000000)
  (o:∀F' H',ax F' H' p dp (jF ns s).1->Step F F' H H'->K (jF ns s).2 H'):Jm.sp (aK k) names H K:=by
 refine Jm.of ?_;unfold Jm.vc;refine av ns.length (λi z B=>z=(i:Int)/\∃F' s',ax F' B p dp s'/\Step F F' H B/\Bd s' x y/\jF ns s=jF (ns.drop i) s') ⟨rfl,F,s,R,.refl _ _,b,rfl⟩ ?_;rintro i z B next hi ⟨rfl,T,s2,p2,j,L,a⟩ d
 have xC:=P.mod j.mod hk;refine ah (λg=>?_) (λg=>?_)
 ·have h:i<ns.length:=by
   have:(i:Int)<(names.n:Int):=by simpa using g
   omega
  rw[Rw h] at a;simp only[jF] at a;unfold aK;simp only[aw];refine xC.ld (c:=aB) (i:=0) (x:=aK p) rfl ?_;have q:=bX.one (E:=kz) (c:=aN) (s:=names) (D B j.mod) S rfl (QK h) rfl (K:=λG=>KM.sp (aK p) G B λ(e:Int) M=>br (e !=(0:Int)) (K e M) (next (QI.wrap ((i:Int)+(1:Int))) M)) (by
   refine E6 p2 (by have:=L.aH;omega) λN C p3 O=>?_;refine ah (λg=>?_) λg=>?_
   ·have I:(s2.c9 ns[i]).2≠0:=by simpa using g
    rw[if_pos I] at a;rw[a] at o;exact o N C p3 (j.trans O)
   ·have I:¬(s2.c9 ns[i]).2≠0:=by simpa using g
    rw[if_neg I] at a;rw[aD i (by omega)];exact d h _ C ⟨rfl,N,_,p3,j.trans O,L.c9,a⟩)
  simpa only[aw] using q
 ·have J:i=ns.length:=by
   have:¬(i:Int)<(names.n:Int):=by simpa using g
   omega
  subst J;rw[TV] at a;simp only[jF] at a;rw[a] at o;exact o T B p2 j
end
end
section
open Go.MapKept
theorem ax.OT {F:Nat->Prop}{H:aa}{p dp:Nat}{s:Pl}(h:ax F H p dp s):s.d.WF:=by
 obtain⟨ll,zs,D,g,a⟩:=h;exact g.cD.wf
section
variable {p dp:Nat}{W:Int}
theorem sq:∀{ns:List ByteArray} {s:Pl} {x y:Nat} {F:Nat->Prop} {A:aa},ax F A p dp s->Bd s x y->x+ns.length<900000000000->y+ns.length<60000000000->(∀n∈ns,n.size<=9223372036854775807)->bT (bc W ns s).2.1<=ns.length*((aL W).toNat*1048576)
 |[],s,x,y,F,A,_,_,_,_,_=>by simp[bc,bT]
 |n::ns,s,x,y,F,A,c,b,d,g,hs=>by
   rw[Rr] at d g ⊢;have h:=b.lo;have o:=b.hi;have q:=b.aH;have z:=(b.look (n:=n) (by omega) 0).aH;have ⟨F',B,a⟩:∃F' B,ax F' B p dp (rnOpen s n W).1:=ak.pure (H:=A) (zp (W:=W) c (hs n Q9) (by omega) (by omega) h (by omega) (λF' B p1 i _=>⟨F',B,p1⟩) λF' B k r p1 i _ _ _ _=>⟨F',B,p1⟩);simp only[bc];split
   ·simp[bT]
   ·rename_i r e;have h1:=rM e a.OT;have j:=sq (x:=x+1) (y:=y+1) (ns:=ns) a (b.open (n:=n) (W:=W) (by omega)) (by omega) (by omega) λm hm=>hs m (Q8 _ hm);simp only[bT,Q7,RS] at j ⊢;rw[RQ];omega
end
def Cg (p dp:Nat)(W:Int)(S N:Nat):Prop:=∀(F:Nat->Prop) (A:aa) (s:Pl) (x y:Nat) (l:List ByteArray),ax F A p dp s->Bd s x y->x<800000000000->y<50000000000->l.length<=S->(∀n∈l,n.size<=9223372036854775807)->bT (bc W l s).2.1<=N
theorem MH {p dp S N:Nat}{W:Int}(c:S<=100000)(h:S*((aL W).toNat*1048576)<=N):Cg p dp W S N:=λF A s x y l a b d e hl hs=>
 QZ (QZ (sq (x:=x) (y:=y) a b (by omega) (by omega) hs) (Rq _ hl)) h
theorem So.pz:∀(f:Nat) (t:So) (s:Pl),(t.rounds f s).2.1.wrong=t.wrong/\(t.rounds f s).2.1.closed=t.closed
 |0,t,s=>⟨rfl,rfl⟩
 |f+1,t,s=>by
   simp only[So.rounds];split
   ·split
    ·exact⟨rfl,rfl⟩
    ·exact So.pz f _ _
   ·exact⟨rfl,rfl⟩
theorem So.Cf (t:So)(s:Pl):(So.goes (t.first s)).2.1.wrong=t.wrong:=by
 have h1:(t.first s).2.1.wrong=t.wrong:=by
  unfold So.first;split<;>rfl
 unfold So.goes;split
 ·exact h1
 ·have a:=(So.pz (t.first s).2.1.side.length (t.first s).2.1 (t.first s).1).1;unfold So.last;split
  ·exact a.trans h1
  ·exact a.trans h1
section
variable {H:aa}{k p dp:Nat}{t:So}{sw ss:Sl}{rs:List Sl}{F:Nat->Prop}{s:Pl}
theorem zw {a:Sl}{n b:Nat}(h:cc k sw rs a b)(hs:∀b,ai a b->ai ss b\/n<=b):cc k sw rs ss b\/n<=b:=by
 rcases h with q|q|q|q
 ·exact .inl (.inl q)
 ·exact .inl (.inr (.inl q))
 ·exact .inl (.inr (.inr (.inl q)))
 ·exact(hs b q).imp (λu=>.inr (.inr (.inr u))) id
set_option maxRecDepth 100000 in
set_option maxHeartbeats 4000000 in
theorem JX {K:(Int×Int)->aa->Prop}{x y N R:Nat}(h:od H k p t sw rs ss)(hp:ax F H p dp s)(dis:∀b,F b->¬cc k sw rs ss b)(hz:xq t)(hw:t.wait.length<=900)(b3:t.wrong=0)(c4:t.next+t.side.length+2<=100)(c5:3<=t.ag)(b:Bd s x y)(hR:t.side.length+2<=R)(dc:N<=1000000000)(hx:x+400010+R*(2*N+3000)<=600000000000)(hy:y+805000+R*(3*N+9000)<=39000000000)
  (hle:Cg p dp t.width (t.side.length+1) N)
  (V:∀F' t' o z j H',ax F' H' p dp (So.goes (t.first s)).1->od H' k p t' o z j->((So.goes (t.first s)).2.2.2=0->t'.wrong=0)->(∀b,F' b->¬cc k o z j b)->Step (λb=>F b\/cc k sw rs ss b) (λb=>F' b\/cc k o z j b) H H'->K ((if (So.goes (t.first s)).2.2.2=0 then ((So.goes (t.first s)).2.2.1:Int) else 0),(So.goes (t.first s)).2.2.2) H'):KY.sp (aK k) H K:=by
 refine KY.of ?_;unfold KY.vc;unfold aK;simp only[aw];have b5:=h.wait.n;refine⟨λ_ B=>(t.first s).2.2=0/\∃F' o z j,ax F' B p dp (t.first s).1/\od B k p (t.first s).2.1 o z j/\(∀b,F' b->¬cc k o z j b)/\Step (λb=>F b\/cc k sw rs ss b) (λb=>F' b\/cc k o z j b) H B/\Bd (t.first s).1 (x+400010) (y+805000)/\xq (t.first s).2.1/\(t.first s).2.1.next+(t.first s).2.1.side.length<=100/\(t.first s).2.1.ag=t.ag/\(t.first s).2.1.side.length<=t.side.length+1/\(t.first s).2.1.width=t.width/\(t.first s).2.1.wrong=0,?_,?_⟩
 ·have aside:∀(Kb:Int->aa->Prop),(t.wait≠[]\/t.side=[])->(∀e B,e≠0->K (0,e) B->Kb e B)->(∀B,((t.first s).2.2=0/\∃F' o z j,ax F' B p dp (t.first s).1/\od B k p (t.first s).2.1 o z j/\(∀b,F' b->¬cc k o z j b)/\Step (λb=>F b\/cc k sw rs ss b) (λb=>F' b\/cc k o z j b) H B/\Bd (t.first s).1 (x+400010) (y+805000)/\xq (t.first s).2.1/\(t.first s).2.1.next+(t.first s).2.1.side.length<=100/\(t.first s).2.1.ag=t.ag/\(t.first s).2.1.side.length<=t.side.length+1/\(t.first s).2.1.width=t.width/\(t.first s).2.1.wrong=0)->Kb 0 B)->
    HZ.sp (some ⟨k,0,none⟩) H Kb:=λKb L k1 k2=>by
   have ef:t.first s=t.aside s:=if_pos L;rw[ef] at V k2;refine wX h hp dis hz hw b (by omega) (by omega) λF' j B pB g dB SB=>?_;have dk:=jg t.wait;have bd:Bd (t.aside s).1 (x+400010) (y+805000):=(tT b (by omega) pB.ag).mono (by omega) (by omega);by_cases e0:(t.aside s).2.2=0
   ·rw[if_pos e0] at g;have g:od B k p (t.aside s).2.1 aY [] j:=g;rw[e0];refine k2 B ⟨e0,F',aY,[],j,pB,g,dB,SB,bd,⟨hz.name,Q5 _,?_,λn hn=>?_,?_,hz.ag⟩,?_,rfl,?_,rfl,b3⟩
    ·show (t.side++[_]).length<=1000;simp;omega
    ·rcases QQ.1 (show n∈t.side++[bL t.name t.next] from hn) with u|u
     ·exact hz.sizes n u
     ·rw[Q1] at u;subst u;have:=cU hz.next;have:=hz.name;rw[eL];omega
    ·show t.next+1<100;omega
    ·show t.next+1+(t.side++[_]).length<=100;simp;omega
    ·show (t.side++[_]).length<=t.side.length+1;simp
   ·have eg:So.goes (t.aside s)=((t.aside s).1,(t.aside s).2.1,0,(t.aside s).2.2):=by unfold So.goes;rw[if_pos e0]
    rw[eg] at V;have q:=V F' _ aY [] j B pB g (λu=>absurd u e0) dB SB;rw[if_neg e0] at q;exact k1 _ B e0 q
  refine h.row.ld (c:=aq) (i:=4) (x:=sw) rfl ?_;refine ah (λL=>?_) (λL=>?_)
  ·have hw:t.wait≠[]:=λq=>by rw[q] at b5;rw[b5] at L;simp at L
   exact aside _ (.inl hw) (λe B e0 q=>aR (by simpa using e0) q) λB q=>aE rfl q
  ·have hw:t.wait=[]:=by
    have:¬(sw.n:Int)>0:=by simpa using L
    exact Ra (by omega)
   refine h.row.ld (c:=aq) (i:=5) (x:=ss) rfl ?_;have hn:=h.side.n;refine ah (λL=>?_) (λL=>?_)
   ·have hs:t.side=[]:=by
     have:(ss.n:Int)=0:=by simpa using L
     exact Ra (by omega)
    exact aside _ (.inr hs) (λe B e0 q=>aR (by simpa using e0) q) λB q=>aE rfl q
   ·have hs:t.side≠[]:=λq=>by rw[q] at hn;rw[hn] at L;simp at L
    have ef:t.first s=(s,t,0):=if_neg (by rintro(q|q);exact q hw;exact hs q);rw[ef];exact⟨rfl,F,sw,rs,ss,hp,h,dis,.refl _ _,b.mono (by omega) (by omega),hz,by show t.next+t.side.length<=100;omega,rfl,RB _,rfl,b3⟩
 ·rintro _ A ⟨e0,F1,cb,ck,cm,pA,sA,dA,SA,bA,zA,nA,fA,lA,wA,vA⟩;have eg:So.goes (t.first s)=So.last ((t.first s).2.1.rounds (t.first s).2.1.side.length (t.first s).1):=if_neg (by rw[e0];simp);rw[eg] at V;generalize hl:(t.first s).2.1.side.length=f0 at*;have cx:(t.first s).2.1.side.length<=f0:=W7 hl;have b6:f0+1<=R:=by omega
  generalize (t.first s).2.1=t1 at*;generalize (t.first s).1=s1 at*;have hmul:(f0+1)*(2*N+3000)<=R*(2*N+3000):=Rq _ b6;have bN:(f0+1)*(3*N+9000)<=R*(3*N+9000):=Rq _ b6;rw[RQ] at hmul bN;refine⟨Nat,λf _ B=>∃F' o z j t' s' xx yy,ax F' B p dp s'/\od B k p t' o z j/\(∀b,F' b->¬cc k o z j b)/\Step (λb=>F b\/cc k sw rs ss b) (λb=>F' b\/cc k o z j b) H B/\Bd s' xx yy/\xx+f*(2*N+3000)<=x+400010+f0*(2*N+3000)/\yy+f*(3*N+9000)<=y+805000+f0*(3*N+9000)/\xq t'/\t'.next+t'.side.length<=100/\t'.ag=t.ag/\t'.side.length<=f/\f<=f0/\t'.width=t.width/\t'.wrong=0/\t1.rounds f0 s1=t'.rounds f s',λf=>f,
   ⟨f0,F1,cb,ck,cm,t1,s1,x+400010,y+805000,pA,sA,dA,SA,bA,QN _,QN _,zA,by rw[hl];exact nA,fA,cx,QN _,wA,vA,rfl⟩,?_⟩
  rintro f _ B ⟨X,M,O,a,t2,s2,xx,yy,pB,g,dB,SB,bB,bx,cy,Y,nB,fB,lB,ff,wB,vB,eB⟩;have b7:=g.side.n;have dn:=g.side.cap;have hf:=Y.ag;have dD:=aI g.row;have an:=g.j9;have S:=g.oX;have dT:=SB.mod.size;have P:¬X k:=λq=>dB k q (.inl rfl);refine g.row.ld (c:=aq) (i:=5) (x:=a) rfl ?_;refine g.row.ld (c:=ab .i64) (i:=3) (x:=t2.ag) rfl ?_;refine ah (λL=>?_) (λL=>?_)
  ·have cz:t2.ag<=(t2.side.length:Int):=by
    have:(a.n:Int)>=t2.ag:=by simpa using L
    omega
   cases f with
   |zero=>exact absurd lB (by omega)
   |succ f=>
   rw[RQ] at bx cy;have er:t2.rounds (f+1) s2=if (t2.round s2).2.2.2≠0 then ((t2.round s2).1,(t2.round s2).2.1,(t2.round s2).2.2.2) else So.rounds f {(t2.round s2).2.1 with side:=t2.side.drop (t2.ag - 1).toNat++[bL t2.name t2.next]} (t2.round s2).1:=if_pos cz
   have ea:t2.next<98:=by omega
   have ec:QI.wrap (t2.ag - 1)=(((t2.ag - 1).toNat:Nat):Int):=by rw[wrap64 (by omega) (by omega)];omega
   obtain⟨c,bh⟩:∃c,c=(t2.ag - 1).toNat:=⟨_,rfl⟩;rw[<-bh] at er;have eb:c<t2.side.length:=by omega
   have cB:(t2.side.take c).length=c:=by rw[Ro];omega
   have bs:∀n∈t2.side.take c,n.size<=9223372036854775807:=λn hn=>Y.sizes n (RU hn);have a1:bT (bc t2.width (t2.side.take c) s2).2.1<=N:=by
    rw[wB];exact hle X B s2 xx yy _ pB bB (by omega) (by omega) (by omega) bs
   refine g.row.ld (c:=aq) (i:=5) (x:=a) rfl ?_;refine g.row.ld (c:=ab .i64) (i:=3) (x:=t2.ag) rfl ?_;rw[ec,<-bh];refine⟨⟨by omega,by omega⟩,?_⟩;simp only[QP,Wb,CK];refine aF.append (E:=kz) (s:=Sl.mk none 0 0) (x:=⟨a.a,c,a.c⟩) (l:=[]) (r:=t2.side.take c) BG (aF.nil _ _ _) g.side.rd.take cB.symm (by simp;omega) (by simp;omega) λfirst C oC gC _=>?_
   have eC:Ext B C:=gC.1.ext (by rintro b ⟨ad,h,_⟩;cases h);have oC:aF kz dG C first (t2.side.take c):=oC
   have nC:∀b,ai first b->B.size<=b:=λb d=>(gC.2 b d).resolve_left (aU b)
   have zC:=eC.size;have fn:first.n=(t2.side.take c).length:=aF.n oC (by decide);refine yI (g.row.ext eC) (by omega) Y.name λD rD mD=>?_;have zD:=mD.size;have b9:∀b,ai first b->b≠k:=λb d q=>by have:=nC b d;omega
   have oD:aF kz dG D first (t2.side.take c):=oC.mod mD λb d=>b9 b d
   have pD:ax X D p dp s2:=(pB.ext eC).ar λb d a6=>mD.same b a6 λq=>P (q▸d);refine rD.ld (c:=aB) (i:=0) (x:=aK p) rfl ?_;refine rD.ld (c:=ab .i64) (i:=2) (x:=t2.width) rfl ?_;have a7:∀b,ai first b->¬X b:=λb d q=>by have:=nC b d;have:=pB.lt b q;omega
   have c0:∀A,Mod X D A->bX kz A first.a (t2.side.take c):=λA m=>aF.rd (E:=kz) (oD.mod m a7);have bC:(bL t2.name t2.next).size<=9223372036854775807:=by have:=cU Y.next;have:=Y.name;rw[eL];omega
   refine qU pD fn c0 bs bC bB (by omega) (by omega) (by omega) a1 (by omega) (by omega) (by omega) λF3 E pE SE=>?_;have bM:=nE (to:=bL t2.name t2.next) (W:=t2.width) bB (by omega) (by omega) a1 pE.ag;have ed:t2.round s2=((gJ (t2.side.take c) (cV s2 (t2.side.take c) (bL t2.name t2.next) t2.width)).1,{t2.to (t2.next+1) with side:=t2.side.drop c},(cV s2 (t2.side.take c) (bL t2.name t2.next) t2.width).2.1,(gJ (t2.side.take c) (cV s2 (t2.side.take c) (bL t2.name t2.next) t2.width)).2):=by
    rw[bh];rfl
   rw[ed] at er;generalize cV s2 (t2.side.take c) (bL t2.name t2.next) t2.width=m at*;refine⟨λe I=>e=(gJ (t2.side.take c) m).2/\∃U,ax U I p dp (gJ (t2.side.take c) m).1/\Step X U D I/\Bd (gJ (t2.side.take c) m).1 (xx+2*N+3000) (yy+3*N+9000),?_,?_⟩
   ·refine ah (λL=>?_) λL=>?_
    ·have T:m.2.2=0:=by simpa using L
     have ed:gJ (t2.side.take c) m=jF (t2.side.take c) m.1:=if_neg (by rw[T];simp);rw[ed];have Z:¬F3 k:=λq=>(SE.own k q).elim P λu=>by omega
     refine zM (rD.mod SE.mod P) Z pE fn (λA m2=>aF.rd (E:=kz) ((oD.mod SE.mod a7).mod m2 λb d q=>(SE.own b q).elim (a7 b d) λu=>by have:=oD.lt b d;omega)) (by omega) bM (by omega) λU I p4 S4=>⟨rfl,U,p4,SE.trans S4,Ar bM⟩
    ·have T:m.2.2≠0:=by simpa using L
     have ed:gJ (t2.side.take c) m=(m.1,m.2.2):=if_pos T;rw[ed];exact⟨rfl,F3,pE,SE,bM⟩
   ·rintro e I ⟨he,U,p4,S4,b4⟩;have zI:=S4.mod.size;have rI:=rD.mod S4.mod P;have bO:∀b,ai a b->b≠k/\¬X b:=λb d=>⟨λq=>S (q▸d),λq=>dB b q (.inr (.inr (.inr d)))⟩;have b0:Mod (λb=>X b\/b=k) B I:=((Ext.mod eC).trans' mD λb _ q=>.inr q).trans' S4.mod λb _ q=>.inl q;have bD:∀b,U b->X b\/B.size<=b:=λb d=>(S4.own b d).imp id λu=>by omega
    have d4:∀b,U b->¬cc k M O a b:=λb d q=>(bD b d).elim (λu=>dB b u q) λu=>by have:=g.lt b q;omega
    have af:∀b,cc k M O a b->b≠k->¬(X b\/b=k):=λb d hn q=>q.elim (λu=>dB b u d) hn;have qI:od I k p (t2.to (t2.next+1)) M O a:=⟨rI,g.wait.mod b0 (λb d=>af b (.inr (.inl d)) λq=>an (q▸d)) λx hx b d=>af b (.inr (.inr (.inl ⟨x,hx,d⟩))) λq=>g.jS x hx (q▸d),g.side.mod b0 λb d=>af b (.inr (.inr (.inr d))) λq=>S (q▸d),g.iY⟩;have SI:Step (λb=>F b\/cc k sw rs ss b) (λb=>U b\/cc k M O a b) H I:=by
     refine⟨SB.mod.trans' b0 λb d q=>?_,λb d=>?_⟩
     ·have:X b\/cc k M O a b:=q.elim .inl λu=>.inr (.inl u);exact(SB.own b this).resolve_right (by omega)
     ·rcases d with u|u
      ·rcases bD b u with v|v
       ·exact SB.own b (.inl v)
       ·exact .inr (by omega)
      ·exact SB.own b (.inr u)
    refine ah (λL=>?_) λL=>?_
    ·have T:e≠0:=by simpa using L
     rw[if_pos (by simp only;rw[<-he];exact T)] at er;rw[eB,er] at V;unfold So.last at V;rw[if_pos (by simp only;rw[<-he];exact T)] at V;simp only at V;rw[<-he] at V;have q:=V U _ M O a I p4 qI (λu=>absurd u T) d4 SI;rw[if_neg T] at q;exact q
    ·have T:e=0:=by simpa using L
     rw[if_neg (by simp only;rw[<-he,T];simp)] at er;refine rI.ld (c:=aq) (i:=5) (x:=a) rfl ?_;refine rI.ld (c:=ab .i64) (i:=3) (x:=t2.ag) rfl ?_;rw[ec,<-bh];refine⟨⟨by omega,by omega⟩,?_⟩;simp only[QP];refine ao.st rI (i:=5) (by simp[iM]) rfl λI1 r1 m1 z1=>?_;have c3:lJ I1 ⟨cM a.a a.c c 1,a.n - c,a.c - c⟩ (t2.side.drop c):=(qI.side.mod m1 λb d=>(bO b d).1).cut (by show c<=t2.side.length;omega);refine r1.ld (c:=aq) (i:=5) (x:=⟨cM a.a a.c c 1,a.n - c,a.c - c⟩) rfl ?_;refine lJ.push (x:=bL t2.name t2.next) c3 (by rw[RM];have:=Y.side;omega) λbl G oG mG gG=>?_;have al:∀b,ai (⟨cM a.a a.c c 1,a.n - c,a.c - c⟩:Sl) b->ai a b:=λb d=>CN d;have zG:=mG.size;have a8:∀b,ai bl b->ai a b\/B.size<=b:=λb d=>(gG b d).imp (al b) λu=>by omega
     have k5:¬ai bl k:=λq=>(a8 k q).elim S λu=>by omega
     have rG:ao G k AL (iM p {t2.to (t2.next+1) with side:=t2.side.drop c} M ⟨cM a.a a.c c 1,a.n - c,a.c - c⟩):=r1.mod mG λq=>S (al k q);refine ao.st rG (i:=5) (by simp[iM]) rfl λJ rJ mJ zJ=>?_;have bn:Mod (λb=>b=k\/ai a b) I J:=((m1.mono λb _ q=>.inl q).trans' mG λb _ q=>.inr (al b q)).trans' mJ λb _ q=>.inl q;have ee:=bn.size;have b1:∀b,ai M b->¬(b=k\/ai a b):=λb d q=>q.elim (λu=>an (u▸d)) λu=>g.side.apart g.wait.out (by decide) b u d;have b2:∀x∈O,∀b,ai x b->¬(b=k\/ai a b):=λx hx b d q=>q.elim (λu=>g.jS x hx (u▸d)) λu=>by
      obtain⟨l,hl⟩:=g.wait.rowAt hx;exact g.side.apart hl (by decide) b u d
     have sJ:od J k p {t2.to (t2.next+1) with side:=t2.side.drop c++[bL t2.name t2.next]} M O bl:=⟨rJ,qI.wait.mod bn b1 b2,oG.mod mJ λb d q=>k5 (q▸d),g.iY⟩;refine⟨f,⟨U,M,O,bl,_,(gJ (t2.side.take c) m).1,xx+2*N+3000,yy+3*N+9000,p4.ar λb d a6=>bn.same b a6 λq=>?_,sJ,λb d q=>?_,⟨SI.mod.trans' bn λb d q=>?_,λb d=>?_⟩,b4,by omega,by omega,⟨Y.name,Y.wait,?_,λn hn=>?_,by show t2.next+1<100;omega,Y.ag⟩,?_,fB,?_,by omega,wB,vB,?_⟩,Us _⟩
     ·exact d4 b d (q.elim .inl λu=>.inr (.inr (.inr u)))
     ·rcases zw q a8 with u|u
      ·exact d4 b d u
      ·have:=p4.lt b d;rcases q with v|v|v|v
       ·have:=g.lt b (.inl v);omega
       ·have:=g.lt b (.inr (.inl v));omega
       ·have:=g.lt b (.inr (.inr (.inl v)));omega
       ·rcases gG b v with w|w
        ·exact d4 b d (.inr (.inr (.inr (al b w))))
        ·omega
     ·have:X b\/cc k M O a b:=.inr (q.elim .inl λu=>.inr (.inr (.inr u)));exact(SB.own b this).resolve_right (by omega)
     ·rcases d with u|u
      ·exact SI.own b (.inl u)
      ·rcases zw u a8 with v|v
       ·exact SI.own b (.inr v)
       ·exact .inr (by omega)
     ·show (t2.side.drop _++[_]).length<=1000;have:=Y.side;simp;omega
     ·rcases QQ.1 (show n∈t2.side.drop c++[bL t2.name t2.next] from hn) with u|u
      ·exact Y.sizes n (TI u)
      ·rw[Q1] at u;subst u;exact bC
     ·show t2.next+1+(t2.side.drop _++[_]).length<=100;simp;omega
     ·show (t2.side.drop _++[_]).length<=f;simp;omega
     ·rw[eB,er]
  ·have a6:¬t2.ag<=(t2.side.length:Int):=by
    have:¬(a.n:Int)>=t2.ag:=by simpa using L
    omega
   have er:t2.rounds f s2=(s2,t2,0):=by
    cases f with
    |zero=>rfl
    |succ f=>exact if_neg a6
   rw[eB,er] at V;have a1:bT (bc t2.width t2.side s2).2.1<=N:=by
    rw[wB];exact hle X B s2 xx yy _ pB bB (by omega) (by omega) (by omega) Y.sizes
   have ed:So.last (s2,t2,0)=((gJ t2.side (cV s2 t2.side t2.name t2.width)).1,{t2 with side:=t2.side.drop t2.side.length},(cV s2 t2.side t2.name t2.width).2.1,(gJ t2.side (cV s2 t2.side t2.name t2.width)).2):=by
    unfold So.last;rw[if_neg (by simp)];show t2.merge s2 t2.side.length t2.name=_;unfold So.merge;rw[List.take_length]
   rw[ed] at V;simp only at V;refine g.row.ld (c:=aB) (i:=0) (x:=aK p) rfl ?_;refine g.row.ld (c:=aq) (i:=5) (x:=a) rfl ?_;refine g.row.ld (c:=aN) (i:=1) (x:=t2.name) rfl ?_;refine g.row.ld (c:=ab .i64) (i:=2) (x:=t2.width) rfl ?_;have:0<=f*(2*N+3000):=Q5 _;have:0<=f*(3*N+9000):=Q5 _;have bb:∀b,ai a b->¬X b:=λb d q=>dB b q (.inr (.inr (.inr d)));have ei:=Y.side;refine qU pB b7 (λA m=>(g.side.mod m bb).rd) Y.sizes (by have:=Y.name;omega) bB (by omega) (by omega) (by omega) a1 (by omega) (by omega) (by omega) λF3 E pE SE=>?_;have bM:=nE (to:=t2.name) (W:=t2.width) bB (by omega) (by omega) a1 pE.ag;generalize cV s2 t2.side t2.name t2.width=m at*;have Z:¬F3 k:=λq=>(SE.own k q).elim P λu=>by omega
   refine⟨λe I=>e=(gJ t2.side m).2/\∃U,ax U I p dp (gJ t2.side m).1/\Step X U B I,?_,?_⟩
   ·refine ah (λL=>?_) λL=>?_
    ·have T:m.2.2=0:=by simpa using L
     have ed:gJ t2.side m=jF t2.side m.1:=if_neg (by rw[T];simp);rw[ed];have rE:=g.row.mod SE.mod P;refine rE.ld (c:=aq) (i:=5) (x:=a) rfl ?_;refine zM rE Z pE b7 (λA m2=>((g.side.mod SE.mod bb).mod m2 λb d q=>(SE.own b q).elim (bb b d) λu=>by have:=g.side.lt b d;omega).rd) (by omega) bM (by omega) λU I p4 S4=>⟨rfl,U,p4,SE.trans S4⟩
    ·have T:m.2.2≠0:=by simpa using L
     have ed:gJ t2.side m=(m.1,m.2.2):=if_pos T;rw[ed];exact⟨rfl,F3,pE,SE⟩
   ·rintro e I ⟨he,U,p4,S4⟩;rw[<-he] at V;have q:=V U t2 M O a I p4 (g.mod S4.mod λb d q=>dB b q d) (λ_=>vB) (λb d q=>(S4.own b d).elim (λu=>dB b u q) λu=>by have:=g.lt b q;omega) ⟨SB.mod.trans' S4.mod λb d q=>(SB.own b (.inl q)).resolve_right (by omega),λb d=>?_⟩
    ·refine ah (λL=>?_) λL=>?_
     ·have T:e≠0:=by simpa using L
      rw[if_neg T] at q;exact q
     ·have T:e=0:=by simpa using L
      rw[if_pos T] at q;rw[T] at q;exact q
    ·rcases d with u|u
     ·rcases S4.own b u with v|v
      ·exact SB.own b (.inl v)
      ·exact .inr (by omega)
     ·exact SB.own b (.inr u)
set_option maxRecDepth 100000 in
theorem G9 {K:(Int×Int)->aa->Prop}{x y N R:Nat}(h:od H k p t sw rs ss)(hp:ax F H p dp s)(dis:∀b,F b->¬cc k sw rs ss b)(hz:xq t)(hw:t.wait.length<=900)(S:t.next+t.side.length+2<=100)(X:3<=t.ag)(b:Bd s x y)(hR:t.side.length+2<=R)(Y:N<=1000000000)(Z:x+400010+R*(2*N+3000)<=600000000000)(hy:y+805000+R*(3*N+9000)<=39000000000)
  (hle:Cg p dp t.width (t.side.length+1) N)
  (e:∀F' j G I J H',ax F' H' p dp (t.done s).1->od H' k p j G I J->j.ready=(t.done s).2.1.ready->(t.done s).2.1.ready≠0->(∀b,F' b->¬cc k G I J b)->Step (λb=>F b\/cc k sw rs ss b) (λb=>F' b\/cc k G I J b) H H'->K (((t.done s).2.2.1:Int),(t.done s).2.2.2) H'):FA.sp (aK k) H K:=by
 refine FA.of ?_;unfold FA.vc;refine jH h.row ?_;unfold So.done at e;refine ah (λL=>?_) (λL=>?_)
 ·have M:t.ready≠0:=by simpa using L
  rw[if_pos M] at e;exact e F t sw rs ss H hp h rfl M dis (.refl _ _)
 have M:¬t.ready≠0:=by simpa using L
 rw[if_neg M] at e;have T:t.wrong=0:=by
  unfold So.ready at M;by_cases q:t.wrong=0
  ·exact q
  ·rw[if_pos q] at M;exact absurd q M
 have gw:=So.Cf t s;refine JX h hp dis hz hw T S X b hR Y Z hy hle λV j a o c A pA C vA dA SA=>?_;unfold aK;simp only[aw];unfold So.ends at e;have O:=C.j9;have P:=C.oX;have go:∀(B:aa) (d:So),d.wait=j.wait->d.side=j.side->ao B k AL (iM p d a c)->Mod (λb=>b=k) A B->B.size=A.size->od B k p d a o c/\ax V B p dp (So.goes (t.first s)).1/\Step (λb=>F b\/cc k sw rs ss b) (λb=>V b\/cc k a o c b) H B:=λB d ew es U m z=>
  ⟨⟨U,by rw[ew];exact C.wait.mod m (λb D q=>O (q▸D)) λx Z b D q=>C.jS x Z (q▸D),by rw[es];exact C.side.mod m λb D q=>P (q▸D),by rw[ew];exact C.iY⟩,pA.ar λb D af=>m.same b af λq=>dA b D (.inl q),⟨SA.mod.trans' m λb D q=>(SA.own b (.inr (.inl q))).resolve_right (by omega),SA.own⟩⟩
 generalize So.goes (t.first s)=g at*;refine ah (λL=>?_) (λL=>?_)
 ·have E:g.2.2.2≠0:=by simpa using L
  rw[if_pos E] at e;refine ao.st C.row (i:=7) (by simp[iM]) rfl λB U mB zB=>?_;obtain⟨q0,q1,q2⟩:=go B {j with wrong:=g.2.2.2} rfl rfl U mB zB;have r1:({j with wrong:=g.2.2.2}:So).ready=g.2.2.2:=by unfold So.ready;exact if_pos E
  have r2:({g.2.1 with wrong:=g.2.2.2}:So).ready=g.2.2.2:=by unfold So.ready;exact if_pos E
  exact e V _ a o c B q1 q0 (r1.trans r2.symm) (by rw[r2];exact E) dA q2
 ·have E:g.2.2.2=0:=by simpa using L
  rw[if_neg (by rw[E];simp)] at e;rw[if_pos E];refine ao.st C.row (i:=8) (by simp[iM]) rfl λB U mB zB=>?_;obtain⟨q0,q1,q2⟩:=go B {j with closed:=true} rfl rfl U mB zB;have v1:=vA E;have r1:({j with closed:=true}:So).ready=2:=by unfold So.ready;rw[if_neg (by simp only;rw[v1];simp)];rfl
  have r2:({g.2.1 with closed:=true}:So).ready=2:=by unfold So.ready;rw[if_neg (by simp only;rw[gw,T];simp)];rfl
  exact e V _ a o c B q1 q0 (r1.trans r2.symm) (by rw[r2];decide) dA q2
end
end
section
open Go.MapKept
abbrev NV:=Int×ByteArray×Int×Int×Int
section
variable {H A:aa}{script:Sl}{xs:List NV}{R:Bool->aa->Prop}
end
end
section
open Go.MapKept
structure bY (V:aa)(Kp:Nat->Prop)(H0 A:aa)(X1 X2:Nat->Prop):Prop where
 ext:Ext H0 A
 n1:∀b,X1 b->H0.size<=b
 n2:∀b,X2 b->H0.size<=b
 dis:∀b,X1 b->¬X2 b
 kept:∀b,Kp b->b<A.size/\A[b]?=V[b]?/\¬X1 b/\¬X2 b
section
variable {V H0 A B:aa}{Kp X1 X2 X':Nat->Prop}
theorem bY.jE (h:bY V Kp H0 A X1 X2)(S:Step X1 X' A B)(e:∀b,X2 b->b<A.size):bY V Kp H0 B X' X2:=by
 have z:=h.ext.size;refine⟨⟨QZ z S.mod.size,λb a _=>(S.mod.same b (by omega) λq=>by have:=h.n1 b q;omega).trans (h.ext.same b a id)⟩,λb a=>?_,h.n2,λb a q=>?_,λb a=>?_⟩
 ·rcases S.own b a with u|u
  ·exact h.n1 b u
  ·omega
 ·rcases S.own b a with u|u
  ·exact h.dis b u q
  ·have:=e b q;omega
 ·obtain⟨c,g,d,i⟩:=h.kept b a;exact⟨Sk c S.mod.size,(S.mod.same b c d).trans g,λq=>(S.own b q).elim d λu=>by omega,i⟩
theorem bY.lI (h:bY V Kp H0 A X1 X2)(S:Step X2 X' A B)(e:∀b,X1 b->b<A.size):bY V Kp H0 B X1 X':=by
 have z:=h.ext.size;refine⟨⟨QZ z S.mod.size,λb a _=>(S.mod.same b (by omega) λq=>by have:=h.n2 b q;omega).trans (h.ext.same b a id)⟩,h.n1,λb a=>?_,λb a q=>?_,λb a=>?_⟩
 ·rcases S.own b a with u|u
  ·exact h.n2 b u
  ·omega
 ·rcases S.own b q with u|u
  ·exact h.dis b a u
  ·have:=e b a;omega
 ·obtain⟨c,g,i,d⟩:=h.kept b a;exact⟨Sk c S.mod.size,(S.mod.same b c d).trans g,i,λq=>(S.own b q).elim d λu=>by omega⟩
theorem bY.other {G:Nat->Prop}(h:bY V Kp H0 A X1 X2)(m:Mod G A B)(d:∀b,b<H0.size->¬G b)(hk:∀b,Kp b->¬G b):bY V Kp H0 B X1 X2:=
 ⟨⟨QZ h.ext.size m.size,λb a _=>(m.same b (Sk a h.ext.size) (d b a)).trans (h.ext.same b a id)⟩,h.n1,h.n2,h.dis,λb a=>by
   obtain⟨c,e,g,i⟩:=h.kept b a;exact⟨Sk c m.size,(m.same b c (hk b a)).trans e,g,i⟩⟩
theorem bY.go (h:bY V Kp H0 A X1 X2)(e:Ext A B):bY V Kp H0 B X1 X2:=h.other e (λ_ _=>id) λ_ _=>id
theorem bY.sub {Y1 Y2:Nat->Prop}(h:bY V Kp H0 A X1 X2)(s1:∀b,Y1 b->X1 b)(s2:∀b,Y2 b->X2 b):bY V Kp H0 A Y1 Y2:=⟨h.ext,λb a=>h.n1 b (s1 b a),λb a=>h.n2 b (s2 b a),λb a q=>h.dis b (s1 b a) (s2 b q),λb a=>by
 obtain⟨c,d,e,g⟩:=h.kept b a;exact⟨c,d,λq=>e (s1 b q),λq=>g (s2 b q)⟩⟩
theorem bY.more {a:Nat->Prop}(h:bY V Kp H0 A X1 X2)(c:∀b,a b->Kp b\/b<A.size/\¬X1 b/\¬X2 b):bY A a H0 A X1 X2:=⟨h.ext,h.n1,h.n2,h.dis,λb d=>by
 rcases c b d with u|⟨u,v,w⟩
 ·obtain⟨e,_,g,i⟩:=h.kept b u;exact⟨e,rfl,g,i⟩
 ·exact⟨u,rfl,v,w⟩⟩
end
section
variable {H A:aa}{R:Bool->aa->Prop}
set_option maxHeartbeats 2000000 in
theorem w7 {quota aj fr wd q ar:Int}{K:(Option hY×Option hY×Option hY×Option hY)->aa->Prop}(hg:Gl H)(hq:quota<=9223372036854775807)(hp:q<=9223372036854775807)
  (hK:∀B dp dm p m o z h j,j<12->bY H (λ_=>False) H B o z->aA o B p dp (me h (8+j))->ax z B m dm (me h (8+j))->h.aH=0->K (aK dp,aK dm,aK p,aK m) B):Je.sp quota aj fr wd q ar H K:=by
 refine Je.of ?_;unfold Je.vc;refine au λA z0 y J=>?_;obtain⟨E,L⟩:∃E,E=H.size:=⟨_,rfl⟩;rw[<-L] at y ⊢;refine⟨λB=>ao B E AS #[.int .i64 quota,.int .i64 aj,.int .i64 fr,.int .i64 wd,.int .i64 q,.int .u64 ar],y,?_⟩;refine y.ld (c:=ab .i64) (i:=0) (x:=quota) rfl ?_;refine yk hq λM d H1 a1 N f1=>?_;have r1:=y.ext N;refine⟨r1,?_⟩;refine ao.dE (c:=ab .i64) (i:=0) (x:=quota) (cs:=λ_=>_) (λ_ q=>q) (λ_ _=>rfl) ?_;refine Km hq λO n H2 a2 G f2=>?_;have r2:=r1.ext G;have an:=aI y;have C:=J.size;have z1:=N.size;have z2:=G.size;have D:bw M H2 d (oe quota):=a1.ar λb e a=>G.same b a id;have l1:=a1.lt;refine⟨λ_ B=>∃h P I,bw P B d h/\cA I B n h/\bY A (λ_=>False) A B P I/\h.aH=0,?_,?_⟩
 ·have g0:bY A (λ_=>False) A H2 M O:=⟨N.trans G,f1,λb e=>QZ z1 (f2 b e),λb e S=>by have:=l1 b e;have:=f2 b S;omega,λ_ q=>q.elim⟩;refine r2.ld (c:=ab .i64) (i:=4) (x:=q) rfl ?_;refine ah (λT=>?_) (λT=>⟨_,M,O,D,a2,g0,rfl⟩);refine r2.ld (c:=ab .i64) (i:=4) (x:=q) rfl ?_;refine r2.ld (c:=ab .u64) (i:=5) (x:=ar) rfl ?_;refine Il D hp λU A1 c1 X=>?_;have g1:=g0.jE X a2.lt;have k2:cA O A1 n (oe quota):=a2.ar λb e a=>X.mod.same b a λu=>g0.dis b u e;have r3:=r2.mod X.mod λu=>by have:=g0.n1 E u;omega
  refine r3.ld (c:=ab .i64) (i:=4) (x:=q) rfl ?_;refine r3.ld (c:=ab .u64) (i:=5) (x:=ar) rfl ?_;refine Ff k2 hp λY A2 c2 S2=>?_;exact⟨_,U,Y,c1.ar λb e a=>S2.mod.same b a λu=>g1.dis b e u,c2,g1.lI S2 c1.lt,by rw[Dk.vd];rfl⟩
 rintro _ B ⟨h,P,I,b1,b2,g,Z⟩;have gB:Gl B:=hg.mod (J.trans g.ext) id;have a6:=hg.lt;have rB:=y.ext g.ext;refine rB.ld (c:=ab .i64) (i:=1) (x:=aj) rfl ?_;refine pQ (by omega) ?_;rw[if_neg (by omega)];obtain⟨j,hj⟩:∃j:Nat,aj.emod 12=(j:Int):=⟨(aj.emod 12).toNat,(YC (Xc aj (by decide))).symm⟩;have al:(j:Int)<12:=hj▸Xx aj (by decide);rw[hj,wrap64 (by omega) (by omega)];have hm:(8:Int)+(j:Int)=((8+j:Nat):Int):=by omega
 rw[hm];refine lr gB b1 (λu=>by have:=g.n1 _ u;omega) (by omega) (by omega) λo p B1 h1 x1 w1=>?_;have af:=b2.lt;have g2:bY A (λ_=>False) A B1 o I:=g.jE ⟨x1.mono λ_ _ u=>u.elim,w1⟩ af;refine Hn (b2.ar λb e a=>x1.same b a id) (by omega) (by omega) λz m B2 h2 x2 w2=>?_;have g3:bY A (λ_=>False) A B2 o z:=g2.lI ⟨x2.mono λ_ _ u=>u.elim,w2⟩ h1.lt;exact hK B2 d n p m o z h j (by omega) ⟨J.trans g3.ext,λb e=>QZ C (g3.n1 b e),λb e=>QZ C (g3.n2 b e),g3.dis,λ_ q=>q.elim⟩ (h1.ext x2) h2 Z
set_option maxHeartbeats 2000000 in
theorem wb {V H0:aa}{Kp:Nat->Prop}{dp dm p m:Nat}{F1 F2:Nat->Prop}{s:Pl}{K:Bool->aa->Prop}(h:bY V Kp H0 A F1 F2)(c1:aA F1 A p dp s)(c2:ax F2 A m dm s)(hg:Gl H0)(a6:s.next<1099511627776)(hl:s.d.aH<68719476736)
  (hK:∀B,Ext H0 B->K true B):G6.sp (aK dp) (aK dm) (aK p) (aK m) A K:=by
 refine G6.of ?_;unfold G6.vc;have gA:Gl A:=hg.mod h.ext id;obtain⟨D1,P,i1,_⟩:=c1.cD gA;obtain⟨D2,a2,i2,_⟩:=c2.cD;obtain⟨ll,G,I,a7⟩:=c2.head;have U:=a2;obtain⟨fl,gs,cin,kp,g,a8⟩:=U;refine⟨λB=>ao B dm yo (dq fl s.d.most s.d.quota s.d.ops s.d.next s.d.crash.isSome cin kp s.d.down)/\ao B m tw (dR dm ll s),⟨g.head,G⟩,?_⟩;refine NI P ⟨⟨g.head,G⟩,?_⟩;refine aZ ⟨dm,0,none⟩ rfl ?_;refine ao.dE (c:=ab .i64) (i:=3) (x:=(s.d.ops:Int)) (cs:=λ_=>dq fl s.d.most s.d.quota s.d.ops s.d.next s.d.crash.isSome cin kp s.d.down) (λB q=>q.1) (λ_ _=>rfl) ?_;refine aE (by simp) ?_;refine KF P ⟨⟨g.head,G⟩,?_⟩;refine aZ ⟨dm,0,none⟩ rfl ?_;refine ao.dE (c:=aC) (i:=8) (x:=s.d.down) (cs:=λ_=>dq fl s.d.most s.d.quota s.d.ops s.d.next s.d.crash.isSome cin kp s.d.down) (λB q=>q.1) (λ_ _=>rfl) ?_;refine aE (by simp) ?_;refine JU P ⟨⟨g.head,G⟩,?_⟩;refine aZ ⟨dm,0,none⟩ rfl ?_;refine ao.dE (c:=ab .i64) (i:=1) (x:=(s.d.most:Int)) (cs:=λ_=>dq fl s.d.most s.d.quota s.d.ops s.d.next s.d.crash.isSome cin kp s.d.down) (λB q=>q.1) (λ_ _=>rfl) ?_;refine aE (by simp) ?_;refine AA c1 ⟨⟨g.head,G⟩,?_⟩;refine aZ ⟨m,0,none⟩ rfl ?_;refine ao.dE (c:=aq) (i:=2) (x:=ll) (cs:=λ_=>dR dm ll s) (λB q=>q.2) (λ_ _=>rfl) ?_;refine aE (by rw[I];simp) ?_;refine vJ c1 (by omega) λA1 S=>?_;refine zU (c2.ext S) (aE (by simp) ?_);have b1:=P.ar λb o d=>S.same b d id;have b2:=a2.ar λb o d=>S.same b d id;have g1:bY V Kp H0 A1 D1 D2:=(h.sub i1 i2).go S;refine BS b1 (by omega) λJ B1 q1 S1=>?_;have g2:=g1.jE S1 b2.lt;have X:cA D2 B1 dm s.d:=b2.ar λb o d=>S1.mod.same b d λq=>g1.dis b q o;refine yK X (by omega) λY B2 Z S2=>?_;have g3:=g2.lI S2 q1.lt;have L:bw J B2 dp s.d.c8:=q1.ar λb o d=>S2.mod.same b d λq=>g2.dis b o q;have e2:=g3.ext;have bb:=s.d.xF;generalize s.d.c8=t at*;have I:t.list.length<=4096:=by
  unfold Dk.list;split
  ·simp
  ·rw[(RG _ _).length_eq];simp;exact Z.wf.files
 refine xb L λl B3 o3 m3 g3=>?_;refine HX (Z.ar λb o d=>m3.same b d id) λl2 z o4 m4 g4=>?_;refine yc (o3.ext m4) o4 (by omega) ?_;refine aE rfl ?_;have m24:Ext B2 z:=m3.trans m4;have d1:bw J z dp t:=L.ar λb o d=>m24.same b d id;have d2:cA Y z dm t:=Z.ar λb o d=>m24.same b d id;have o5:aF EN dG z l t.list:=o3.ext m4;have hn:=aF.n o5 (by decide);have e5:Ext H0 z:=e2.trans m24;refine av t.list.length (λk x B=>x=(k:Int)/\Ext z B) ⟨rfl,.refl _ _⟩ ?_;rintro k _ B6 next hk ⟨rfl,T⟩ C
 refine ah (λhc=>?_) (λhc=>hK B6 (e5.trans T));have M:k<t.list.length:=by rw[hn] at hc;simpa using hc
 have D:∀{B:aa} {K:ByteArray->Prop},Ext z B->K (cP t.list[k])->ae l.a λa=>(0<=(k:Int)/\(k:Int)<(l.n:Int))/\tb aN B (a.add ((k:Int).toNat*1)) K:=λe h=>tf (o5.ext e) M h;refine D T ?_;generalize cP t.list[k]=nm at*;refine nZ (d2.ar λb o d=>T.same b d id) (by omega) λB7 e7=>?_;have hlen:=Dk.kG d2.wf nm;refine av ((t.len nm).1+1) (λj x B=>x=(j:Int)/\Ext z B) ⟨rfl,T.trans e7⟩ ?_;rintro j _ B8 af hj ⟨rfl,E⟩ y;refine ah (λN=>?_) (λN=>C M _ _ ⟨aD k (by omega),E⟩);have al:j<(t.len nm).1+1:=by simp at N;omega
 refine D E ?_;refine CH (d1.ar λb o d=>E.same b d id) λr9 B9 o9 e9 g9=>?_;refine D (E.trans e9) ?_;refine HN (d2.ar λb o d=>(E.trans e9).same b d id) (by omega) λbd bh an O g10=>?_;refine aE (by simp) ?_;refine lC (cg (o9.ext O)) ?_;refine lC an ?_;refine aE (by simp) ?_;exact y al _ _ ⟨aD j (by omega),(E.trans e9).trans O⟩
end
end
section
open Go.MapKept
theorem iD.O1 {H:aa}{base:Nat}{r:Sl}{l:List Int}(h:iD H base r l):aO H base fM 1 r (l.map (QT .u64)):=by
 have d:=h.len;obtain⟨h1,q⟩:=h.own;refine⟨by simp[d],.inr ?_⟩;rcases q with ⟨_,e⟩|⟨g,cap,cur,j,x,y,e,z,C,o⟩
 ·simp at e
 ·cases r with
  |mk a n c=>
    simp only[Sl.v,Q2] at j;obtain⟨D,_,E⟩:=j;simp only at d e o;refine⟨g,cap,cur,by simp[Sl.v,D,E],x,y,by show n<=cap;omega,z,C,?_⟩;have i:=congrArg (List.take n) o;rw[List.take_take,Rm,Zu (by simp[d])] at i;have G:min n ((n+1)*1)=n:=by omega
    rw[G] at i;show cur.toList.take (n*1)=_;rw[Rz];exact i
theorem Rows.go {H0:aa}{s:Sl}{ls:List (List Int)}(h:Rows H0 s ls){i:Nat}(hi:i<ls.length):∃r,Ints .u64 H0 r (ls[i]'hi)/\∀(B:aa) (K:Sl->Prop),Ext H0 B->K r->ae s.a λa=>(0<=(i:Int)/\(i:Int)<(s.n:Int))/\tb aq B (a.add ((i:Int).toNat*1)) K:=by
 obtain⟨ad,r,e,c,d⟩:=h.at' i hi;refine⟨r,d,λB K g j=>aZ ad e ⟨⟨by omega,by rw[h.len];omega⟩,r,?_,j⟩⟩;rw[QP,Rz];exact Mod.cell g c id
def nmS:ByteArray:=Q4 #[102]
theorem So.iZ {t:So}:t.ready=0↔t.wrong=0/\t.closed=false:=by
 unfold So.ready;constructor
 ·intro h;by_cases q:t.wrong=0
  ·rw[if_neg (by rw[q];simp)] at h;refine⟨q,?_⟩;cases e:t.closed with
   |true=>rw[e] at h;simp at h
   |false=>rfl
  ·rw[if_pos q] at h;exact absurd h q
 ·rintro⟨h1,a⟩;rw[h1,a];rfl
theorem oQ {x:Int}(h:aL x≠0):0<=x/\x<=16:=by
 rcases Decidable.em (x<0\/x>16) with q|q
 ·refine absurd ?_ h;unfold aL bI;rw[if_pos q];rfl
 ·omega
structure tK (t:So)(w fr i:Nat):Prop where
 name:t.name.size<=100
 width:t.width=(w:Int)
 ag:t.ag=(fr:Int)
 cnt:t.side.length*(fr*zL w)+t.wait.length<=i
 next:t.next=t.side.length
 sizes:∀n∈t.side,n.size<=9223372036854775807
 ready:t.ready=0
section
variable {t:So}{w fr i:Nat}
theorem tK.iY (h:tK t w fr i)(hw:w<=16)(a:3<=fr):9*t.side.length<=i/\t.wait.length<=i/\3*(t.side.length*zL w)<=i/\zL w<=504:=by
 obtain⟨d,r2,_,e⟩:=ie (Q5 w) hw;have c:=h.cnt;have h1:t.side.length*(3*zL w)<=t.side.length*(fr*zL w):=Xj _ (Rq _ a);rw[XQ] at h1;have g:t.side.length*3<=t.side.length*zL w:=Xj _ r2;omega
theorem tK.OE (h:tK t w fr i)(hw:w<=16)(c:3<=fr)(d:fr<=100)(hi:i<=400):xq t:=by
 obtain⟨a,b,_,_⟩:=h.iY hw c;refine⟨by have:=h.name;omega,by omega,by omega,h.sizes,by rw[h.next];omega,by rw[h.ag];omega⟩
theorem tK.add (h:tK t w fr i)(hw:w<=16)(d:3<=fr)(hi:i<=400)(s:Pl)(l:List Int):tK (t.add s l).2.1 w fr (i+1)\/(t.add s l).2.1.ready≠0:=by
 obtain⟨g,r2,_,x⟩:=ie (Q5 w) hw;obtain⟨f1,_⟩:=h.iY hw d;have c:=h.cnt;obtain⟨j,a⟩:=So.iZ.1 h.ready;unfold So.add;rw[if_neg (by rw[h.ready];simp)];split
 ·exact .inl ⟨h.name,h.width,h.ag,Nat.le_succ_of_le c,h.next,h.sizes,h.ready⟩
 ·split
  ·refine .inl ⟨h.name,h.width,h.ag,?_,h.next,h.sizes,So.iZ.2 ⟨j,a⟩⟩;show t.side.length*(fr*zL w)+(t.wait++[l]).length<=i+1;rw[Ri,SQ];omega
  ·rename_i _ q;rw[h.ag,h.width,g] at q;have q:fr*zL w<=t.wait.length+1:=by
    have:((fr*zL w:Nat):Int)=(fr:Int)*(zL w:Int):=by simp
    omega
   by_cases e:({t with wait:=t.wait++[l]}.aside s).2.2=0
   ·left;refine⟨h.name,h.width,h.ag,?_,?_,λn o=>?_,So.iZ.2 ⟨e,a⟩⟩
    ·show (t.side++[_]).length*(fr*zL w)+0<=i+1;rw[Ri,SQ,RQ];omega
    ·show t.next+1=(t.side++[_]).length;rw[Ri,SQ,h.next]
    ·rcases QQ.1 (show n∈t.side++[bL t.name t.next] from o) with u|u
     ·exact h.sizes n u
     ·rw[Q1] at u;subst u;have:=cU (n:=t.next) (by rw[h.next];omega);have:=h.name;rw[eL];omega
   ·exact .inr λq=>e (So.iZ.1 q).1
theorem O5 {S r a b T:Nat}(h1:S<=a)(c:S*r<=b)(g:r<=504)(h:a*b+3*b+1008<=T):(S+1)*(r*1048576)<=(b+504)*1048576/\(S+2)*(2*((S+1)*(r*1048576))+3000)<=2097152*T+3000*(a+2)/\(S+2)*(3*((S+1)*(r*1048576))+9000)<=3145728*T+9000*(a+2):=by
 have d:(S+1)*(r*1048576)=(S*r+r)*1048576:=by rw[<-ZZ,RQ]
 have e:(S+2)*(S*r+r)<=T:=by
  have q:S*(S*r)<=a*b:=Nat.mul_le_mul h1 c;rw[Nat.add_mul,Y6];omega
 have j:(S+2)*((S*r+r)*1048576)<=T*1048576:=by
  rw[<-ZZ];exact Rq _ e
 rw[d];refine⟨by omega,?_,?_⟩
 ·rw[Y6,XQ];omega
 ·rw[Y6,XQ];omega
def AZ (t:So)(X Y:Nat):Prop:=∃N,(t.side.length+1)*((aL t.width).toNat*1048576)<=N/\N<=1000000000/\(t.side.length+2)*(2*N+3000)<=X/\(t.side.length+2)*(3*N+9000)<=Y/\t.next+t.side.length+2<=100
theorem tK.cost {a b T X Y:Nat}(c:tK t w fr i)(hw:w<=16)(o:3<=fr)(J:i<=9*a+8)(L:i<=3*b+2)(q:a<=44)(g:b<=133)(d:a*b+3*b+1008<=T)(x:2097152*T+3000*(a+2)<=X)(y:3145728*T+9000*(a+2)<=Y):AZ t X Y:=by
 obtain⟨f1,f2,f3,f4⟩:=c.iY hw o;obtain⟨z,_⟩:=ie (Q5 w) hw;have h:=c.next;have j:=c.width;clear c;generalize zL w=r at*;have e:(b+504)*1048576<=1000000000:=QZ (Rq 1048576 (Nat.add_le_add_right g 504)) (by decide);have C:t.next+t.side.length+2<=100:=by clear d e;rw[h];omega
 have s1:t.side.length<=a:=by clear d e;omega
 have s2:t.side.length*r<=b:=by clear d e;omega
 obtain⟨D,E,G⟩:=O5 (S:=t.side.length) (r:=r) (a:=a) (b:=b) s1 s2 f4 d;have I:(aL t.width).toNat=r:=by rw[j,z,QP]
 unfold AZ;rw[I];exact⟨(t.side.length+1)*(r*1048576),QN _,QZ D e,QZ E x,QZ G y,C⟩
theorem tK.ti (c:tK t w fr i)(hw:w<=16)(d:3<=fr)(hi:i<=400):AZ t 16000000000 23000000000:=c.cost (a:=44) (b:=133) (T:=7259) hw d (by omega) (by omega) (by decide) (by decide) (by decide) (by decide) (by decide)
theorem tK.xO (c:tK t w fr i)(hw:w<=16)(d:3<=fr)(hi:i<=200):AZ t 5600000000 8400000000:=c.cost (a:=22) (b:=66) (T:=2658) hw d (by omega) (by omega) (by decide) (by decide) (by decide) (by decide) (by decide)
end
def fY (A:aa)(d p k:Nat)(X:Nat->Prop)(s:Pl)(t:So):Prop:=∃F sw rs ss,X=(λb=>F b\/cc k sw rs ss b)/\aA F A p d s/\rK A k p t sw rs ss/\∀b,F b->¬cc k sw rs ss b
def kg (A:aa)(d p k:Nat)(X:Nat->Prop)(s:Pl)(t:So):Prop:=∃F sw rs ss,X=(λb=>F b\/cc k sw rs ss b)/\ax F A p d s/\od A k p t sw rs ss/\∀b,F b->¬cc k sw rs ss b
def lO (A:aa)(d p k:Nat)(X:Nat->Prop)(s:Pl)(t:So):Prop:=∃F sw ss,X=(λb=>F b\/b=k)/\aA F A p d s/\ao A k xE (iM p t sw ss)/\¬F k
def lH (A:aa)(d p k:Nat)(X:Nat->Prop)(s:Pl)(t:So):Prop:=∃F sw ss,X=(λb=>F b\/b=k)/\ax F A p d s/\ao A k AL (iM p t sw ss)/\¬F k
section
variable {A B:aa}{d p k:Nat}{X G:Nat->Prop}{s:Pl}{t:So}
theorem fY.lt (h:fY A d p k X s t):∀b,X b->b<A.size:=by
 obtain⟨F,sw,rs,ss,rfl,h1,a,_⟩:=h;exact λb c=>c.elim (h1.lt b) (a.lt b)
theorem kg.lt (h:kg A d p k X s t):∀b,X b->b<A.size:=by
 obtain⟨F,sw,rs,ss,rfl,h1,a,_⟩:=h;exact λb c=>c.elim (h1.lt b) (a.lt b)
theorem lO.lt (h:lO A d p k X s t):∀b,X b->b<A.size:=by
 obtain⟨F,sw,ss,rfl,h1,a,_⟩:=h;exact λb c=>c.elim (h1.lt b) λu=>u▸aI a
theorem lH.lt (h:lH A d p k X s t):∀b,X b->b<A.size:=by
 obtain⟨F,sw,ss,rfl,h1,a,_⟩:=h;exact λb c=>c.elim (h1.lt b) λu=>u▸aI a
theorem fY.mod (h:fY A d p k X s t)(m:Mod G A B)(c:∀b,X b->¬G b):fY B d p k X s t:=by
 obtain⟨F,sw,rs,ss,rfl,h1,e,g⟩:=h;exact⟨F,sw,rs,ss,rfl,h1.ar λb a hl=>m.same b hl (c b (.inl a)),e.mod m λb a=>c b (.inr a),g⟩
theorem kg.mod (h:kg A d p k X s t)(m:Mod G A B)(c:∀b,X b->¬G b):kg B d p k X s t:=by
 obtain⟨F,sw,rs,ss,rfl,h1,e,g⟩:=h;exact⟨F,sw,rs,ss,rfl,h1.ar λb a hl=>m.same b hl (c b (.inl a)),e.mod m λb a=>c b (.inr a),g⟩
theorem lO.mod (h:lO A d p k X s t)(m:Mod G A B)(a:∀b,X b->¬G b):lO B d p k X s t:=by
 obtain⟨F,sw,ss,rfl,h1,c,e⟩:=h;exact⟨F,sw,ss,rfl,h1.ar λb g hl=>m.same b hl (a b (.inl g)),c.mod m (a k (.inr rfl)),e⟩
theorem lH.mod (h:lH A d p k X s t)(m:Mod G A B)(a:∀b,X b->¬G b):lH B d p k X s t:=by
 obtain⟨F,sw,ss,rfl,h1,c,e⟩:=h;exact⟨F,sw,ss,rfl,h1.ar λb g hl=>m.same b hl (a b (.inl g)),c.mod m (a k (.inr rfl)),e⟩
theorem fY.die (h:fY A d p k X s t):∃Y,lO A d p k Y s t/\∀b,Y b->X b:=by
 obtain⟨F,sw,rs,ss,rfl,h1,a,c⟩:=h;exact⟨_,⟨F,sw,ss,rfl,h1,a.rd.row,λq=>c k q (.inl rfl)⟩,λb e=>e.imp id λu=>.inl u⟩
theorem kg.die (h:kg A d p k X s t):∃Y,lH A d p k Y s t/\∀b,Y b->X b:=by
 obtain⟨F,sw,rs,ss,rfl,h1,a,c⟩:=h;exact⟨_,⟨F,sw,ss,rfl,h1,a.row,λq=>c k q (.inl rfl)⟩,λb e=>e.imp id λu=>.inl u⟩
variable {w fr i:Nat}{l:Sl}{ll:List Int}
theorem fY.add {K:Int->aa->Prop}{x y:Nat}(h:fY A d p k X s t)(z:Gl A)(C:¬X bt)(a:tK t w fr i)(hw:w<=16)(j:3<=fr)(D:fr<=100)(hi:i<=400)(hl:Ints .u64 A l ll)(b:Bd s x y)(o:x<800000000000)(E:y<50000000000)
  (I:∀X' B,fY B d p k X' (t.add s ll).1 (t.add s ll).2.1->Step X X' A B->Bd (t.add s ll).1 (x+400010) (y+805000)->K (t.add s ll).2.2 B):so.sp (aK k) l A K:=by
 obtain⟨F,sw,rs,ss,rfl,h1,J,L⟩:=h;obtain⟨f1,f2,_⟩:=a.iY hw j;exact Ku z (λq=>C (.inr q)) J h1 L (a.OE hw j D hi) (by omega) (by rw[a.width];omega) hl b o E λF' c e g B p1 s1 d1 M=>I _ B ⟨F',c,e,g,rfl,p1,s1,d1⟩ M (So.MV b o (by omega) p1.ag)
theorem kg.add {K:Int->aa->Prop}{x y:Nat}(h:kg A d p k X s t)(a:tK t w fr i)(hw:w<=16)(j:3<=fr)(o:fr<=100)(hi:i<=400)(hl:Ints .u64 A l ll)(b:Bd s x y)(q:x<800000000000)(z:y<50000000000)
  (C:∀X' B,kg B d p k X' (t.add s ll).1 (t.add s ll).2.1->Step X X' A B->K (t.add s ll).2.2 B):BX.sp (aK k) l A K:=by
 obtain⟨F,sw,rs,ss,rfl,h1,D,E⟩:=h;obtain⟨f1,f2,_⟩:=a.iY hw j;exact Jn D h1 E (a.OE hw j o hi) (by omega) (by rw[a.width];omega) hl b q z λF' c e g B p1 s1 d1 I=>C _ B ⟨F',c,e,g,rfl,p1,s1,d1⟩ I
theorem lO.add {K:Int->aa->Prop}(h:lO A d p k X s t)(a:t.ready≠0)(c:K t.ready A):so.sp (aK k) l A K:=by
 obtain⟨F,sw,ss,rfl,h1,e,_⟩:=h;refine so.of ?_;unfold so.vc;exact kU e (aR (by simpa using a) c)
theorem lH.add {K:Int->aa->Prop}(h:lH A d p k X s t)(a:t.ready≠0)(c:K t.ready A):BX.sp (aK k) l A K:=by
 obtain⟨F,sw,ss,rfl,h1,e,_⟩:=h;refine BX.of ?_;unfold BX.vc;exact jH e (aR (by simpa using a) c)
theorem lO.done {K:(Int×Int)->aa->Prop}(h:lO A d p k X s t)(a:t.ready≠0)(c:K (0,t.ready) A):vU.sp (aK k) A K:=by
 obtain⟨F,sw,ss,rfl,h1,e,_⟩:=h;refine vU.of ?_;unfold vU.vc;exact kU e (aR (by simpa using a) c)
theorem lH.done {K:(Int×Int)->aa->Prop}(h:lH A d p k X s t)(a:t.ready≠0)(c:K (0,t.ready) A):FA.sp (aK k) A K:=by
 obtain⟨F,sw,ss,rfl,h1,e,_⟩:=h;refine FA.of ?_;unfold FA.vc;exact jH e (aR (by simpa using a) c)
theorem fY.done {K:(Int×Int)->aa->Prop}{x y a c:Nat}(h:fY A d p k X s t)(C:Gl A)(D:¬X bt)(e:tK t w fr i)(hw:w<=16)(o:3<=fr)(E:fr<=100)(hi:i<=400)(b:Bd s x y)(I:AZ t a c)(U:x+400010+a<=600000000000)(Y:y+805000+c<=39000000000)
  (J:∀X' B,lO B d p k X' (t.done s).1 (t.done s).2.1->Step X X' A B->Bd (t.done s).1 (x+400010+a) (y+805000+c)->K (((t.done s).2.2.1:Int),(t.done s).2.2.2) B):vU.sp (aK k) A K:=by
 obtain⟨F,sw,rs,ss,rfl,h1,L,M⟩:=h;obtain⟨f1,f2,_⟩:=e.iY hw o;obtain⟨N,n1,n2,Z,n4,n5⟩:=I;refine Gh (N:=N) (R:=t.side.length+2) C (λq=>D (.inr q)) L h1 M (e.OE hw o E hi) n5 (by rw[e.ag];omega) b (QN _) n2 (by omega) (by omega) (λ_=>.inr (LR (by omega) n1)) λF' g O j B p1 P d1 z S=>?_;exact J _ B ⟨F',g,j,rfl,p1,P,λq=>d1 k q (.inl rfl)⟩ ⟨z.mod,λb T=>z.own b (T.imp id .inl)⟩ (S.mono (by omega) (by omega))
theorem kg.done {K:(Int×Int)->aa->Prop}{x y j o:Nat}(h:kg A d p k X s t)(c:tK t w fr i)(hw:w<=16)(z:3<=fr)(D:fr<=100)(hi:i<=400)(b:Bd s x y)(E:AZ t j o)(T:x+400010+j<=600000000000)(U:y+805000+o<=39000000000)
  (I:∀X' a B,lH B d p k X' (t.done s).1 a->a.ready=(t.done s).2.1.ready->(t.done s).2.1.ready≠0->Step X X' A B->K (((t.done s).2.2.1:Int),(t.done s).2.2.2) B):FA.sp (aK k) A K:=by
 obtain⟨F,sw,rs,ss,rfl,h1,J,L⟩:=h;obtain⟨f1,f2,_⟩:=c.iY hw z;obtain⟨N,n1,n2,Y,Z,n5⟩:=E;refine G9 (N:=N) (R:=t.side.length+2) J h1 L (c.OE hw z D hi) (by omega) n5 (by rw[c.ag];omega) b (QN _) n2 (by omega) (by omega) (MH (by omega) n1) λF' a e M g B p1 s1 O P d1 C=>?_;exact I _ a B ⟨F',e,g,rfl,p1,s1.row,λq=>d1 k q (.inl rfl)⟩ O P ⟨C.mod,λb S=>C.own b (S.imp id .inl)⟩
end
def Dj:Pl:=me (oe 20) 8
def Fk (l:List (List Int)):So:={qJ nmS 1 3 with wait:=l}
def Pn:Pl:=(fu Dj (bL nmS 0) 1 [[1],[5]]).1
def AP:Pl×So×Nat×Int:=So.goes (Pn,(Fk [[5],[1],[5]]).gV,0)
def J8:RR:=(rnOpen AP.1 nmS 1).2.1.getD default
def Kh:Pl:=(rnOpen AP.1 nmS 1).1
theorem Oy:cG (eN [[5],[1],[5]])=[[1],[5]]:=by
 refine xu (uK _) (by simp[Aj,wu,aX]) λy=>?_;rw[kf];simp only[QX,List.not_mem_nil,or_false];constructor
 ·rintro(h|h|h)<;>simp[h]
 ·rintro(h|h)<;>simp[h]
set_option maxRecDepth 100000 in
theorem Ps:((fu Dj (bL nmS 0) 1 [[1],[5]]).2==0&&AP.2.2.2==0&&AP.2.2.1==2&&decide (0<=AP.1.next)&&(rnOpen AP.1 nmS 1).2.1.isSome&&(rnOpen AP.1 nmS 1).2.2==0&&(J8.next Kh).2.2==([1],true,0)&&!(J8.next Kh).1.d.down&&(J8.next Kh).1.d.files.length==1&&decide (0<=Kh.next)&&decide (Kh.next<1000)&&decide (Kh.d.aH<1000))=true:=by decide+kernel
theorem gI (l:List (List Int))(x:Int)(h:l.length<3):(Fk l).add Dj [x]=(Dj,Fk (l++[[x]]),0):=by
 unfold So.add;rw[if_neg (by show ¬(0:Int)≠0;decide),if_neg (by show ¬(1:Int)≠1;decide),if_pos]
 ·rfl
 ·show ((l.length+1:Nat):Int)<3*aL 1;rw[show aL 1=63 by decide];omega
theorem NR:(Fk [[5],[1],[5]]).done Dj=(AP.1,{AP.2.1 with closed:=true},2,0):=by
 have h:=Ps;simp only[QY,beq_iff_eq,decide_eq_true_eq] at h;obtain⟨⟨⟨⟨⟨⟨⟨⟨⟨⟨⟨h1,a⟩,c⟩,_⟩,_⟩,_⟩,_⟩,_⟩,_⟩,_⟩,_⟩,_⟩:=h;have e:(Fk [[5],[1],[5]]).first Dj=(Pn,(Fk [[5],[1],[5]]).gV,0):=by
  unfold So.first;rw[if_pos (.inl (by show [[5],[1],[5]]≠[];simp))];show ((fu Dj (bL nmS 0) 1 (cG (eN [[5],[1],[5]]))).1,(Fk [[5],[1],[5]]).gV,(fu Dj (bL nmS 0) 1 (cG (eN [[5],[1],[5]]))).2)=_;rw[Oy,h1];rfl
 unfold So.done;rw[if_neg (by show ¬(0:Int)≠0;decide),e];show So.ends AP=_;unfold So.ends;rw[if_neg (by rw[a];decide),c]
section
variable {H:aa}
set_option maxHeartbeats 1000000 in
theorem jY {K:Bool->aa->Prop}(g:Gl H)(hK:∀B,Ext H B->K true B):yF.sp H K:=by
 have ev:=Ps;simp only[QY,beq_iff_eq,decide_eq_true_eq,R7] at ev;obtain⟨⟨⟨⟨⟨⟨⟨⟨⟨⟨⟨_,_⟩,_⟩,v4⟩,v5⟩,v6⟩,v7⟩,v8⟩,v9⟩,v10⟩,v11⟩,v12⟩:=ev;refine yF.of ?_;unfold yF.vc;have a7:=g.lt;refine yk (by decide) λF1 d H1 a1 y f1=>?_;refine lr (m:=8) (g.mod y id) a1 (λq=>by have:=f1 _ q;omega) (by decide) (by decide) λP p e M x2 w2=>?_;have z1:=y.size;have h:bY H (λ_=>False) H e P (λ_=>False):=⟨y.trans x2,λb a=>(w2 b a).elim (f1 b) λu=>by omega,λ_ q=>q.elim,λ_ _ q=>q,λ_ q=>q.elim⟩;have l2:=M.lt;refine mO M (λn1=>absurd (congrArg WJ n1) (by rw[show (eY (me (oe 20) 8) (Q4 #[102]) 1 3).1.isSome=true by decide+kernel];simp)) λ_ _ N e3 s3=>?_;refine aE rfl (aE rfl ?_);have z2:=h.ext.size;have sO:∀b,cc e.size aY [] aY b->b=e.size:=by
  rintro b (u|u|⟨x,O,_⟩|u)
  ·exact u
  ·exact absurd u (aU b)
  ·cases O
  ·exact absurd u (aU b)
 have S3:fY N d p e.size (λb=>P b\/cc e.size aY [] aY b) Dj (Fk []):=⟨P,aY,[],aY,rfl,M.ext e3,s3,λb a u=>by have:=sO b u;have:=l2 b a;omega⟩;have T:bY H (λ_=>False) H N (λb=>P b\/cc e.size aY [] aY b) (λ_=>False):=⟨h.ext.trans e3,λb a=>a.elim (h.n1 b) λu=>by have:=sO b u;omega,λ_ q=>q.elim,λ_ _ q=>q,λ_ q=>q.elim⟩;have b0:Bd Dj 1 0:=⟨λf hf=>by simp[Dj,me] at hf,by decide,by decide,by decide⟩;have z:∀l:List (List Int),l.length<=3->tK (Fk l) 1 3 3:=λl hl=>⟨by show nmS.size<=100;decide,rfl,rfl,by show 0*_+l.length<=3;omega,rfl,λn U=>(by cases U),rfl⟩
 -- a row
 have row:∀(l:List (List Int)) (x:Int) (A:aa) (X:Nat->Prop) (Y:Int->aa->Prop),l.length<3->bY H (λ_=>False) H A X (λ_=>False)->fY A d p e.size X Dj (Fk l)->(∀X' B,bY H (λ_=>False) H B X' (λ_=>False)->fY B d p e.size X' Dj (Fk (l++[[x]]))->Y 0 B)->aG A #[.int .u64 x] fM λq Z=>so.sp (aK e.size) (Sl.mk (some q) 1 1) Z Y:=λl x A X Y hl ap S af=>by
  refine wv (k:=.u64) [x] λq B _ _ J eB=>?_;have E:=ap.go eB;refine(S.mod eB λ_ _ u=>u).add (g.mod E.ext id) (λq=>by have:=ap.n1 _ q;omega) (z l (by omega)) (by decide) (by decide) (by decide) (by decide) (J 1) b0 (by decide) (by decide) λX' C q1 S1 _=>?_;rw[gI l x hl] at q1 ⊢;exact af X' C (E.jE S1 λ_ u=>u.elim) q1
 refine row [] 5 N _ _ (by decide) T S3 λX4 Z al S4=>aE rfl ?_;refine row _ 1 Z _ _ (by decide) al S4 λX5 H5 an S5=>aE rfl ?_;refine row _ 5 H5 _ _ (by decide) an S5 λX6 H6 j S6=>aE rfl ?_;refine S6.done (g.mod j.ext id) (λq=>by have:=j.n1 _ q;omega) (z _ (by decide)) (by decide) (by decide) (by decide) (by decide) b0 ((z _ (by decide)).xO (by decide) (by decide) (by decide)) (by decide) (by decide) λX7 H7 q7 S7 b7=>?_;have ed:(Fk ([]++[[5]]++[[1]]++[[5]])).done Dj=(AP.1,{AP.2.1 with closed:=true},2,0):=NR;rw[ed] at q7 b7 ⊢;have n7:=b7.hi;have l7:=b7.aH;obtain⟨F7,a8,bb,rfl,p7,_,_⟩:=q7;have o:=(j.jE S7 λ_ u=>u.elim).sub (Y1:=F7) (Y2:=λ_=>False) (λb a=>.inl a) λ_ u=>u;have g7:=g.mod o.ext id;refine pP g7 p7 (n:=nmS) (by decide) (by omega) (by omega) v4 (λF8 H8 _ _ L=>absurd v5 (by rw[L];simp)) λF8 H8 k r p8 S8 L z k1 k2=>?_;have er:r=J8:=by
  unfold J8;rw[L];rfl
 subst er;obtain⟨ok,rb,_,_,_⟩:=jU L;refine aE (by rw[v6];rfl) (aE rfl ?_);have c:=o.jE S8 λ_ u=>u.elim;have g8:=g.mod c.ext id;have z7:=o.ext.size;have rO:∀b,oI k aY [] b->b=k:=by
  rintro b (u|u|⟨x,O,_⟩)
  ·exact u
  ·exact absurd u (aU b)
  ·cases O
 refine uQ (H0:=H8) (F0:=F8) (O0:=oI k aY []) g8 (λq=>by have:=c.n1 _ q;omega) (by omega) ⟨p8,z,λb a u=>k2 (rO b u▸a),.refl _ _,λb a=>.inl a,λb a=>.inl a⟩ ok (by rw[rb];decide) (by show Kh.d.aH<_;omega) (by show Kh.next<_;omega) (by show 0<=Kh.next;exact v10) λF9 si rs C l hR hO a6=>?_;have hv:(J8.next (rnOpen AP.1 nmS 1).1).2.2=([1],true,0):=v7;rw[hv] at hO ⊢;have J:Ints .u64 C l [1]:=hO.ints;have U:l.n=1:=J.len;refine aR (by simp[U]) ?_;refine J.ld (i:=0) (by decide) (by decide) λad _=>?_;refine aR rfl ?_;have eC:Ext H C:=⟨QZ c.ext.size hR.mod.size,λb a _=>(hR.mod.same b (by have:=c.ext.size;omega) λu=>u.elim (λv=>by have:=c.n1 b v;omega) λv=>by omega).trans (c.ext.same b a id)⟩;obtain⟨D,hD,_,_⟩:=hR.aj.cD (g.mod eC id);refine xb hD λl2 B o2 e2 _=>?_;have I:=aF.n o2 (by decide);have y:(J8.next (rnOpen AP.1 nmS 1).1).1.d.list.length=1:=by
  have d1:(J8.next (rnOpen AP.1 nmS 1).1).1.d.down=false:=v8;have d2:(J8.next (rnOpen AP.1 nmS 1).1).1.d.files.length=1:=v9;unfold Dk.list;rw[d1,if_neg (by simp),(RG _ _).length_eq,Rg];exact d2
 rw[y] at I;rw[I];exact hK B (eC.trans e2)
end
end
section
open Go.MapKept
def rL (V:aa)(Kp:Nat->Prop)(H0 A:aa)(d n p m a c w fr i x y:Nat):Prop:=∃X1 X2 s t,bY V Kp H0 A X1 X2/\fY A d p a X1 s t/\kg A n m c X2 s t/\tK t w fr i/\Bd s (x+400010*i) (y+805000*i)
def ow (V:aa)(Kp:Nat->Prop)(H0 A:aa)(d n p m c e x y:Nat):Prop:=∃X1 X2 s t a,bY V Kp H0 A X1 X2/\lO A d p c X1 s t/\lH A n m e X2 s a/\t.ready≠0/\a.ready=t.ready/\Bd s x y
def eX (V:aa)(Kp:Nat->Prop)(H0 A:aa)(d n p m x y:Nat):Prop:=∃a c s,bY V Kp H0 A a c/\aA a A p d s/\ax c A m n s/\Bd s x y
section
variable {V H0 A:aa}{Kp:Nat->Prop}{d n p m k1 k2 w fr i x0 y0 X Y:Nat}{rows:Sl}{rl:List (List Int)}{R:Bool->aa->Prop}
set_option maxHeartbeats 1000000 in
theorem JO {K:aa->Prop}(h:rL V Kp H0 A d n p m k1 k2 w fr i x0 y0\/ow V Kp H0 A d n p m k1 k2 X Y)(hg:Gl H0)(hw:w<=16)(h3:3<=fr)(hf:fr<=100)(hi:i<400)(hx:x0+400010*(i+1)<=X/\x0+400010*(i+1)<=700000000000)(hy:y0+805000*(i+1)<=Y/\y0+805000*(i+1)<=49000000000)(hr:Rows H0 rows rl)(hlen:∀l∈rl,l.length<=17592186043904){j:Nat}(hj:j<rl.length)
  (hK:∀B,rL V Kp H0 B d n p m k1 k2 w fr (i+1) x0 y0\/ow V Kp H0 B d n p m k1 k2 X Y->K B):
  ae rows.a λa=>(0<=(j:Int)/\(j:Int)<(rows.n:Int))/\tb aq A (a.add ((j:Int).toNat*1)) λ(an:Sl)=>Ko.sp an A λ(l:Sl) H8=>so.sp (aK k1) l H8 λ(bb:Int) H9=>ae rows.a λbh=>(0<=(j:Int)/\(j:Int)<(rows.n:Int))/\tb aq H9 (bh.add ((j:Int).toNat*1)) λ(a1:Sl)=>BX.sp (aK k2) a1 H9 λ(bl:Int) P=>br (bb !=bl) (R false P) (ae rows.a λS=>(0<=(j:Int)/\(j:Int)<(rows.n:Int))/\tb aq P (S.add ((j:Int).toNat*1)) λ(g:Sl)=>Iw.sp l g P λ(T:Bool) o=>br (!T) (R false o) (IZ.sp l o λ(_:Unit) U=>K U)):=by
 obtain⟨r,Z,z⟩:=hr.go hj;have af:=hlen _ (Re hj);have bA:=hg.lt;have eA:Ext H0 A:=h.elim (λ⟨_,_,_,_,a,_⟩=>a.ext) λ⟨_,_,_,_,_,a,_⟩=>a.ext;refine z A _ eA ?_;refine Ik (Z.ext eA) af λl B hL M=>?_;have zB:=M.size;have y:=hL.block
 -- what is lent stays
 have fin:∀C,Ext H0 C->iD C A.size l (rl[j]'hj)->A.size<=C.size->(∀D,Mod (ai l) C D->K D)->ae rows.a λS=>(0<=(j:Int)/\(j:Int)<(rows.n:Int))/\tb aq C (S.add ((j:Int).toNat*1)) λ(g:Sl)=>Iw.sp l g C λ(T:Bool) o=>br (!T) (R false o) (IZ.sp l o λ(_:Unit) U=>K U):=λC eC al zC hD=>by
  refine z C _ eC ?_;refine Gu al (Z.ext eC) af ?_;refine aE rfl ?_;exact Fe al.O1 (by rw[al.len];exact af) zC λD mD=>hD D mD
 rcases h with ⟨X1,X2,s,t,ap,s1,s2,h8,bd⟩|⟨X1,X2,s,t,t',ap,s1,s2,e1,e2,e3⟩
 ·have bn:Gl B:=hg.mod (eA.trans M) id;have l1:=s1.lt;have l2:=s2.lt;have e:=ap.go M;have I:=s1.mod M λ_ _=>id;have x:=s2.mod M λ_ _=>id;refine I.add bn (λq=>by have:=ap.n1 _ q;omega) h8 hw h3 hf (by omega) hL.ints bd (by omega) (by omega) λY1 C q1 S1 bC=>?_;have J:=e.jE S1 x.lt;have zC:=S1.mod.size;refine z C _ J.ext ?_;have bs:=x.mod S1.mod λb c q=>e.dis b q c;refine bs.add h8 hw h3 hf (by omega) (Z.ext J.ext) bd (by omega) (by omega) λY2 D q2 S2=>?_;have a6:=J.lI S2 q1.lt;have bx:=q1.mod S2.mod λb c q=>J.dis b c q;refine aE (by simp) ?_;have zD:=S2.mod.size;have N:∀b,ai l b->¬X1 b:=λb c q=>by have:=(y b c).1;have:=l1 b q;omega
  have O:∀b,ai l b->¬X2 b:=λb c q=>by have:=(y b c).1;have:=l2 b q;omega
  refine fin D a6.ext ((hL.mod S1.mod N).mod S2.mod O) (by omega) λE mE=>?_;have o1:∀b,Y1 b->¬ai l b:=λb c q=>by
   have:=y b q;rcases S1.own b c with u|u
   ·exact N b q u
   ·omega
  have o2:∀b,Y2 b->¬ai l b:=λb c q=>by
   have:=y b q;rcases S2.own b c with u|u
   ·exact O b q u
   ·omega
  have z0:=eA.size;have L:=a6.other mE (λb c q=>by have:=(y b q).1;omega) λb c q=>by have:=(ap.kept b c).1;have:=(y b q).1;omega
  have a7:=bx.mod mE o1;have a8:=q2.mod mE o2;refine hK E ?_;rcases h8.add hw h3 (by omega) s (rl[j]'hj) with u|u
  ·exact .inl ⟨Y1,Y2,_,_,L,a7,a8,u,bC.mono (by omega) (by omega)⟩
  ·obtain⟨Z1,v1,w1⟩:=a7.die;obtain⟨Z2,v2,w2⟩:=a8.die;exact .inr ⟨Z1,Z2,_,_,_,L.sub w1 w2,v1,v2,u,rfl,bC.mono (by omega) (by omega)⟩
 ·have l1:=s1.lt;have l2:=s2.lt;have e:=ap.go M;have I:=s1.mod M λ_ _=>id;have x:=s2.mod M λ_ _=>id;refine I.add e1 ?_;refine z B _ e.ext ?_;refine x.add (by rw[e2];exact e1) ?_;refine aE (by rw[e2];simp) ?_;refine fin B e.ext hL (by omega) λE mE=>?_;have o1:∀b,X1 b->¬ai l b:=λb c q=>by have:=(y b q).1;have:=l1 b c;omega
  have o2:∀b,X2 b->¬ai l b:=λb c q=>by have:=(y b q).1;have:=l2 b c;omega
  have z0:=eA.size;have L:=e.other mE (λb c q=>by have:=(y b q).1;omega) λb c q=>by have:=(ap.kept b c).1;have:=(y b q).1;omega
  exact hK E (.inr ⟨X1,X2,s,t,t',L,I.mod mE o1,x.mod mE o2,e1,e2,e3⟩)
theorem pH {K:Bool->aa->Prop}{x y:Nat}(h:rL V Kp H0 A d n p m k1 k2 w fr i x0 y0\/ow V Kp H0 A d n p m k1 k2 X Y)(N:Gl H0)(hw:w<=16)(O:3<=fr)(P:fr<=100)(hi:i<=400)(hc:∀t,tK t w fr i->AZ t x y)
  (z:x0+400010*i+400010+x<=X/\x0+400010*i+400010+x<=600000000000) (D:y0+805000*i+805000+y<=Y/\y0+805000*i+805000+y<=39000000000)
  (S:∀B,ow V Kp H0 B d n p m k1 k2 X Y->K true B):GD.sp (aK k1) (aK k2) A K:=by
 refine GD.of ?_;unfold GD.vc;have af:=N.lt;rcases h with ⟨X1,X2,s,t,ap,s1,s2,E,T⟩|⟨X1,X2,s,t,o,ap,s1,s2,c,e,e3⟩
 ·have g:=hc t E;refine s1.done (N.mod ap.ext id) (λq=>by have:=ap.n1 _ q;omega) E hw O P hi T g z.2 D.2 λY1 B U Z b1=>?_;have j:=ap.jE Z s2.lt;have I:=s2.mod Z.mod λb J q=>ap.dis b q J;refine I.done E hw O P hi T g z.2 D.2 λY2 o C q2 c e S2=>?_;have L:=j.lI S2 U.lt;have M:=U.mod S2.mod λb J q=>j.dis b J q;have:∀a b:Int,((a==a)&&(b==b))=true:=λa b=>by simp
  rw[this];exact S C ⟨Y1,Y2,_,_,o,L,M,q2,e,c,b1.mono z.1 D.1⟩
 ·refine s1.done c (s2.done (by rw[e];exact c) ?_);have:(((0:Int)==(0:Int))&&(t.ready==o.ready))=true:=by rw[e];simp
  rw[this];exact S A ⟨X1,X2,s,t,o,ap,s1,s2,c,e,e3⟩
theorem ow.aj (h:ow V Kp H0 A d n p m k1 k2 X Y):eX V Kp H0 A d n p m X Y:=by
 obtain⟨X1,X2,s,t,x,ap,⟨c,e,g,rfl,c1,_,_⟩,⟨j,o,q,rfl,c2,_,_⟩,_,_,b⟩:=h;exact⟨c,j,s,ap.sub (λb a=>.inl a) λb a=>.inl a,c1,c2,b⟩
theorem eX.alike {K:Bool->aa->Prop}(h:eX V Kp H0 A d n p m X Y)(a:Gl H0)(e:X<1000000000000)(g:Y<68000000000)(c:∀B,Ext H0 B->K true B):G6.sp (aK d) (aK n) (aK p) (aK m) A K:=by
 obtain⟨j,o,s,ap,c1,c2,b⟩:=h;have h1:=b.hi;have q:=b.aH;exact wb ap c1 c2 a (by omega) (by omega) c
theorem yv {B C D:aa}{h j:Nat->Prop}{s:Pl}{nm:ByteArray}(ap:bY V Kp H0 B h j)(c1:aA h B p d s)(c2:ax j B m n s)(o:Ext B C)(E:rK C B.size p (qJ nm (w:Int) (fr:Int)) aY [] aY)(y:Ext C D)(L:od D C.size m (qJ nm (w:Int) (fr:Int)) aY [] aY)(z:nm.size<=100)(b:Bd s x0 y0):
  rL V Kp H0 D d n p m B.size C.size w fr 0 x0 y0:=by
 have T:=ap.ext.size;have U:=o.size;have I:=c1.lt;have J:=c2.lt;have c:∀k b,cc k aY [] aY b->b=k:=by
  rintro k b (u|u|⟨x,M,_⟩|u)
  ·exact u
  ·exact absurd u (aU b)
  ·cases M
  ·exact absurd u (aU b)
 have e:=(ap.go o).go y;refine⟨λb=>h b\/cc B.size aY [] aY b,λb=>j b\/cc C.size aY [] aY b,s,qJ nm (w:Int) (fr:Int),⟨e.ext,λb a=>?_,λb a=>?_,λb a g=>?_,λb a=>?_⟩,⟨h,aY,[],aY,rfl,(c1.ext o).ext y,E.mod y λ_ _=>id,λb a u=>?_⟩,⟨j,aY,[],aY,rfl,(c2.ext o).ext y,L,λb a u=>?_⟩,⟨z,rfl,rfl,by simp[qJ],rfl,λn z=>(by cases z),rfl⟩,b⟩
 ·rcases a with u|u
  ·exact ap.n1 b u
  ·have:=c _ b u;omega
 ·rcases a with u|u
  ·exact ap.n2 b u
  ·have:=c _ b u;omega
 ·rcases a with u|u
  ·rcases g with v|v
   ·exact ap.dis b u v
   ·have:=c _ b v;have:=I b u;omega
  ·have:=c _ b u;rcases g with v|v
   ·have:=J b v;omega
   ·have:=c _ b v;have:=aI E.rd.row;omega
 ·obtain⟨k1,_,N,O⟩:=ap.kept b a;obtain⟨P,S,_,_⟩:=e.kept b a;exact⟨P,S,λq=>q.elim N λu=>by have:=c _ b u;omega,λq=>q.elim O λu=>by have:=c _ b u;omega⟩
 ·have:=c _ b u;have:=I b a;omega
 ·have:=c _ b u;have:=J b a;omega
set_option maxHeartbeats 2000000 in
theorem jk {H:aa}{quota aj ag width q ar at_:Int}(hg:Gl H)(hq:quota<=9223372036854775807)(hp:q<=9223372036854775807)(hr:Rows H rows rl)(hlen:∀l∈rl,l.length<=17592186043904)
  (hK:∀B,Ext H B->R true B):Ee.sp quota aj ag width q ar rows at_ H R:=by
 refine Ee.of ?_;unfold Ee.vc;refine au λH0 z0 r0 M=>?_;have U:=hr.len;refine ah (λ_=>hK H0 M) λO=>?_;have hl:rl.length<=400:=by
  have:¬(rows.n:Int)>400:=of_decide_eq_false O;omega
 have g:=hg.mod M id;have Z:Rows H0 rows rl:=⟨U,λi hi=>by
  obtain⟨ad,r,e,af,al⟩:=hr.at' i hi;exact⟨ad,r,e,Mod.cell M af id,al.ext M⟩⟩
 refine ao.cN (x:=(quota,aj,ag,width,q,ar)) r0 rfl rfl ?_;refine w7 g hq hp λB dp dm p m P1 P2 P j hj ap c1 c2 an=>?_;have N:=r0.ext ap.ext;have o:∀B,Ext H0 B->yF.sp B λ(a1:Bool) H6=>R a1 H6:=λB e=>jY (g.mod e id) λC e2=>hK C ((M.trans e).trans e2);refine N.ld (c:=ab .i64) (i:=3) (x:=width) rfl ?_;refine N.ld (c:=ab .i64) (i:=2) (x:=ag) rfl ?_;refine mO c1 (λn1=>?_) λn1 n2 C S sC=>?_
 ·refine N.ld (c:=ab .i64) (i:=3) (x:=width) rfl ?_;refine N.ld (c:=ab .i64) (i:=2) (x:=ag) rfl ?_;refine nt c2 (λ_=>?_) λn3=>absurd n3 (by rw[show (eY (me P (8+j)) (Q4 #[102]) width ag).1=none from n1];simp);refine aE (by simp) (aE rfl ?_);have ne:(eY (me P (8+j)) (Q4 #[102]) width ag).2≠0:=by
   unfold eY at n1 ⊢;split
   ·decide
   ·split
    ·decide
    ·rename_i u v;rw[if_neg u,if_neg v] at n1;cases n1
  refine aR (by simpa using ne) ?_;refine wb ap c1 c2 g (by show (1:Int)<_;decide) (by show P.aH<_;omega) λD eD=>?_;exact aR rfl (o D eD)
 have zC:=S.size;have rC:=N.ext S;refine rC.ld (c:=ab .i64) (i:=3) (x:=width) rfl ?_;refine rC.ld (c:=ab .i64) (i:=2) (x:=ag) rfl ?_;refine nt (c2.ext S) (λn3=>absurd n3 (by rw[n1];simp)) λ_ _ D eD zD sD=>?_;refine aE (by simp) (aE rfl (aE rfl ?_))
 -- what holds of the sizes
 obtain⟨a6,a7,a8⟩:aL width≠0/\3<=ag/\ag<=((8+j:Nat):Int):=by
  unfold eY at n1;split at n1
  ·cases n1
  ·rename_i u;split at n1
   ·cases n1
   ·rename_i v;have v1:¬ag<3:=λa=>v (.inl a);have v2:¬ag>((8+j:Nat):Int):=λa=>v (.inr a);exact⟨u,by omega,by omega⟩
 obtain⟨w0,bb⟩:=oQ a6;obtain⟨w,rfl⟩:∃w:Nat,width=(w:Int):=⟨width.toNat,by omega⟩;obtain⟨fr,rfl⟩:∃fr:Nat,ag=(fr:Int):=⟨ag.toNat,by omega⟩;have hw:w<=16:=by omega
 have z:3<=fr:=by omega
 have L:fr<=100:=by omega
 have live:=yv (nm:=nmS) (w:=w) (fr:=fr) ap c1 c2 S sC eD sD (by decide) (x0:=1) (y0:=0) ⟨λf L=>by simp[me] at L,by show (0:Int)<=1;decide,by show (1:Int)<=_;omega,by show P.aH<=_;rw[an];omega⟩;refine av rl.length (λk i A=>i=(k:Int)/\(rL H0 (λ_=>False) H0 A dp dm p m B.size C.size w fr k 1 0\/ow H0 (λ_=>False) H0 A dp dm p m B.size C.size 500000000000 38000000000)) ⟨rfl,.inl live⟩ ?_;rintro k _ A next hk ⟨rfl,hS⟩ y
 refine ah (λO=>?_) λO=>?_
 ·have J:k<rl.length:=by have:(k:Int)<(rows.n:Int):=of_decide_eq_true O;omega
  refine JO hS g hw z L (by omega) ⟨by omega,by omega⟩ ⟨by omega,by omega⟩ Z hlen J λE T=>?_;rw[aD k (by omega)];refine ah (λ_=>?_) λ_=>?_
  ·refine pH T g hw z L (by omega) (λt h=>h.ti hw z (by omega)) ⟨by omega,by omega⟩ ⟨by omega,by omega⟩ λG hG=>?_;exact aE rfl (y J _ _ ⟨rfl,.inr hG⟩)
  ·exact y J _ _ ⟨rfl,T⟩
 ·refine pH hS g hw z L (by omega) (λt h=>h.ti hw z (by omega)) ⟨by omega,by omega⟩ ⟨by omega,by omega⟩ λE T=>aR rfl ?_;refine pH (i:=0) (w:=w) (fr:=fr) (x0:=1) (y0:=0) (.inr T) g hw z L (by omega) (λt h=>h.ti hw z (by omega)) ⟨by omega,by omega⟩ ⟨by omega,by omega⟩ λG hG=>aR rfl ?_;exact hG.aj.alike g (by decide) (by decide) λI eI=>aR rfl (o I eI)
end
end
section
open Go.MapKept
section
variable {V H0 A B:aa}{Kp Kq:Nat->Prop}{d n p m k1 k2 w fr i x y x0 y0 X Y:Nat}{R:Bool->aa->Prop}
theorem lJ.same {s:Sl}{l:List ByteArray}(h:lJ A s l)(hs:∀b,ai s b->B[b]?=A[b]?):lJ B s l:=
 ⟨h.n,h.at_.imp id λ⟨g,o,cur,e,a,r⟩=>⟨g,o,cur,e,(hs g ⟨_,e,rfl⟩).trans a,r⟩⟩
theorem eX.grow (h:eX V Kp H0 A d n p m x y)(e:Ext A B)(a:∀b,Kq b->Kp b\/A.size<=b/\b<B.size):eX B Kq H0 B d n p m x y:=by
 obtain⟨c,g,s,ap,c1,c2,b⟩:=h;exact⟨c,g,s,(ap.go e).more λb j=>(a b j).imp id λu=>⟨u.2,λq=>by have:=c1.lt b q;omega,λq=>by have:=c2.lt b q;omega⟩,c1.ext e,c2.ext e,b⟩
theorem eX.ext (h:eX V Kp H0 A d n p m x y):Ext H0 A:=by
 obtain⟨_,_,_,ap,_⟩:=h;exact ap.ext
theorem eX.ar (h:eX V Kp H0 A d n p m x y)(b:Nat)(a:Kp b):A[b]?=V[b]?:=by
 obtain⟨_,_,_,ap,_⟩:=h;exact(ap.kept b a).2.1
theorem eX.M6 {names:Sl}{ns:List ByteArray}{to:ByteArray}{W:Int}{K:(Int×Int)->aa->Prop}(h:eX V Kp H0 A d n p m x y)(U:Gl H0)(D:lJ V names ns)(hk:∀b,ai names b->Kp b)(hs:∀n∈ns,n.size<=9223372036854775807)(hl:ns.length<=9)(o:to.size<=9223372036854775807)(hW:(aL W).toNat<=504)(hx:x<100000000000)(hy:y<45000000000)
  (hK:∀B v,Ext H0 B->(∀b,Kp b->B[b]?=V[b]?)->(∀(E:(Int×Int)->aa->Prop),(∀C,eX V Kp H0 C d n p m (x+9512684472) (y+14269031208)->E v C)->G7.sp (aK m) names to W B E)->K v B):Da.sp (aK p) names to W A K:=by
 obtain⟨Z,I,s,ap,c1,c2,b⟩:=h;have af:=U.lt;have g:Gl A:=U.mod ap.ext id;have l9:9*((aL W).toNat*1048576)<=4756340736:=QZ (Xj 9 (Rq 1048576 hW)) (by decide);have J:bT (bc W ns s).2.1<=4756340736:=LR (p:=p) (dp:=d) (S:=9) (by decide) l9 Z A s x y ns g c1 b (by omega) (by omega) hl hs;have rd:∀B X1 X2,bY V Kp H0 B X1 X2->∀C,(Mod X1 B C\/Mod X2 B C)->bX kz C names.a ns:=λB X1 X2 a C z=>by
  refine(D.same (B:=C) λb e=>?_).rd;obtain⟨j1,j2,j3,j4⟩:=a.kept b (hk b e);exact z.elim (λq=>(q.same b j1 j3).trans j2) λq=>(q.same b j1 j4).trans j2
 refine zT (N:=4756340736) g c1 D.n (λC z=>rd A Z I ap C (.inl z)) hs o b (by omega) (by omega) (by omega) J (by decide) (by omega) (by omega) λF' B L S1=>?_;have c:=ap.jE S1 c2.lt;have M:ax I B m n s:=c2.ar λb e j=>S1.mod.same b j λu=>ap.dis b u e;refine hK B _ c.ext (λb e=>(c.kept b e).2.1) λE O=>?_;refine qU (N:=4756340736) M D.n (λC z=>rd B F' I c C (.inr z)) hs o b (by omega) (by omega) (by omega) J (by decide) (by omega) (by omega) λP C q2 S2=>?_;have T:=c.lI S2 L.lt;exact O C ⟨F',P,_,T,L.ar (λb e j=>S2.mod.same b j λu=>c.dis b e u),q2,(nE b (by omega) (by omega) J L.ag).mono (by omega) (by omega)⟩
variable {rows:Sl}{rl:List (List Int)}
set_option maxHeartbeats 1000000 in
theorem Jd {K:aa->Prop}(h:rL V Kp H0 A d n p m k1 k2 w fr i x0 y0\/ow V Kp H0 A d n p m k1 k2 X Y)(hg:Gl H0)(hw:w<=16)(P:3<=fr)(hf:fr<=100)(hi:i<400)(hx:x0+400010*(i+1)<=X/\x0+400010*(i+1)<=700000000000)(hy:y0+805000*(i+1)<=Y/\y0+805000*(i+1)<=49000000000)(hr:Rows H0 rows rl){j:Nat}(hj:j<rl.length)
  (hK:∀B,rL V Kp H0 B d n p m k1 k2 w fr (i+1) x0 y0\/ow V Kp H0 B d n p m k1 k2 X Y->K B):
  ∃G:aa->Prop,G A/\ae rows.a λS=>(0<=(j:Int)/\(j:Int)<(rows.n:Int))/\ld aq A (S.add ((j:Int).toNat*1)) λ(z:Sl)=>so.sp (aK k1) z A λ(T:Int) E=>G E/\ae rows.a λU=>(0<=(j:Int)/\(j:Int)<(rows.n:Int))/\dE aq G (U.add ((j:Int).toNat*1)) λ(I:Sl)=>BX.sp (aK k2) I E λ(Z:Int) J=>br (T !=Z) (R false J) (K J):=by
 obtain⟨ad,r,ea,hc,L⟩:=hr.at' j hj;have al:=hr.len;have g:(0<=(j:Int)/\(j:Int)<(rows.n:Int)):=⟨by omega,by omega⟩;have an:=hg.lt;have O:Ext H0 A:=h.elim (λ⟨_,_,_,_,a,_⟩=>a.ext) λ⟨_,_,_,_,_,a,_⟩=>a.ext;have o:∀B,Ext H0 B->dh B (ad.add ((j:Int).toNat*1))=some (aq.enc r):=λB e=>by
  rw[QP,Rz];exact Mod.cell e hc id
 refine⟨λB=>Ext H0 B,O,aZ ad ea ⟨g,r,o A O,?_⟩⟩;rcases h with ⟨X1,X2,s,t,ap,s1,s2,h8,bd⟩|⟨X1,X2,s,t,t',ap,s1,s2,e1,e2,e3⟩
 ·refine s1.add (hg.mod ap.ext id) (λq=>by have:=ap.n1 _ q;omega) h8 hw P hf (by omega) (L.ext O) bd (by omega) (by omega) λY1 C q1 S1 bC=>?_;have c:=ap.jE S1 s2.lt;refine⟨c.ext,aZ ad ea ⟨g,r,o,?_⟩⟩;have af:=s2.mod S1.mod λb hb q=>ap.dis b q hb;refine af.add h8 hw P hf (by omega) (L.ext c.ext) bd (by omega) (by omega) λY2 D q2 S2=>?_;have M:=c.lI S2 q1.lt;have N:=q1.mod S2.mod λb hb q=>c.dis b hb q;refine aE (by simp) (hK D ?_);rcases h8.add hw P (by omega) s (rl[j]'hj) with u|u
  ·exact .inl ⟨Y1,Y2,_,_,M,N,q2,u,bC.mono (by omega) (by omega)⟩
  ·obtain⟨Z1,v1,w1⟩:=N.die;obtain⟨Z2,v2,w2⟩:=q2.die;exact .inr ⟨Z1,Z2,_,_,_,M.sub w1 w2,v1,v2,u,rfl,bC.mono (by omega) (by omega)⟩
 ·refine s1.add e1 ⟨O,aZ ad ea ⟨g,r,o,?_⟩⟩;refine s2.add (by rw[e2];exact e1) ?_;exact aE (by rw[e2];simp) (hK A (.inr ⟨X1,X2,s,t,t',ap,s1,s2,e1,e2,e3⟩))
end
end
section
open Go.MapKept
section
variable {V H0 A B:aa}{Kp:Nat->Prop}{d n p m x y x' y':Nat}
theorem eX.mono (h:eX V Kp H0 A d n p m x y)(a:x<=x')(c:y<=y'):eX V Kp H0 A d n p m x' y':=by
 obtain⟨e,g,s,ap,c1,c2,b⟩:=h;exact⟨e,g,s,ap,c1,c2,b.mono a c⟩
theorem ao.I7 {c:fg}{H:aa}{b:Nat}{t:ic}{cs:Array gp}(h:ao H b t cs){i:Nat}{x:c.α}(hi:cs[i]?=some (c.enc x)){K:c.α->Prop}(a:K x):tb c H (Addr.add ⟨b,0,none⟩ ((i:Int).toNat*1)) K:=by
 rw[QP,Rz];exact h.ld hi a
theorem DZ (x:Int):(aL x).toNat<=504:=by
 by_cases h:aL x=0
 ·rw[h];decide
 obtain⟨e,h1⟩:=oQ h;obtain⟨w,rfl⟩:∃w:Nat,x=(w:Int):=⟨x.toNat,by omega⟩;obtain⟨a,_,_,c⟩:=ie (W:=w) (Q5 w) (by omega);rw[a,QP];exact c
theorem Pf:∀{j:Nat},j<4->∃nm:ByteArray,(#[.string (Q4 #[97]),.string (Q4 #[98]),.string (Q4 #[99]),.string (Q4 #[100])]:Array gp)[j]?=some (aN.enc nm)/\nm.size<=100
 |0,_=>⟨Q4 #[97],rfl,by decide⟩
 |1,_=>⟨Q4 #[98],rfl,by decide⟩
 |2,_=>⟨Q4 #[99],rfl,by decide⟩
 |3,_=>⟨Q4 #[100],rfl,by decide⟩
 |j+4,h=>absurd h (by omega)
theorem Pv:∀{j:Nat},j<2->∃nm:ByteArray,(#[.string (Q4 #[103]),.string (Q4 #[97])]:Array gp)[j]?=some (aN.enc nm)/\nm.size<=100
 |0,_=>⟨Q4 #[103],rfl,by decide⟩
 |1,_=>⟨Q4 #[97],rfl,by decide⟩
 |j+2,h=>absurd h (by omega)
theorem M8 {a b c:Sl}{e lb lc:List (List Int)}(g:Rows H0 a e)(o:Rows H0 b lb)(q:Rows H0 c lc)(h1:e.length<=200)(z:lb.length<=200)(C:lc.length<=200):∀{j:Nat},j<3->∃rows rl,(#[a.v,b.v,c.v]:Array gp)[j]?=some (aq.enc rows)/\Rows H0 rows rl/\rl.length<=200
 |0,_=>⟨a,e,rfl,g,h1⟩
 |1,_=>⟨b,lb,rfl,o,z⟩
 |2,_=>⟨c,lc,rfl,q,C⟩
 |j+3,h=>absurd h (by omega)
theorem Iq {s:Pl}{nm:ByteArray}{W fr:Int}(h:(eY s nm W fr).1=none):(eY s nm W fr).2≠0:=by
 unfold eY at h ⊢;split
 ·decide
 ·split
  ·decide
  ·rename_i u v;rw[if_neg u,if_neg v] at h;cases h
theorem BC {s:Pl}{nm:ByteArray}{W fr:Int}{t:So}(h:(eY s nm W fr).1=some t):aL W≠0:=λe=>by
 unfold eY at h;rw[if_pos e] at h;cases h
set_option maxHeartbeats 4000000 in
theorem iz {H:aa}{quota aj ag width q ar:Int}{a b c g:Sl}{la lb lc:List (List Int)}{wl:List Int}{R:Bool->aa->Prop}(hg:Gl H)(hq:quota<=9223372036854775807)(hp:q<=9223372036854775807)(ha:Rows H a la)(hb:Rows H b lb)(J:Rows H c lc)(hw:Ints .i64 H g wl)
  (hK:∀B,Ext H B->R true B):DA.sp quota aj ag width q ar a b c g H R:=by
 refine DA.of ?_;unfold DA.vc;refine au λH0 z0 r0 e0=>?_;have b3:=ha.len;have b4:=hb.len;have b5:=J.len;have b6:=hw.len;refine ah (λ_=>hK H0 e0) λbb=>?_;obtain⟨l1,l2,l3,l4⟩:la.length<=200/\lb.length<=200/\lc.length<=200/\wl.length<=9:=by
  simp only[Sp,decide_eq_false_iff_not] at bb;omega
 have L:=hg.mod e0 id;have o:∀{s l},Rows H s l->Rows H0 s l:=λhr=>⟨hr.len,λi hi=>by
  obtain⟨ad,r,e,bh,bl⟩:=hr.at' i hi;exact⟨ad,r,e,Mod.cell e0 bh id,bl.ext e0⟩⟩
 have bn:=hw.ext e0;have bs:=o ha;have bx:=o hb;have bA:=o J;refine ao.cN (x:=(quota,aj,ag,width,q,ar)) r0 rfl rfl ?_;refine w7 L hq hp λB dp dm p m P1 P2 sd j hj ap c1 c2 bB=>?_;have M:∀B,Ext H0 B->yF.sp B λ(bC:Bool) H6=>R bC H6:=λB e=>jY (L.mod e id) λC e2=>hK C ((e0.trans e).trans e2);have pB:eX H0 (λ_=>False) H0 B dp dm p m 1 0:=⟨P1,P2,_,ap,c1,c2,⟨λf hf=>by simp[me] at hf,by show (0:Int)<=1;decide,by show (1:Int)<=_;omega,by show sd.aH<=_;rw[bB];omega⟩⟩;refine au λH3 z3 r3 e3=>?_;refine au λV z4 r4 e4=>?_;have an:=r3.ext e4;obtain⟨U,a1⟩:∃U,U=B.size:=⟨_,rfl⟩;obtain⟨Z,a6⟩:∃Z,Z=H3.size:=⟨_,rfl⟩;rw[<-a1] at an;rw[<-a6] at r4;rw[<-a1,<-a6];have pV:eX V (λx=>x=U\/x=Z) H0 V dp dm p m (1+5700000000*0) (8600000000*0):=pB.grow (e3.trans e4) λx hx=>.inr (by omega);refine av 3 (λk z A=>z=(k:Int)/\eX V (λx=>x=U\/x=Z) H0 A dp dm p m (1+5700000000*k) (8600000000*k)) ⟨rfl,pV⟩ ?_;rintro k _ A next hk ⟨rfl,hS⟩ af
 have ra:=(hS.ar U (.inl rfl)).trans an;have rb:=(hS.ar Z (.inr rfl)).trans r4;have eA:=hS.ext;have rA:=r0.ext eA;refine ah (λJ=>?_) λJ=>?_
 ·have N:k<3:=by have:(k:Int)<3:=of_decide_eq_true J;omega
  obtain⟨rows,rl,er,hr,hl⟩:=M8 bs bx bA l1 l2 l3 N;obtain⟨nm,en,a7⟩:=Pf (j:=k) (by omega);refine⟨⟨by omega,by omega⟩,ao.I7 (c:=aq) (x:=rows) rb er ?_⟩;refine⟨⟨by omega,by omega⟩,ao.I7 (c:=aN) (x:=nm) ra en ?_⟩;refine rA.ld (c:=ab .i64) (i:=3) (x:=width) rfl ?_;obtain⟨F1,F2,s,bD,d1,d2,bd⟩:=hS;refine mO d1 (λn1=>?_) λn1 n2 C eC sC=>?_
  ·refine⟨⟨by omega,by omega⟩,ao.I7 (c:=aN) (x:=nm) ra en ?_⟩;refine rA.ld (c:=ab .i64) (i:=3) (x:=width) rfl ?_;refine nt d2 (λ_=>?_) λn3=>absurd n3 (by rw[n1];simp);refine aE (by simp) (aR (by simpa using Iq n1) (M A eA))
  refine⟨⟨by omega,by omega⟩,ao.I7 (c:=aN) (x:=nm) (ao.ext ra eC) en ?_⟩;refine(rA.ext eC).ld (c:=ab .i64) (i:=3) (x:=width) rfl ?_;refine nt (d2.ext eC) (λn3=>absurd n3 (by rw[n1];simp)) λ_ _ D eD zD sD=>?_;refine aE (by simp) (aE rfl ?_);obtain⟨w0,b7⟩:=oQ (BC n1);obtain⟨w,rfl⟩:∃w:Nat,width=(w:Int):=⟨width.toNat,by omega⟩;have hw:w<=16:=by omega
  have live:=yv (nm:=nm) (w:=w) (fr:=3) bD d1 d2 eC sC eD sD a7 bd;refine av rl.length (λi z E=>z=(i:Int)/\(rL V (λx=>x=U\/x=Z) H0 E dp dm p m A.size C.size w 3 i (1+5700000000*k) (8600000000*k)\/ow V (λx=>x=U\/x=Z) H0 E dp dm p m A.size C.size (1+5700000000*(k+1)) (8600000000*(k+1)))) ⟨rfl,.inl live⟩ ?_;rintro i _ E bM hi ⟨rfl,hL⟩ O;refine ah (λJ=>?_) λJ=>?_
  ·have b9:=hr.len;have P:i<rl.length:=by have:(i:Int)<(rows.n:Int):=of_decide_eq_true J;omega
   refine Jd hL L hw (by decide) (by decide) (by omega) ⟨by omega,by omega⟩ ⟨by omega,by omega⟩ hr P λG hG=>?_;exact O P _ _ ⟨aD i (by omega),hG⟩
  ·refine pH hL L hw (by decide) (by decide) (by omega) (λt h=>h.xO hw (by decide) (by omega)) ⟨by omega,by omega⟩ ⟨by omega,by omega⟩ λG hG=>?_;exact aE rfl (af N _ _ ⟨aD k (by omega),hG.aj⟩)
 -- the names
 have bN:eX V (λx=>x=U\/x=Z) H0 A dp dm p m 17100000001 25800000000:=hS.mono (by omega) (by omega);refine av wl.length (λi z B'=>z.2=(i:Int)/\Ext A B'/\∃ns,aF kz dG B' z.1 ns/\ns.length=i/\(∀n∈ns,n.size<=9223372036854775807)/\∀b,ai z.1 b->A.size<=b) ⟨rfl,.refl _ _,[],aF.nil _ _ _,rfl,λ_ h=>(by cases h),λb ⟨ad,e,_⟩=>(by cases e)⟩ ?_;rintro i ⟨al,_⟩ B' bO hi ⟨rfl,eB,ns,oN,ln,hz,own⟩ S;have zB:=eB.size;refine ah (λJ=>?_) λJ=>?_
 ·have P:i<wl.length:=by have:(i:Int)<(g.n:Int):=of_decide_eq_true J;omega
  refine(bn.ext (eA.trans eB)).ld (i:=(i:Int)) (by omega) (by omega) λad _=>?_;refine pQ (by decide) ?_;rw[if_neg (by decide)];generalize wl.getD (i:Int).toNat 0=u;obtain⟨j2,a8⟩:∃j:Nat,u.emod 4=(j:Int):=⟨(u.emod 4).toNat,(YC (Xc u (by decide))).symm⟩;have cb:(j2:Int)<4:=a8▸Xx u (by decide);rw[a8];obtain⟨nm,en,a7⟩:=Pf (j:=j2) (by omega);refine⟨⟨by omega,by omega⟩,ao.I7 (c:=aN) (x:=nm) (ao.ext ra eB) en ?_⟩;refine aF.push (E:=kz) (x:=nm) BG oN rfl (by omega) (by omega) λs' D oD gD _=>?_;refine S P _ _ ⟨aD i (by omega),⟨QZ zB gD.1.size,λb hb _=>(gD.1.same b (Sk hb zB) λq=>by have:=own b q;omega).trans (eB.same b hb id)⟩,ns++[nm],oD,by simp[ln],λx hx=>?_,λb hb=>(gD.2 b hb).elim (own b) λq=>by omega⟩;rcases QQ.1 hx with h|h
  ·exact hz x h
  ·rw[Q1.1 h];omega
 -- merged
 have lN:=(lJ.of oN).lt;refine au λW zW rW eW=>?_;have b0:=eB.trans eW;have hN:lJ W al ns:=lJ.of (oN.ext eW);have pW:eX W (λx=>x=B'.size\/ai al x) H0 W dp dm p m (17100000001+9512684472*0) (25800000000+14269031208*0):=bN.grow b0 λx hx=>.inr (hx.elim (λq=>by omega) λq=>by have:=own x q;have:=lN x q;omega);refine av 2 (λk z C=>z=(k:Int)/\eX W (λx=>x=B'.size\/ai al x) H0 C dp dm p m (17100000001+9512684472*k) (25800000000+14269031208*k)) ⟨rfl,pW⟩ ?_;rintro k2 _ C b1 ck ⟨rfl,hP⟩ T;have rg:=(hP.ar B'.size (.inl rfl)).trans rW;have rC:=r0.ext hP.ext;refine ah (λJ=>?_) λJ=>?_
 ·have N:k2<2:=by have:(k2:Int)<2:=of_decide_eq_true J;omega
  obtain⟨to,et,cm⟩:=Pv N;refine⟨⟨by omega,by omega⟩,ao.I7 (c:=aN) (x:=to) rg et ?_⟩;refine rC.ld (c:=ab .i64) (i:=3) (x:=width) rfl ?_;refine hP.M6 L hN (λb q=>.inr q) hz (by omega) (by omega) (DZ width) (by omega) (by omega) λD v eD _ b2=>?_;refine(r0.ext eD).ld (c:=ab .i64) (i:=3) (x:=width) rfl ?_;refine b2 _ λE hE=>?_;refine aE (by simp) ?_;exact T N _ _ ⟨aD k2 (by omega),hE.mono (by omega) (by omega)⟩
 ·refine(hP.mono (x':=40000000000) (y':=60000000000) (by omega) (by omega)).alike L (by decide) (by decide) λI eI=>?_;exact aR rfl (M I eI)
end
end
section
open Go.MapKept
theorem Ext.pX {H A B:aa}{F:Nat->Prop}(h:Ext H A)(m:Mod F A B)(c:∀b,F b->H.size<=b):Ext H B:=
 ⟨QZ h.size m.size,λb a _=>(m.same b (Sk a h.size) λu=>by have:=c b u;omega).trans (h.same b a id)⟩
theorem Rows.og {H B:aa}{s:Sl}{ls:List (List Int)}(h:Rows H s ls)(e:Ext H B):Rows B s ls:=⟨h.len,λi hi=>by
 obtain⟨ad,r,a,c,g⟩:=h.at' i hi;exact⟨ad,r,a,e.cell c id,g.ext e⟩⟩
theorem aO.Nl {H:aa}{base a:Nat}{e:ic}{size:Nat}{s:Sl}{xs:List gp}(h:aO H base e size s xs)(j:∀b,ai s b->a<=b):aO H a e size s xs:=by
 refine⟨h.1,h.2.imp id ?_⟩;rintro⟨g,cap,cur,c,_,o⟩;refine⟨g,cap,cur,c,j g ?_,o⟩;cases s;simp only[Sl.v,Q2] at c;exact⟨_,c.1,rfl⟩
def lv (x:List Int)(W:Nat):List Int:=x.take W++Q6 (W - x.length) 0
theorem Hg (x:List Int)(W:Nat):(lv x W).length=W:=by
 unfold lv;simp;omega
theorem DN (x:List Int)(W:Nat):(x.take W).map (QT .u64)++(Q6 W (QT .u64 0)).drop (0+((x.take W).map (QT .u64)).length)=(lv x W).map (QT .u64):=by
 unfold lv;rw[Rm,List.map_replicate,List.drop_replicate,Rg,Ro];congr 2;omega
section
variable {H:aa}
theorem NF {rows:Sl}{ls:List (List Int)}{W:Nat}{K:Sl->aa->Prop}(O:Rows H rows ls)(hn:ls.length<=400)(hW:W<=16)(U:∀s rs B,aJ B H.size s rs (ls.map (lv · W))->Ext H B->K s B):Mb.sp rows (W:Int) H K:=by
 refine Mb.of ?_;unfold Mb.vc;have hl:=O.len;refine av ls.length (λk z A=>z.2=(k:Int)/\(∃rs,aJ A H.size z.1 rs ((ls.take k).map (lv · W)))/\Ext H A) ⟨rfl,⟨[],aJ.nil _ _⟩,Mod.refl _ _⟩ ?_;rintro k ⟨s,i⟩ A next hk ⟨hi,⟨rs,ro⟩,D⟩ c
 simp only at hi ro ⊢;subst hi;have z:=D.size;have E:=ro.n;simp only[Rg,Ro] at E;refine ah (λh=>?_) (λh=>?_)
 ·have a:k<ls.length:=by simp at h;omega
  refine jR.make (base:=A.size) (by omega) (TG _) (by omega) (by omega) (QN _) λl A1 Z ol P g _=>?_;have q:l.n=W:=by rw[Z];simp
  refine(O.og (D.trans P)).ld a λad r _ S=>?_;have I:=S.len;refine aO.Mr (o:=0) (cs:=((ls[k]'a).take W).map (QT .u64)) (e:=fM) (by obtain⟨inf,h,_⟩:=jR;exact h) (by kernel_rfl) ol (λ_=>by cases l.a<;>rfl) (by rw[List.map_take];exact S.reads.take W) (by rw[Rg,Ro,q,I];exact Nat.min_comm _ _) (by rw[Rg,Ro,q];omega) (λv hv=>by obtain⟨y,_,e⟩:=QW.1 hv;subst e;rfl) λT o2 m2 _=>?_;have j:Ext A T:=P.pX m2 g;have o3:aO T A.size fM 1 l ((lv (ls[k]'a) W).map (QT .u64)):=by
   rw[<-DN];simpa using o2
  refine aJ.push (ro.ext j) (o3.Nl λb C=>by have:=g b C;omega) (λr' J b C u=>?_) (by omega) (by have:=j.size;omega) λs' A3 _ L m3=>?_
  ·have:=g b C;have:=(ro.block.2 r' J b u).2;omega
  ·have M:aJ A3 H.size s' (rs++[l]) ((ls.take (k+1)).map (lv · W)):=by
    rw[QO a,Rm];exact L
   exact c a _ _ ⟨aD k (by omega),⟨_,M⟩,Ext.pX (D.trans j) m3 λb C=>(ro.block.1 b C).1⟩
 ·have N:k=ls.length:=by simp at h;omega
  subst N;rw[QS (QN _)] at ro;exact U s rs A ro D
end
end
section
open Go.MapKept
def ze (t:So)(p:Pl):List (List Int)->Option (So×Pl)
 |[]=>some (t,p)
 |l::ls=>if (t.add p l).2.2=0 then ze (t.add p l).2.1 (t.add p l).1 ls else none
def Dp:Nat->RR->Pl->Option (List (List Int))
 |0,_,_=>none
 |f+1,r,p=>if (r.next p).2.2.2.2≠0 then none else if (r.next p).2.2.2.1 then (Dp f (r.next p).2.1 (r.next p).1).map ((r.next p).2.2.1::·) else some []
def HV (out:List (List Int))(o:Pl×Option RR×Int):Bool:=
 match o.2.1 with
 |none=>false
 |some r=>o.2.2==0&&!o.1.d.down&&o.1.d.files.length==1&&o.1.pinned==0&&Dp (out.length+1) r o.1==some out
def zh (W:Int)(out:List (List Int))(d:Pl×So×Nat×Int):Bool:=d.2.2.2==0&&d.2.2.1==out.length&&decide (0<=d.1.next)&&HV out (rnOpen d.1 nmS W)
def sj (W fr:Nat)(a out:List (List Int)):Bool:=
 match ze (qJ nmS W fr) (me (oe 10000) (max 8 fr)) a with
 |none=>false
 |some x=>zh W out (x.1.done x.2)
theorem So.DB {t:So}{s:Pl}{l:List Int}(h:t.ready=0)(e:(t.add s l).2.2=0):(t.add s l).2.1.ready=0:=by
 obtain⟨c,a⟩:=So.iZ.1 h;unfold So.add at e ⊢;rw[if_neg (by rw[h];simp)] at e ⊢;split at e
 ·exact absurd e (by show ¬(60:Int)=0;decide)
 ·rename_i u;rw[if_neg u];split at e
  ·rename_i v;rw[if_pos v];exact So.iZ.2 ⟨c,a⟩
  ·rename_i v;rw[if_neg v];exact So.iZ.2 ⟨e,a⟩
section
variable {H:aa}
set_option maxHeartbeats 2000000 in
theorem qB {rows:Sl}{U out:List (List Int)}{W fr:Nat}{K:(Sl×Bool)->aa->Prop}(hg:Gl H)(hr:Rows H rows U)(hl:U.length<=200)(hW:W<=16)(h3:3<=fr)(dB:fr<=12)(ho:out.length<=1000)(he:sj W fr U out=true)
  (hK:∀s rs B,aJ B H.size s rs out->Ext H B->K (s,true) B):Ix.sp rows (W:Int) (fr:Int) H K:=by
 refine Ix.of ?_;unfold Ix.vc;have b9:(if (fr:Int)>(8:Int) then (fr:Int) else (8:Int))=((max 8 fr:Nat):Int):=by split<;>omega
 rw[b9];unfold sj at he;have dD:8<=max 8 fr/\fr<=max 8 fr/\max 8 fr<=12:=by omega
 generalize max 8 fr=mo at*;have dT:=hg.lt;have ea:=hr.len;refine yk (by decide) λF1 d H1 a1 e1 f1=>?_;refine lr (m:=mo) (hg.mod e1 id) a1 (λq=>by have:=f1 _ q;omega) (by omega) (by omega) λP p H2 h2 x2 w2=>?_;have z1:=e1.size;have af:bY H (λ_=>False) H H2 P (λ_=>False):=⟨e1.trans x2,λb a=>(w2 b a).elim (f1 b) λu=>by omega,λ_ q=>q.elim,λ_ _ q=>q,λ_ q=>q.elim⟩;have l2:=h2.lt;obtain⟨r1,r2,_,_⟩:=ie (Q5 W) hW;refine mO h2 (λn1=>absurd n1 (by
  unfold eY;rw[if_neg (by rw[r1];omega),if_neg (by rintro(u|u);omega;have:(fr:Int)>(mo:Int):=u;omega)];simp)) λ_ _ H3 e3 s3=>?_
 refine aE rfl ?_;have z2:=af.ext.size;have sO:∀b,cc H2.size aY [] aY b->b=H2.size:=by
  rintro b (u|u|⟨x,g,_⟩|u)
  ·exact u
  ·exact absurd u (aU b)
  ·cases g
  ·exact absurd u (aU b)
 have S3:fY H3 d p H2.size (λb=>P b\/cc H2.size aY [] aY b) (me (oe 10000) mo) (qJ nmS W fr):=⟨P,aY,[],aY,rfl,h2.ext e3,s3,λb a u=>by have:=sO b u;have:=l2 b a;omega⟩;have cb:bY H (λ_=>False) H H3 (λb=>P b\/cc H2.size aY [] aY b) (λ_=>False):=⟨af.ext.trans e3,λb a=>a.elim (af.n1 b) λu=>by have:=sO b u;omega,λ_ q=>q.elim,λ_ _ q=>q,λ_ q=>q.elim⟩;have b0:Bd (me (oe 10000) mo) 1 0:=⟨λf hf=>by simp[me] at hf,by show (0:Int)<=1;decide,by show (1:Int)<=_;decide,by show (0:Nat)<=_;decide⟩;have r8:tK (qJ nmS W fr) W fr 0:=⟨by show nmS.size<=100;decide,rfl,rfl,by simp[qJ],rfl,λn hn=>(by cases hn),rfl⟩;have ck:∃x,ze (qJ nmS W fr) (me (oe 10000) mo) (U.drop 0)=some x/\zh W out (x.1.done x.2)=true:=by
  rw[V1];split at he
  ·cases he
  ·rename_i x e;exact⟨x,e,he⟩
 clear he;refine av U.length (λj i A=>i=(j:Int)/\∃X s t,bY H (λ_=>False) H A X (λ_=>False)/\fY A d p H2.size X s t/\tK t W fr j/\Bd s (1+400010*j) (805000*j)/\∃x,ze t s (U.drop j)=some x/\zh W out (x.1.done x.2)=true) ⟨rfl,_,_,_,cb,S3,r8,b0,ck⟩ ?_;rintro j _ A next hj ⟨rfl,X,s,t,ap,S,h8,bd,x,g,hd⟩ an
 refine ah (λh=>?_) (λh=>?_)
 ·have o:j<U.length:=by simp at h;omega
  refine(hr.og ap.ext).ld o λad r _ ir=>?_;refine S.add (hg.mod ap.ext id) (λq=>by have:=ap.n1 _ q;omega) h8 hW h3 (by omega) (by omega) ir bd (by omega) (by omega) λX' B S' St bB=>?_;rw[Rw o] at g;unfold ze at g;split at g
  ·rename_i e;rw[e];refine aE rfl ?_;refine an o _ _ ⟨aD j (by omega),X',_,_,ap.jE St λ_ u=>u.elim,S',(h8.add hW h3 (by omega) _ _).resolve_right λq=>q (So.DB h8.ready e),bB.mono (by omega) (by omega),x,g,hd⟩
  ·cases g
 have cm:j=U.length:=by simp at h;omega
 subst cm;rw[TV] at g;obtain rfl:(t,s)=x:=Rc g;refine S.done (hg.mod ap.ext id) (λq=>by have:=ap.n1 _ q;omega) h8 hW h3 (by omega) (by omega) bd (h8.ti hW h3 (by omega)) (by omega) (by omega) λX' B S' St bB=>?_;have cx:=ap.jE St λ_ u=>u.elim;have a6:zh W out (t.done s)=true:=hd;clear hd;unfold zh at a6;simp only[QY,beq_iff_eq,decide_eq_true_eq] at a6;obtain⟨⟨⟨d1,d2⟩,d3⟩,d4⟩:=a6;obtain⟨F,sw,ss,rfl,c1,_,_⟩:=S';have a7:=cx.sub (Y1:=F) (Y2:=λ_=>False) (λb a=>.inl a) λ_ u=>u;generalize (t.done s).1=s1 at*;have n1:=bB.hi;have l1:=bB.aH;unfold HV at d4;split at d4
 ·cases d4
 rename_i r er;simp only[QY,beq_iff_eq,R7] at d4;obtain⟨⟨⟨⟨v1,v2⟩,v3⟩,v4⟩,v5⟩:=d4;refine pP (hg.mod a7.ext id) c1 (n:=nmS) (by decide) (by omega) (by omega) d3 (λF8 H8 _ _ e8=>absurd er (by rw[e8];simp)) λF8 H8 k r' p8 S8 e8 cy k1 k2=>?_;obtain rfl:r'=r:=by
  rw[e8] at er;exact Rc er
 obtain⟨ok,rb,_,_,_⟩:=jU e8;have bO:=bB.open (n:=nmS) (W:=(W:Int)) (by omega);refine aE (by rw[d1,v1];rfl) ?_;generalize (rnOpen s1 nmS (W:Int)).1=s2 at*;have bA:=a7.jE S8 λ_ u=>u.elim;obtain⟨D8,cz,_,_⟩:=p8.cD (hg.mod bA.ext id);refine xb cz λll C o2 eC _=>?_;have bC:=aF.n o2 (by decide);have cB:s2.d.list.length=1:=by
  unfold Dk.list;rw[v2,if_neg (by simp),(RG _ _).length_eq,Rg];exact v3
 rw[cB] at bC;refine aE (by rw[bC];rfl) ?_;have bh:=bO.hi;refine vJ (p8.ext eC) (by omega) λD eD=>?_;rw[v4];refine aE rfl ?_;have a8:=eC.trans eD;have bD:=bA.go a8;have rO:∀b,oI k aY [] b->b=k:=by
  rintro b (u|u|⟨x,g,_⟩)
  ·exact u
  ·exact absurd u (aU b)
  ·cases g
 have eb:H.size<=k:=by have:=a7.ext.size;omega
 refine av out.length (λj z A=>∃F s si srs r rs,aA F A p d s/\AM A k p r si srs/\(∀b,F b->¬oI k si srs b)/\Bd s (100000000000+j) (30000000000+j)/\r.Ok/\r.b.name=nmS/\Dp (out.length - j+1) r s=some (out.drop j)/\aJ A H.size z rs (out.take j)/\(∀b,(ai z b\/∃x∈rs,ai x b)->¬F b/\¬oI k si srs b)/\Ext H A/\∀b,F b->H.size<=b) ⟨F8,s2,aY,[],r',[],p8.ext a8,cy.mod a8 λ_ _=>id,λb a u=>k2 (rO b u▸a),bO.mono (by omega) (by omega),ok,rb▸rfl,v5,aJ.nil _ _,λb a=>?_,bD.ext,bD.n1⟩ ?_
 ·rcases a with ⟨_,q,_⟩|⟨x,g,_⟩
  ·cases q
  ·cases g
 rintro j z A c3 hj ⟨F2,s3,si,srs,bb,rs,hP,bM,b1,N,b2,b3,c,ro,bl,eA,hF⟩ O;have b4:=ro.n;rw[Ro,Nat.min_eq_left hj] at b4;have c4:Gl A:=hg.mod eA id;have q1:=N.lo;have q2:=N.hi;have q3:=N.aH;refine uQ (H0:=A) (F0:=F2) (O0:=oI k si srs) c4 (λq=>by have:=hF _ q;omega) (by omega) ⟨hP,bM,b1,.refl _ _,λb a=>.inl a,λb a=>.inl a⟩ b2 (by rw[b3];decide) (by omega) (by omega) q1 λF3 bn E B3 l I hO J=>?_;obtain⟨g1,g2,_⟩:=RR.fC b2 s3;have bN:=N.next (r:=bb) (by omega);rw[Dp] at c;split at c
 ·cases c
 rename_i c0;have c0:(bb.next s3).2.2.2.2=0:=Decidable.not_not.1 c0;rw[c0];have ed:=eA.size;have m3:Mod (λb=>F2 b\/b=k) A B3:=I.mod;have ee:=m3.size;have kA:k<A.size:=bM.lt k (.inl rfl);have L:∀b,(ai z b\/∃x∈rs,ai x b)->¬(F2 b\/b=k):=λb a u=>by
  obtain⟨u1,u2⟩:=bl b a;rcases u with u|u
  ·exact u1 u
  ·exact u2 (.inl u)
 have T:∀b,(ai z b\/∃x∈rs,ai x b)->b<A.size/\H.size<=b:=λb a=>by
  rcases a with u|⟨x,g,u⟩
  ·exact⟨(ro.block.1 b u).2,(ro.block.1 b u).1⟩
  ·exact⟨(ro.block.2 x g b u).2,(ro.block.2 x g b u).1⟩
 have bs:aJ B3 H.size z rs (out.take j):=ro.mod m3 (λb a=>L b (.inl a)) λx g b a=>L b (.inr ⟨x,g,a⟩);have b5:Ext H B3:=eA.pX m3 λb a=>a.elim (hF b) λu=>by omega
 split at c
 ·rename_i M;rw[M];obtain⟨rest,bx,ec⟩:=Option.map_eq_some_iff.1 c;have o:j<out.length:=by
   have:=congrArg VL ec;rw[Rr,RM] at this;omega
  rw[Rw o] at ec;obtain⟨c5,dc⟩:=List.cons.inj ec;rw[c5] at hO;refine aE rfl ?_;refine bs.Dn (hO.Nl λb a=>by have:=(J b a).1;omega) (λx g b a u=>by have:=(J b a).1;have:=(T b (.inr ⟨x,g,u⟩)).1;omega) (by omega) (by omega) λz' C3 _ dk m4 b6=>?_;have eg:=m4.size;have Z:∀b,(F3 b\/oI k bn E b)->¬ai z b:=λb a u=>by
   obtain⟨u1,u2⟩:=bl b (.inl u);have:=(T b (.inl u)).1;rcases a with a|a
   ·rcases I.own b a with q|q
    ·exact u1 q
    ·omega
   ·rcases I.own2 b a with q|q
    ·exact u2 q
    ·omega
  refine O o _ _ ⟨F3,_,bn,E,_,rs++[l],I.aj.ar λb a dn=>m4.same b dn (Z b (.inl a)),I.rd.mod m4 λb a=>Z b (.inr a),I.dis,bN.mono (by omega) (by omega),g1,g2.trans b3,?_,?_,λb a=>?_,b5.pX m4 λb a=>(T b (.inl a)).2,λb a=>(I.own b a).elim (hF b) λu=>by omega⟩
  ·rw[<-dc,<-bx];congr 1;omega
  ·rw[QO o];exact dk
  ·have old:∀b,(ai z b\/∃x∈rs,ai x b)->¬F3 b/\¬oI k bn E b:=λb a=>by
    obtain⟨u1,u2⟩:=bl b a;have:=(T b a).1;refine⟨λq=>?_,λq=>?_⟩
    ·rcases I.own b q with q|q
     ·exact u1 q
     ·omega
    ·rcases I.own2 b q with q|q
     ·exact u2 q
     ·omega
   rcases a with u|⟨x,g,u⟩
   ·rcases b6 b u with q|q
    ·exact old b (.inl q)
    ·exact⟨λw=>by have:=I.aj.lt b w;omega,λw=>by have:=I.rd.lt b w;omega⟩
   ·rcases QQ.1 g with q|q
    ·exact old b (.inr ⟨x,q,u⟩)
    ·rw[Q1] at q;subst q;exact(J b u).2
 ·rename_i M;have M:(bb.next s3).2.2.2.1=false:=by simpa using M
  rw[M];have b7:out.drop j=[]:=(Rc c).symm;have dA:j=out.length:=by
   have:=congrArg VL b7;rw[RM] at this;simp at this;omega
  subst dA;rw[QS (QN _)] at bs;refine aR rfl ?_;have ev:((0:Int)==0&&(((t.done s).2.2.1:Nat):Int)==(z.n:Int))=true:=by rw[d2,b4];simp
  rw[ev];exact hK z rs B3 bs b5
end
end
section
open Go.MapKept
theorem Oh (a:Nat):Rt (a:Int) 2=((a/2:Nat):Int):=by
 rw[TT (by omega)];omega
theorem L9 {ll:List (List Int)}{j:Nat}(up:ll.Pairwise (λx y=>aX x y<0))(a:j<ll.length)(i:Nat)(hi:i<ll.length):aX ll[i] ll[j]<0↔i<j:=by
 rw[SJ] at up;rcases Ua i j with h|h|h
 ·exact⟨λ_=>h,λ_=>up i j hi a h⟩
 ·subst h;rw[gN];omega
 ·have h1:=up j i a hi h;rw[bZ] at h1;constructor<;>intro q<;>omega
section
variable {H:aa}
theorem MJ {l x:Sl}{ll:List (List Int)}{C:List Int}{K:Bool->aa->Prop}(hl:Rows H l ll)(I:Ints .u64 H x C)(up:ll.Pairwise (λx y=>aX x y<0))(hn:ll.length<=1000000)(hlen:∀y∈ll,y.length<=1000)(g:C∈ll)(M:K true H):Le.sp l x H K:=by
 refine Le.of ?_;unfold Le.vc;have o:=hl.len;obtain⟨j,D,J⟩:=Sb g;have N:∀i (hi:i<ll.length),(aX ll[i] C<0↔i<j):=λi hi=>by rw[<-J];exact L9 up D i hi
 refine av ll.length (λk z A=>H=A/\∃lo hi:Nat,z=((lo:Int),(hi:Int))/\lo<=j/\j<=hi/\hi<=ll.length/\hi - lo+k<=ll.length) ⟨rfl,0,ll.length,by rw[o];rfl,by omega,by omega,by omega,by omega⟩ ?_;rintro k z A next hk ⟨rfl,lo,hi,rfl,h1,O,P,h4⟩ a
 simp only;refine ah (λh=>?_) (λh=>?_)
 ·have S:lo<hi:=by simp at h;omega
  have em:QI.wrap (Rt (QI.wrap ((lo:Int)+(hi:Int))) (2:Int))=(((lo+hi)/2:Nat):Int):=by
   have T:QI.wrap ((lo:Int)+(hi:Int))=((lo+hi:Nat):Int):=by rw[wrap64 (by omega) (by omega)];omega
   rw[T,Oh,wrap64 (by omega) (by omega)]
  rw[em];generalize U:(lo+hi)/2=md;have Z:lo<=md/\md<hi:=by omega
  have c:md<ll.length:=by omega
  refine hl.ld c λad r _ E=>?_;refine gU E I (by have:=hlen _ (Re c);omega) ?_;have L:=N md c;refine ah (λq=>?_) (λq=>?_)
  ·have q1:md<j:=L.1 (by simpa using q);exact a (by omega) _ _ ⟨rfl,md+1,hi,by rw[aD md (by omega)],by omega,O,P,by omega⟩
  ·have q1:¬md<j:=λu=>by have:=L.2 u;simp at q;omega
   exact a (by omega) _ _ ⟨rfl,lo,md,rfl,h1,by omega,by omega,by omega⟩
 ·have e:lo=j:=by simp at h;omega
  subst e;refine aR (by rw[o];simp;omega) ?_;refine hl.ld D λad r _ E=>?_;refine pj E I (by have:=hlen _ (Re D);omega) ?_;rw[J];simpa using M
structure oc (A:aa)(base:Nat)(s:Sl)(ps:List (Sl×List Int)):Prop where
 out:aO A base dv 1 s (ps.map (·.1.v))
 rows:∀x∈ps,Ints .u64 A x.1 x.2
variable {A B:aa}{base:Nat}{s:Sl}{ps:List (Sl×List Int)}
theorem oc.n (h:oc A base s ps):s.n=ps.length:=by
 have:=h.out.1;simp at this;omega
theorem oc.list (h:oc A base s ps):Rows A s (ps.map (·.2)):=by
 refine⟨by rw[Rg];exact h.n,λi hi=>?_⟩;have a:i<ps.length:=by simpa using hi
 obtain⟨ad,c,e⟩:=h.out.reads.at (i:=i) (by simpa using a);exact⟨ad,ps[i].1,c,by simpa using e,by simpa using h.rows _ (Re a)⟩
theorem oc.ext (h:oc A base s ps)(e:Ext A B):oc B base s ps:=⟨h.out.ext e,λx a=>(h.rows x a).ext e⟩
theorem aJ.hd {rs:List Sl}{ls:List (List Int)}(h:aJ A base s rs ls):oc A base s (rs.zip ls)/\(rs.zip ls).map (·.2)=ls:=by
 obtain⟨a,z2⟩:=xv h.len;refine⟨⟨?_,λx c=>?_⟩,z2⟩
 ·have:(rs.zip ls).map (λx=>x.1.v)=rs.map Sl.v:=by
   conv=>rhs;rw[<-a]
   rw[R8];rfl
  rw[this];exact h.out
 ·obtain⟨i,hi,e⟩:=Sb c;rw[List.getElem_zip] at e;rw[<-e];rw[List.length_zip] at hi;exact(h.row i _ _ (QK (by omega)) (QK (by omega))).ints
theorem oc.OY (h:oc A base s ps){i:Nat}(hi:i<ps.length){K:Sl->Prop}(c:K ps[i].1):ae s.a λa=>(0<=(i:Int)/\(i:Int)<(s.n:Int))/\ld aq A (a.add ((i:Int).toNat*1)) K:=by
 obtain⟨ad,e,g⟩:=h.out.reads.at (i:=i) (by simpa using hi);refine aZ ad e ⟨⟨by omega,by have:=h.n;omega⟩,_,?_,c⟩;simp only[QP,Rz];rw[g];simp
theorem oc.push {H0:aa}{ty:ic}{x:Sl×List Int}{K:Sl->aa->Prop}(h:oc A H0.size s ps)(a:Ext H0 A)(e:∀y∈x::ps,Ints .u64 H0 y.1 y.2)(C:s.n+1<=1000000)
  (g:∀s' B,oc B H0.size s' (ps++[x])->Ext H0 B->K s' B):
  aG A #[x.1.v] dv λp H1=>bf aq QH (QM #[dY,dY] ty #[s.v,.slice (some p) 1 1]) H1 K:=by
 refine uS.push (base:=H0.size) h.out rfl (by omega) (by omega) a.size ?_;intro s' B n1 j m1 D _;have c:Ext H0 B:=a.pX m1 λb o=>(h.out.block b o).1;refine g s' B ⟨by simpa using j,λy z=>?_⟩ c;refine(e y ?_).ext c;rcases QQ.1 z with q|q
 ·exact Q8 _ q
 ·rw[Q1] at q;rw[q];exact Q9
end
end
section
open Go.MapKept
theorem Mm (i:Nat)(hi:1<=i)(h:i<4611686018427387904):QI.wrap ((i:Int) - 1)=((i - 1:Nat):Int):=by
 rw[wrap64 (by omega) (by omega)];omega
section
variable {H:aa}
set_option maxHeartbeats 1000000 in
theorem tN {rows:Sl}{rl:List (List Int)}{width ag:Int}{W f:Nat}{K:Bool->aa->Prop}(hg:Gl H)(hr:Rows H rows rl)(hn:rl.length<=60)(eW:width.emod 17=(W:Int))(hW:W<=16)(ef:ag.emod 10=(f:Int))(b5:f<=9)
  (s1:sj W (3+f) (rl.map (lv · W)) (cG (eN (rl.map (lv · W))))=true) (s2:sj W 3 (rl.map (lv · W)).reverse (cG (eN (rl.map (lv · W))))=true) (s3:sj W 8 ((rl.map (lv · W)).reverse++rl.map (lv · W)) (cG (eN (rl.map (lv · W))))=true)
  (hK:∀B,Ext H B->K true B):JF.sp rows width ag H K:=by
 refine JF.of ?_;unfold JF.vc;refine pQ (by omega) ?_;refine pQ (by omega) ?_;rw[if_neg (by omega),if_neg (by omega)];rw[eW,ef];have b6:=hr.len;refine ah (λ_=>hK _ (Mod.refl _ _)) (λh=>?_);have e3:QI.wrap ((3:Int)+(f:Int))=((3+f:Nat):Int):=by rw[wrap64 (by omega) (by omega)];omega
 rw[e3];refine NF hr (by omega) hW λall rs A S eA=>?_;have bh:∀l∈rl.map (lv · W),l.length=W:=λl hl=>by
  obtain⟨y,o,e⟩:=QW.1 hl;subst e;exact Hg y W
 have b7:(rl.map (lv · W)).length<=60:=by rw[Rg];exact hn
 generalize rl.map (lv · W)=c at*;obtain⟨a7,T⟩:=S.hd;generalize rs.zip c=ps at*;have b9:ps.length=c.length:=by rw[<-T,Rg]
 have cb:=a7.n;have U:Gl A:=hg.mod eA id;have ol:=jg c;refine qB U S.rows (by omega) hW (by omega) (by omega) (by omega) s1 λt1 ck B bl e1=>?_;have en:QI.wrap ((all.n:Int) - (1:Int))=(c.length:Int) - 1:=by rw[wrap64 (by omega) (by omega)];omega
 rw[en];have I:=a7.ext e1;refine av c.length (λk z C=>z.2=(c.length:Int) - 1 - k/\oc C B.size z.1 (ps.reverse.take k)/\Ext B C) ⟨by simp,⟨aO.nil _ _ _ _,by simp⟩,Mod.refl _ _⟩ ?_;rintro k ⟨tu,i⟩ C next hk ⟨hi,g,eC⟩ Z
 simp only at hi g ⊢;subst hi;have bn:=g.n;rw[Ro,Vp] at bn;refine ah (λh=>?_) (λh=>?_)
 ·have a:k<c.length:=by simp at h;omega
  have ei:(c.length:Int) - 1 - (k:Int)=((c.length - 1 - k:Nat):Int):=by omega
  rw[ei];have bs:k<ps.reverse.length:=by rw[Vp];omega
  have bx:c.length - 1 - k<ps.length:=by omega
  have eg:ps.reverse[k]=ps[c.length - 1 - k]:=by rw[List.getElem_reverse];congr 1;omega
  refine(I.ext eC).OY bx ?_;refine g.push eC (λy o=>I.rows y ?_) (by omega) λs' D bA eD=>?_
  ·rcases QX.1 o with q|q
   ·rw[q];exact Re _
   ·exact Zi.1 (RU q)
  ·refine Z a _ _ ⟨?_,?_,eD⟩
   ·show QI.wrap (((c.length - 1 - k:Nat):Int) - 1)=_;rw[wrap64 (by omega) (by omega)];omega
   ·show oc D B.size s' (ps.reverse.take (k+1));rw[QO bs,eg];exact bA
 have bB:k=c.length:=by simp at h;omega
 subst bB;rw[QS (by rw[Vp];omega)] at g;have O:ps.reverse.map (·.2)=c.reverse:=by rw[List.map_reverse,T]
 have bC:Gl C:=(U.mod e1 id).mod eC id;have rT:=g.list;rw[O] at rT;refine qB (fr:=3) bC rT (by rw[Vp];omega) hW (by omega) (by omega) (by omega) s2 λt2 bD D af e2=>?_;have a8:=(I.ext eC).ext e2;have P:=g.ext e2;refine uS.append (base:=B.size) (ws:=ps.map (·.1.v)) P.out (by rw[Rg];omega) a8.out.reads (λu hu=>by obtain⟨y,_,e⟩:=QW.1 hu;subst e;rfl) (by omega) (by omega) (by have:=eC.size;have:=e2.size;omega) λt3 E n3 o3 m3 _ _=>?_;have bM:Ext B D:=eC.trans e2;have an:Ext B E:=bM.pX m3 λb hb=>(P.out.block b hb).1;have bN:oc E B.size t3 (ps.reverse++ps):=⟨by rw[Rm];exact o3,λx hx=>(I.rows x (by rcases QQ.1 hx with q|q;exact Zi.1 q;exact q)).ext an⟩;have rE:=bN.list;rw[Rm,O,T] at rE;have bb:aJ E C.size t2 bD (cG (eN c)):=by
  refine af.mod m3 (λb hb u=>?_) λx hx b hb u=>?_
  ·have:=(af.block.1 b hb).1;have:=(g.out.block b u).2;omega
  ·have:=(af.block.2 x hx b hb).1;have:=(g.out.block b u).2;omega
 have bO:Gl E:=(U.mod e1 id).mod an id;refine qB (fr:=8) bO rE (by rw[Ri,Vp];omega) hW (by omega) (by omega) (by omega) s3 λs4 cm F b0 e4=>?_;have om:∀y,y∈cG (eN c)↔y∈c:=λy=>kf;have ou:(cG (eN c)).Pairwise (λx y=>aX x y<0):=AF (th _);generalize cG (eN c)=out at*;have a1:Ext B F:=an.trans e4;have r1:Rows F t1 out:=bl.rows.og a1;have r2:Rows F t2 out:=bb.rows.og e4;have rA:Rows F all c:=(S.rows.og e1).og a1;have lens:∀y∈out,y.length<=16:=λy o=>by rw[bh y ((om y).1 o)];exact hW
 refine aE rfl ?_;refine sE r1 r2 (by omega) (λy o=>by have:=lens y o;omega) ?_;refine aE (by simp) ?_;refine sE r1 b0.rows (by omega) (λy o=>by have:=lens y o;omega) ?_;refine aE (by simp) ?_;have cx:=r1.len;have cy:=rA.len
 -- the rows rise
 refine av out.length (λk i D'=>i=((k+1:Nat):Int)/\F=D') ⟨rfl,rfl⟩ ?_;rintro k _ _ b1 cz ⟨rfl,rfl⟩ J;refine ah (λh=>?_) (λ_=>?_)
 ·have a:k+1<out.length:=by simp at h;omega
  rw[Mm (k+1) (by omega) (by omega)];simp only[Nat.add_sub_cancel];refine r1.ld (i:=k) (by omega) λ_ x1 _ i1=>?_;refine r1.ld a λ_ x2 _ i2=>?_;refine gU i1 i2 (by have:=lens _ (Re (show k<out.length by omega));omega) ?_;have hc:=(L9 ou a k (by omega)).2 (by omega);refine aE (by simp;omega) ?_;exact J (by omega) _ _ ⟨aD (k+1) (by omega),rfl⟩
 -- each row was given
 refine av c.length (λk i D'=>i=(k:Int)/\F=D') ⟨rfl,rfl⟩ ?_;rintro k _ _ b2 cB ⟨rfl,rfl⟩ L;refine ah (λh=>?_) (λ_=>?_)
 ·have a:k<c.length:=by simp at h;omega
  refine rA.ld a λ_ x _ ix=>?_;refine MJ r1 ix ou (by omega) (λy o=>by have:=lens y o;omega) ((om _).2 (Re a)) ?_;refine aE rfl ?_;exact L a _ _ ⟨aD k (by omega),rfl⟩
 -- each row told was given
 refine av out.length (λk i D'=>i=(k:Int)/\F=D') ⟨rfl,rfl⟩ ?_;rintro k _ _ b3 c0 ⟨rfl,rfl⟩ M;refine ah (λh=>?_) (λ_=>?_)
 ·have a:k<out.length:=by simp at h;omega
  obtain⟨q,hq,eq⟩:=Sb ((om _).1 (Re a));refine av c.length (λj z D'=>F=D'/\z.2=(j:Int)/\(z.1=false->j<=q)) ⟨rfl,rfl,λ_=>Q5 _⟩ ?_;rintro j ⟨fo,_⟩ _ b4 hj ⟨rfl,hz,a6⟩ N;simp only at hz a6 ⊢;subst hz;refine ah (λh4=>?_) (λh4=>?_)
  ·have h5:j<c.length/\fo=false:=by simp at h4;exact⟨by omega,h4.2⟩
   refine r1.ld a λ_ x1 _ i1=>?_;refine rA.ld h5.1 λ_ x2 _ i2=>?_;refine pj i1 i2 (by have:=lens _ (Re a);omega) ?_;refine N h5.1 _ _ ⟨rfl,aD j (by omega),λu=>?_⟩;have h6:=a6 h5.2;have:j≠q:=λw=>by
    subst w;rw[eq] at u;simp at u
   omega
  ·have h5:fo=true:=by
    cases hc:fo with
    |true=>rfl
    |false=>
      have:=a6 hc;simp[hc] at h4;omega
   rw[h5];refine aE rfl ?_;exact M a _ _ ⟨aD k (by omega),rfl⟩
 have bd:Ext A F:=e1.trans a1;exact jY ((hg.mod eA id).mod bd id) λG eG=>hK G ((eA.trans bd).trans eG)
end
end
section
variable {s:So}{p:Pl}{M:iX}{Q U:Nat}{n:ByteArray}{W fr:Nat}{all:List (List Int)}{fs:List (ByteArray×List (List Int))}{k m most cap:Nat}
end
section
variable {s:So}{p:Pl}{M:iX}{Q U:Nat}{n:ByteArray}{W fr:Nat}{all:List (List Int)}{fs:List (ByteArray×List (List Int))}{k m most cap:Nat}
end
section
open Go.MapKept
section
variable {H0 A B:aa}{F F':Nat->Prop}{p dp Q U most m:Nat}{s s':Pl}{M M':iX}{n:ByteArray}{x x':St}
end
end
section
open Go.MapKept
section
variable {H0 A B:aa}{F F':Nat->Prop}{p dp Q U U' most m m':Nat}{s s':Pl}{M M':iX}{n:ByteArray}{x x':St}
variable {k W i:Nat}{w:RW}{sw sl l:Sl}{rs:List (List Int)}
variable {r:RR}{si:Sl}{srs:List Sl}
end
end
section
open Go.MapKept
section
variable {s:So}{p:Pl}{M:iX}{Q U:Nat}{n:ByteArray}{W fr:Nat}{all:List (List Int)}{fs:List (ByteArray×List (List Int))}{k m most cap:Nat}
end
section
variable {H0 A:aa}{k p dp:Nat}{n:ByteArray}{W fr Q most cap:Nat}{all:List (List Int)}{m x y:Nat}
end
end
section
open Go.MapKept
section
variable {H A:aa}{p dp:Nat}{n:ByteArray}{W fr q mo:Nat}
end
end
section
open Go.MapKept
theorem uZ {width ag:Int}{l:Sl}{H:aa}{K:Bool->aa->Prop}(c:Gl H)(g:∀B,Ext H B->K true B):JS.sp width ag l H K:=by
 refine JS.of ?_;unfold JS.vc;refine Cy ?_;refine Cx ?_;refine au λh z3 j a=>?_;refine Bk ?_;refine aR rfl (aR rfl ?_);refine DP ?_;refine aR rfl ?_;exact jY (c.mod a id) λB e=>g B (a.trans e)
end
section
open Go.MapKept
theorem dw {A:aa}{b:Nat}{t:ic}{k:IntKind}{cs:Array gp}(r:ao A b t cs)(l:List Int)(e:cs=(l.map (QT k)).toArray){n:Nat}(a:n=l.length):Ints k A (Sl.mk (some ⟨b,0,none⟩) n n) l:=by
 refine⟨a,λi v c=>⟨_,rfl,?_⟩⟩;rw[bg];refine r.cell ?_;rw[e,TB];exact c
theorem tR {A:aa}{b:Nat}{t:ic}{cs:Array gp}(r:ao A b t cs)(xs:List (Sl×List Int))(e:cs=(xs.map (·.1.v)).toArray)(h:∀p∈xs,Ints .u64 A p.1 p.2){n:Nat}(c:n=xs.length):Rows A (Sl.mk (some ⟨b,0,none⟩) n n) (xs.map (·.2)):=by
 refine⟨by simpa using c,λi hi=>?_⟩;have a:i<xs.length:=by simpa using hi
 refine⟨_,(xs[i]'a).1,rfl,?_,?_⟩
 ·rw[bg];refine r.cell ?_;rw[e,TB,QV,QK a];rfl
 ·rw[Vl];exact h _ (Re a)
def Cs (n i:Nat):List Int:=(((n - i)*7%29:Nat):Int)::Q6 15 0
theorem GJ {n k:Nat}(h:k<n)(c:n<=60):Rj.wrap (RP (QI.wrap ((QI.wrap ((n:Int) - (k:Int)))*(7:Int))) (29:Int))=(((n - k)*7%29:Nat):Int):=by
 have a:QI.wrap ((n:Int) - (k:Int))=((n - k:Nat):Int):=by rw[wrap64 (by omega) (by omega)];omega
 rw[a];have hm:n - k<=60:=by omega
 generalize n - k=m at hm;rw[wrap64 (by omega) (by omega),XG (by omega),uk]
 push_cast
 omega
section
variable {A:aa}
set_option maxHeartbeats 1000000 in
theorem Ip {n:Nat}(Z:n<=60){K:Sl×Int->aa->Prop}(hK:∀s rs B,aJ B A.size s rs ((RI n).map (Cs n))->Ext A B->∀i,K (s,i) B):ay (Sl×Int) ((Sl.mk none 0 0),(0:Int)) A λe c P=>br (decide (c.2<(n:Int))) (bf aq QH (Instr.makeSlice dv (.int .i64 (16:Int)) (.int .i64 (16:Int))) P λ(l:Sl) H4=>ae l.a λa=>(0<=(0:Int)/\(0:Int)<(l.n:Int))/\st H4 (a.add ((0:Int).toNat*1)) (.int .u64 (Rj.wrap (RP (QI.wrap ((QI.wrap ((n:Int) - c.2))*(7:Int))) (29:Int)))) λH5=>aG H5 #[l.v] dv λE H6=>bf aq QH (QM #[dY,dY] dY #[c.1.v,.slice (some E) 1 1]) H6 λ(rows:Sl) H7=>e (rows,QI.wrap (c.2+(1:Int))) H7) (K c P):=by
 refine av n (λk z B=>z.2=(k:Int)/\(∃rs,aJ B A.size z.1 rs ((RI k).map (Cs n)))/\Ext A B) ⟨rfl,⟨[],aJ.nil _ _⟩,Mod.refl _ _⟩ ?_;rintro k ⟨s,i⟩ B next hk ⟨hi,⟨rs,ro⟩,I⟩ g
 simp only at hi ro ⊢;subst hi;have z:=I.size;have J:=ro.n;rw[Rg,List.length_range] at J;refine ah (λh=>?_) (λh=>?_)
 ·have C:k<n:=by simp at h;omega
  refine jR.make (base:=B.size) (by omega) (TG _) (by omega) (by omega) (QN _) λl A1 ln ol e1 j _=>?_;refine ol.st (by omega) (by rw[ln];decide) rfl λS T m2 _=>?_;have o:Ext B S:=e1.pX m2 j;rw[GJ C Z] at T;have o3:aO S B.size fM 1 l ((Cs n k).map (QT .u64)):=T;refine aJ.push (l:=Cs n k) (ro.ext o) (o3.Nl λb D=>by have:=j b D;omega) (λr' L b D u=>?_) (by omega) (by have:=o.size;omega) λs' A3 _ N m3=>?_
  ·have:=j b D;have:=(ro.block.2 r' L b u).2;omega
  ·refine g C _ _ ⟨aD k (by omega),⟨rs++[l],?_⟩,Ext.pX (I.trans o) m3 λb D=>(ro.block.1 b D).1⟩;rw[List.range_succ,Rm];exact N
 ·have O:k=n:=by simp at h;omega
  subst O;exact hK s rs B ro I _
end
theorem DR {nm:ByteArray}(h:nm.size=99)(s:Pl):((qJ nm 1 3).done s).2.2.1=0/\((qJ nm 1 3).done s).2.2.2=2/\((qJ nm 1 3).done s).2.1.ready=2\/s.d.down=true:=by
 cases hd:s.d.down with
 |true=>exact .inr rfl
 |false=>
   left;have c:named (bL nm 0)=false:=by
    unfold named bL;rw[Tk,Tk,h,show JZ.size=1 by decide,show (lR 0).size=1 by decide];decide
   have a:(s.d.create (bL nm 0)).2=2:=by
    unfold Dk.create;rw[hd,c];rfl
   have hm:(bo s (bL nm 0) 1).2=(none,2):=by
    unfold bo;rw[if_neg (by decide),if_pos (by rw[a];decide),a]
   have hw:∀L,(fu s (bL nm 0) 1 L).2=2:=λL=>by
    unfold fu;rw[hm]
   have e:(qJ nm 1 3).first s=((fu s (bL nm 0) 1 (cG (eN []))).1,(qJ nm 1 3).gV,2):=by
    unfold So.first;rw[if_pos (.inr rfl)];show ((fu s (bL nm 0) 1 (cG (eN []))).1,(qJ nm 1 3).gV,(fu s (bL nm 0) 1 (cG (eN []))).2)=_;rw[hw]
   unfold So.done;rw[if_neg (by show ¬(0:Int)≠0;decide),e];exact⟨rfl,rfl,rfl⟩
end
