/-
 Both disks at once: a call of each; what they tell.
-/
import Derived.Test.YtmkbhnholcaghaaGreatDoorJ34
import Derived.Test.YtmkbhnholcaghaaGreatDoorJ35
import Derived.Test.YtmkbhnholcaghaaGreatDoorJ38
import Derived.Test.YtmkbhnholcaghaaGreatDoorJ40
import Derived.Test.YtmkbhnholcaghaaGreatDoorJ43
import Derived.Test.YtmkbhnholcaghaaGreatDoorJ49
import Derived.Test.YtmkbhnholcaghaaGreatDoorJ50
open Array renaming length_toList->QA
open Bool renaming and_eq_true->OB,or_eq_false_iff->PZ,and_eq_false_iff->TQ
open ByteArray renaming mk->O2,size_append->Sf
open Classical renaming not_not->U8
open Go.Builtin renaming append_->Oq,lenOf->Wc
open Go.IntKind renaming i64->Ol,u64->OW,u8->Pn
open Go.Proofs.Tryz renaming prog->Oj
open Go.Value renaming int->OF,string->PQ
open Go.Value.slice renaming injEq->ON
open Int renaming toNat_natCast->Ov,tdiv->Pe,tmod->PE,emod_nonneg->UF,emod_lt_of_pos->U0,toNat_of_nonneg->VN
open List renaming getElem?_eq_some_iff->Om,getElem?_eq_getElem->On,mem_of_getElem?->Oo,mem_append->Ox,getElem?_map->Oy,mem_singleton->OH,map_cons->OJ,eq_nil_of_length_eq_zero->OK,mem_cons_of_mem->OM,mem_cons_self->OO,getElem?_append_left->OP,length_append->OU,length_cons->O3,getElem?_set->O6,length_map->O7,map_append->O8,getElem_mem->Pa,length_take->Pc,drop_eq_getElem_cons->Pf,append_assoc->Pm,mergeSort_perm->Po,getElem?_append_right->Pr,mem_of_mem_take->Pu,getElem?_set_ne->Pv,sum_cons->Py,getElem?_set_self->Pz,getD->PB,length_drop->PF,map_set->PK,getElem?_drop->PU,length_singleton->Ql,size_toArray->QC,append_nil->QG,mem_of_mem_drop->Q0,getElem?_append->Q1,map_nil->Q6,drop_drop->Ri,drop_length->RK,drop_take->VC
open Nat renaming le_refl->Ot,le_trans->OE,zero_le->OL,mul_le_mul_right->OZ,lt_or_ge->Pb,le_succ->Ph,mul_one->Pq,succ_mul->Px,lt_of_lt_of_le->P3,le_add_right->Qj,lt_succ_self->RI,add_zero->RO,mod_eq_of_lt->SK,mod_lt->Tm,div_le_self->Ts,sub_zero->TP,le_of_eq->UA,mul_comm->UE,mul_le_mul_left->UM,mul_left_comm->Va,mul_add->V9,mul_assoc->WR
open Ne renaming symm->PR
open Option renaming isSome->Un
open Option.some renaming inj->OS,injEq->Pj
open UInt8 renaming toNat_inj->QK
namespace Go.Proofs.YtmkbhnholcaghaaGreatDoor
open Go.MapKept
theorem wO {a b:Sl}{L:List (List UInt8)}{H:aa}{K:Bool->aa->Prop}(e:az EN dy H a L)(f:az EN dy H b L)(hl:L.length<4611686018427387904)(h:K true H):JY.sp a b H K:=by
 refine JY.of ?_;unfold JY.vc;have j:=e.n (by decide);have l:=f.n (by decide);refine aC (by simp;omega) ?_;refine ar L.length (λk i H1=>i=(k:Int)/\H1=H) ⟨rfl,rfl⟩ ?_;rintro k _ H1 next hk ⟨rfl,rfl⟩ c
 refine ag (λg=>?_) (λ_=>h);have d:k<L.length:=by rw[j] at g;simpa using g
 refine rz e d ?_;refine rz f d ?_;refine aC (by simp) (c d _ _ ⟨aD k (by omega),rfl⟩)
def M6 (G:Nat->Prop)(H:aa)(d m:Nat)(s:Dk):Prop:=∃a c,bo a H d s/\cq c H m s/\(∀b,a b->¬c b)/\∀b,G b↔a b\/c b
section
variable {Q:Nat->Prop}{A B:aa}{p dp m dm:Nat}{s1 s2:Pl}
end
theorem ao.cw {F:Nat->Prop}{H:aa}{p dp:Nat}{s:Pl}(h:ao F H p dp s):∃D,cq D H dp s.d/\(∀b,D b->F b)/\∀a H' d,cq a H' dp d->Step D a H H'->∃F',ao F' H' p dp (s.bE d)/\Step F F' H H':=by
 obtain⟨ll,zs,D,g,e⟩:=h;refine⟨D,g.cw,λb f=>(e b).2 (.inl f),λa H' d c i=>?_⟩;obtain⟨j,k⟩:=g.jT c i;exact j.out e k
theorem ao.head {F:Nat->Prop}{H:aa}{p dp:Nat}{s:Pl}(h:ao F H p dp s):∃ll:Sl,aj H p rP (dJ dp ll s)/\ll.n=s.fs.length/\F p:=by
 obtain⟨ll,zs,D,g,a⟩:=h;exact⟨ll,g.pool.head,g.pool.n,(a p).2 (.inr (.inl rfl))⟩
structure mc (H0:aa)(F0:Nat->Prop)(k p dp:Nat)(sw sl:Sl)(F:Nat->Prop)(A:aa)(s:Pl)(w:RW):Prop where
 pool:ao F A p dp s
 wr:rj A k p w sw sl
 dis:∀b,F b->¬dv k sw sl b
 mod:Mod (λb=>F0 b\/b=k) H0 A
 own:∀b,F b->F0 b\/H0.size<=b
theorem Ib {H:aa}{W:Int}{n:Nat}{K:Sl->aa->Prop}(F:0<=W)(G:n<1099511627776)(k:∀out H',az EB fD H' out (eT W n)->Ext H H'->(∀b,ah out b->H.size<=b)->K out H'):Kl.sp W (n:Int) H K:=by
 refine Kl.of ?_;unfold Kl.vc;have f:Pn.wrap W=((UInt8.ofNat W.toNat).toNat:Int):=by
  have:W=(W.toNat:Int):=by omega
  rw[this,oL];simp
 have c:OW.wrap (n:Int)=(n:Int):=JC (by omega);rw[f,c];refine av λH1 I l g=>?_;refine av λJ z2 r2 e2=>?_;refine vp (xp r2) (by simp) λr t o d=>?_;have v:=EO ((l.ext e2).ext d);have w:bQ EB t r.a (cQ (eN [(n:Int)])):=by
  unfold bQ;rw[iK,kq (kI _)];exact o.reads
 have h:r.n=(cQ (eN [(n:Int)])).length:=by have:=o.1;rw[cg];simpa using this.symm
 have e:(cQ (eN [(n:Int)])).length=8:=by rw[cg];simp[eN,eP]
 refine az.append ju (s:=Sl.mk (some ⟨H.size,0,none⟩) 1 1) (x:=r) v w h (by rw[e];simp) (by rw[e];simp) λz y C i _=>?_;have z3:=d.size;have a:∀b,ah (Sl.mk (some ⟨H.size,0,none⟩) 1 1) b->H.size<=b:=by
  rintro b ⟨ad,D,E⟩;cases D;subst E;exact Ot _
 refine k z y C ⟨by have:=((g.trans e2).trans d).size;have:=i.1.size;omega,λb j _=>(i.1.same b (by have:=((g.trans e2).trans d).size;omega) λu=>by have:=a b u;omega).trans (((g.trans e2).trans d).same b j id)⟩ λb j=>?_;rcases i.2 b j with q|q
 ·exact a b q
 ·omega
section
variable {H0:aa}{F0:Nat->Prop}{k p dp:Nat}{sw sl:Sl}{F:Nat->Prop}{A:aa}{s:Pl}{w:RW}
theorem mc.step {F':Nat->Prop}{c:aa}{s':Pl}(h:mc H0 F0 k p dp sw sl F A s w)(d:ao F' c p dp s')(S:Step F F' A c):mc H0 F0 k p dp sw sl F' c s' w:=by
 refine⟨d,h.wr.mod S.mod λb a q=>h.dis b q a,λb a q=>?_,h.mod.trans' S.mod λb a q=>?_,λb a=>?_⟩
 ·rcases S.own b a with r|r
  ·exact h.dis b r q
  ·have:=h.wr.lt b q;omega
 ·rcases h.own b q with r|r
  ·exact .inl r
  ·omega
 ·rcases S.own b a with r|r
  ·exact h.own b r
  ·right;have:=h.mod.size;omega
theorem mc.ext {a:aa}(h:mc H0 F0 k p dp sw sl F A s w)(e:Ext A a):mc H0 F0 k p dp sw sl F a s w:=h.step (h.pool.ext e) ⟨e.mod,λ_ q=>.inl q⟩
theorem mc.dq {c:aa}{w':RW}{a:Sl}(h:mc H0 F0 k p dp sw sl F A s w)(m:Mod (λb=>b=k) A c)(hw:rj c k p w' a sl)(hs:∀b,ah a b->ah sw b):mc H0 F0 k p dp a sl F c s w':=by
 refine⟨h.pool.keep λb d hl=>m.same b hl λq=>h.dis b d (.inl q),hw,λb d q=>h.dis b d (q.imp_right λr=>r.imp_left (hs b)),h.mod.trans' m λb _ q=>.inr q,h.own⟩
set_option maxHeartbeats 1000000 in
theorem vl {H:aa}{K:(Int×Int)->aa->Prop}(h:rj H k p w sw sl)(hp:ao F H p dp s)(hd:∀b,F b->¬dv k sw sl b)
  (T:w.rows<1099511627776) (U:0<=w.b.width) (hn:w.b.name.size<=9223372036854775807) (a7:s.d.aB<68716900000) (bs:s.next<1099511620000) (h0:0<=s.next) (V:s.Fit)
  (bx:(w.out s).1.d.aB<68716950000) (bA:(w.out s).1.next<1099511620000)
  (W:∀h hd,(Pl.leave (((w.out s).1.bt w.b.name 0).1.set h 2 hd) h).1.d.aB<68717000000) (a8:(w.out s).1.Fit) (C:∀h hd,(Pl.leave (((w.out s).1.bt w.b.name 0).1.set h 2 hd) h).1.Fit)
  (v:∀F' n H',ao F' H' p dp (w.close s).1->rj H' k p (w.close s).2.1 n sl->(∀b,F' b->¬dv k n sl b)->Step (λb=>F b\/dv k sw sl b) (λb=>F' b\/dv k n sl b) H H'->K (((w.close s).2.2.1:Int),(w.close s).2.2.2) H'):Hc.sp (aE k) H K:=by
 refine Hc.of ?_;unfold Hc.vc;simp only[al,aE];unfold RW.close at v;refine qc h.row ?_;have B0:mc H F k p dp sw sl F H s w:=⟨hp,h,hd,.refl _ _,λb q=>.inl q⟩
 -- the end of all
 have fin:∀(F':Nat->Prop) (n:Sl) (A:aa) (s':Pl) (w':RW),(∀b,ah n b->ah sw b)->mc H F k p dp n sl F' A s' w'->Step (λb=>F b\/dv k sw sl b) (λb=>F' b\/dv k n sl b) H A:=by
  intro F' n A s' w' hs B;refine⟨B.mod.mono λb _ q=>q.imp_right .inl,λb t=>?_⟩;rcases t with q|q|q|q
  ·rcases B.own b q with r|r
   ·exact .inl (.inl r)
   ·exact .inr r
  ·exact .inl (.inr (.inl q))
  ·exact .inl (.inr (.inr (.inl (hs b q))))
  ·exact .inl (.inr (.inr (.inr q)))
 by_cases P:w.b.ready≠0
 ·rw[if_pos P] at v;refine⟨λe A=>e=w.b.ready/\A=H,aC (by simpa using P) ⟨rfl,rfl⟩,?_⟩;rintro _ A ⟨rfl,rfl⟩;exact aP (by simpa using P) (v F sw A hp h hd (.refl _ _))
 rw[if_neg P] at v;obtain⟨M,bl⟩:=Rb.lr P;refine⟨λe A=>e=(w.out s).2.2/\∃R f,(∀b,ah f b->ah sw b)/\mc H F k p dp f sl R A (w.out s).1 (w.out s).2.1,?_,?_⟩
 ·refine aP (by simpa using P) ?_;refine Bu h hp hd M hn (by omega) (by omega) h0 V λR f H1 p1 h1 g m1 o=>?_;refine⟨rfl,R,f,g,p1,h1,?_,m1,o⟩;rintro b t (q|q|q)
  ·rcases o b t with r|r
   ·exact hd b r (.inl q)
   ·have:=h.lt b (.inl q);omega
  ·rcases o b t with r|r
   ·exact hd b r (.inr (.inl (g b q)))
   ·have:=h.lt b (.inr (.inl (g b q)));omega
  ·rcases o b t with r|r
   ·exact hd b r (.inr (.inr q))
   ·have:=h.lt b (.inr (.inr q));omega
 rintro _ H1 ⟨rfl,R,f,g,X⟩;have p1:=X.pool;have h1:=X.wr;have Y:0<=(w.out s).1.next:=by have:=p1.wf.tick;omega
 refine ag (λl=>?_) (λl=>?_)
 ·have S:(w.out s).2.2≠0:=by simpa using l
  rw[if_pos S] at v;exact v R f H1 p1 h1 X.dis (fin R f H1 _ _ g X)
 have S:¬(w.out s).2.2≠0:=by simpa using l
 rw[if_neg S] at v;have bb:(w.out s).2.1.b=w.b/\(w.out s).2.1.rows=w.rows:=by
  unfold RW.out at S ⊢;split
  ·exact⟨rfl,rfl⟩
  ·rename_i hq;rw[if_neg hq] at S;refine⟨?_,rfl⟩;show w.b.cr _=_;unfold Rb.cr;rw[if_neg S]
 obtain⟨Z,af⟩:=bb;rw[<-Z] at hn W U M C;rw[<-af] at T;generalize bB:(w.out s).1=s1 at*;generalize bC:(w.out s).2.1=a at*;refine aj.ld (c:=aw) (i:=0) (x:=aE p) h1.row (bG.get 0 _ rfl) ?_;refine aj.ld (c:=aH) (i:=1) (x:=a.b.name) h1.row (bG.get 1 _ rfl) ?_;refine xt p1 hn (by omega) (by omega) λF2 H2 p2 S2=>?_;have B2:=X.step p2 S2;have E:(s1.bt a.b.name 0).1.next<=s1.next+1:=s1.lG Y (by omega)
 have N:a.head s1=if (s1.bt a.b.name 0).2.2≠0 then ((s1.bt a.b.name 0).1,(s1.bt a.b.name 0).2.2) else
   if (Pl.leave ((s1.bt a.b.name 0).1.set (s1.bt a.b.name 0).2.1 2 (eT a.b.width a.rows)) (s1.bt a.b.name 0).2.1).2≠0 then Pl.leave ((s1.bt a.b.name 0).1.set (s1.bt a.b.name 0).2.1 2 (eT a.b.width a.rows)) (s1.bt a.b.name 0).2.1
   else (Pl.leave ((s1.bt a.b.name 0).1.set (s1.bt a.b.name 0).2.1 2 (eT a.b.width a.rows)) (s1.bt a.b.name 0).2.1).1.flush a.b.name:=rfl
 have bd:=(s1.bt a.b.name 0).1.jF (s1.bt a.b.name 0).2.1 2 (eT a.b.width a.rows);have an:=W (s1.bt a.b.name 0).2.1 (eT a.b.width a.rows);have a1:=C (s1.bt a.b.name 0).2.1 (eT a.b.width a.rows);generalize (s1.bt a.b.name 0).1=s2 at*;generalize (s1.bt a.b.name 0).2.1=hh at*;generalize (s1.bt a.b.name 0).2.2=e2 at*
 -- what stands behind each cut
 obtain⟨D,u⟩:∃D:Pl×Int,D=if e2≠0 then (s2,e2) else s2.set hh 2 (eT a.b.width a.rows):=⟨_,rfl⟩
 obtain⟨X1,O⟩:∃X1:Pl×Int,X1=if e2≠0 then (s2,e2) else Pl.leave (s2.set hh 2 (eT a.b.width a.rows)) hh:=⟨_,rfl⟩
 have G:X1=Pl.leave D hh:=by
  rw[O,u];by_cases q:e2≠0
  ·rw[if_pos q,if_pos q];exact(if_neg q).symm
  ·rw[if_neg q,if_neg q]
 have a6:a.head s1=if X1.2≠0 then X1 else X1.1.flush a.b.name:=by
  rw[N,O];by_cases q:e2≠0
  ·rw[if_pos q,if_pos q,if_pos q]
  ·rw[if_neg q,if_neg q]
 have bn:D.1.next<=s1.next+1:=by
  rw[u];by_cases q:e2≠0
  ·rw[if_pos q];exact E
  ·rw[if_neg q,bd];exact E
 have I:X1.2=0->X1.1.d.aB<68717000000/\X1.1.Fit:=by
  rw[O];by_cases q:e2≠0
  ·rw[if_pos q];intro r;exact absurd r q
  ·rw[if_neg q];intro _;exact⟨an,a1⟩
 refine⟨λe A=>e=D.2/\∃F',mc H F k p dp f sl F' A D.1 a,?_,?_⟩
 ·refine ag (λl=>?_) (λl=>?_)
  ·have q:¬e2≠0:=by simpa using l
   rw[if_neg q] at u;refine⟨λA=>bG A k IC p a.b [f.v,.int .i64 (a.n:Int),sl.v,.int .i64 (a.rows:Int)],B2.wr.row,?_⟩;refine aj.dt (c:=aw) (i:=0) (x:=aE p) (cs:=λ_=>_) (λ_ q=>q) (λ_ _=>bG.get 0 _ rfl) ?_;refine aj.ld (c:=ab .i64) (i:=2) (x:=a.b.width) B2.wr.row (bG.get 2 _ rfl) ?_;refine aj.dt (c:=ab .i64) (i:=8) (x:=(a.rows:Int)) (cs:=λ_=>_) (λ_ q=>q) (λ_ _=>bG.tail (j:=3) rfl) ?_;refine Ib U T λz A3 oz x3 fz=>?_;have J:=B2.ext x3;refine⟨J.wr.row,?_⟩;refine xF (kd:=2) J.pool (by omega) (bW oz) (λad ha r=>by have:=p2.lt _ r;have:=fz _ ⟨ad,ha,rfl⟩;omega) λF4 H4 p4 S4=>?_;rw[u];exact⟨rfl,F4,J.step p4 S4⟩
  ·have q:e2≠0:=by simpa using l
   rw[if_pos q] at u;rw[u];exact⟨rfl,F2,B2⟩
 rintro _ A3 ⟨rfl,F3,J⟩;refine⟨λe A=>e=X1.2/\∃F',mc H F k p dp f sl F' A X1.1 a,?_,?_⟩
 ·refine ag (λl=>?_) (λl=>?_)
  ·have q:D.2=0:=by simpa using l
   refine aj.ld (c:=aw) (i:=0) (x:=aE p) J.wr.row (bG.get 0 _ rfl) ?_;refine ko J.pool (by omega) λF4 H4 p4 S4=>?_;have e:X1=D.1.aY hh:=by rw[G];exact if_pos q
   rw[e];exact⟨rfl,F4,J.step p4 S4⟩
  ·have q:¬D.2=0:=by simpa using l
   have e:X1=D:=by rw[G];exact if_neg q
   rw[e];exact⟨rfl,F3,J⟩
 rintro _ A4 ⟨rfl,F4,B4⟩;refine⟨λe A=>e=(a.head s1).2/\∃F',mc H F k p dp f sl F' A (a.head s1).1 a,?_,?_⟩
 ·refine ag (λl=>?_) (λl=>?_)
  ·have q:X1.2=0:=by simpa using l
   refine aj.ld (c:=aw) (i:=0) (x:=aE p) B4.wr.row (bG.get 0 _ rfl) ?_;refine aj.ld (c:=aH) (i:=1) (x:=a.b.name) B4.wr.row (bG.get 1 _ rfl) ?_;refine zt B4.pool (I q).1 (I q).2 λL H5 p5 S5=>?_;have e:a.head s1=X1.1.flush a.b.name:=by rw[a6];exact if_neg (by simpa using q)
   rw[e];exact⟨rfl,L,B4.step p5 S5⟩
  ·have q:¬X1.2=0:=by simpa using l
   have e:a.head s1=X1:=by rw[a6];exact if_pos q
   rw[e];exact⟨rfl,F4,B4⟩
 rintro _ A5 ⟨rfl,L,y⟩;unfold RW.ends at v;refine ag (λl=>?_) (λl=>?_)
 ·have q:(a.head s1).2≠0:=by simpa using l
  rw[if_pos q] at v;refine ql y.wr.row M λA6 r6 m6 z6=>?_;have B6:mc H F k p dp f sl L A6 (a.head s1).1 {a with b:=a.b.cr (a.head s1).2}:=y.dq m6 ⟨r6,y.wr.wait.mod m6 λb t q=>y.wr.jK (q▸t),y.wr.last.mod m6 λb t q=>y.wr.zg (q▸t)⟩ λ_ q=>q;exact v L f A6 B6.pool B6.wr B6.dis (fin L f A6 _ _ g B6)
 ·have q:¬(a.head s1).2≠0:=by simpa using l
  rw[if_neg q] at v;refine aj.st y.wr.row (i:=4) (by simp[dr]) rfl λA7 r7 m7 z7=>?_;rw[xN] at r7;have B7:mc H F k p dp f sl L A7 (a.head s1).1 a.stop:=y.dq m7 ⟨r7,y.wr.wait.mod m7 λb t q=>y.wr.jK (q▸t),y.wr.last.mod m7 λb t q=>y.wr.zg (q▸t)⟩ λ_ q=>q;refine aj.ld (c:=ab .i64) (i:=8) (x:=(a.rows:Int)) B7.wr.row (bG.tail (j:=3) rfl) ?_;exact v L f A7 B7.pool B7.wr B7.dis (fin L f A7 _ _ g B7)
end
section
variable {F:Nat->Prop}{H:aa}{p dp:Nat}{s:Pl}{n:ByteArray}{W:Int}{K:(Option Addr×Int)->aa->Prop}
theorem xA (v:ao F H p dp s)(T:n.size<=9223372036854775807)(y:s.d.aB<68719460000)(U:s.next<1099511610000)(h0:0<=s.next)(g:s.Fit)
  (a:∀F' H',ao F' H' p dp (bj s n W).1->Step F F' H H'->(bj s n W).2.1=none->K (none,(bj s n W).2.2) H')
  (h:∀F' H' k w,ao F' H' p dp (bj s n W).1->Step F F' H H'->(bj s n W).2.1=some w->rj H' k p w bc bc->H.size<=k->¬F' k->K (aE k,(bj s n W).2.2) H'):Ht.sp (aE p) n W H K:=by
 refine Ht.of ?_;unfold Ht.vc;simp only[al,aE];refine aC rfl ?_;refine fe ?_;by_cases r:aF W=0
 ·have em:bj s n W=(s,none,60):=if_pos r;rw[em] at a;exact aP (by simpa using r) (a F H v (.refl _ _) rfl)
 refine aC (by simpa using r) ?_;obtain⟨ll,z,_,V⟩:=v.head;refine aj.ld (c:=aw) (i:=0) (x:=aE dp) z rfl ?_;obtain⟨D,d1,_,d3⟩:=v.cw;refine Ay d1 λX j d4 Y=>?_;obtain⟨C,p4,E⟩:=d3 X j _ d4 Y;have em:bj s n W=if (s.d.create n).2≠0 then (s.bE (s.d.create n).1,none,(s.d.create n).2)
   else if ((s.bE (s.d.create n).1).more n 0 []).2≠0 then (((s.bE (s.d.create n).1).more n 0 []).1,none,((s.bE (s.d.create n).1).more n 0 []).2)
   else (((s.bE (s.d.create n).1).more n 0 []).1,some (wb n W),0):=by unfold bj;rw[if_neg r]
 have G:(s.bE (s.d.create n).1).d.aB<68719470000:=by have:=s.d.lL n;show (s.d.create n).1.aB<_;omega
 have I:(s.bE (s.d.create n).1).Fit:=g.bE (s.d.kg n);have Z:(s.bE (s.d.create n).1).next=s.next:=rfl
 generalize s.bE (s.d.create n).1=J at*;generalize (s.d.create n).2=L at*;refine ag (λe=>?_) (λe=>?_)
 ·have q:L≠0:=by simpa using e
  rw[if_pos q] at em;rw[em] at a;exact a C j p4 E rfl
 have q:¬L≠0:=by simpa using e
 rw[if_neg q] at em;refine av λM z5 r5 N=>?_;have p5:=p4.ext N;have o:bG M j.size IC p ⟨n,W,0,false⟩ [bc.v,.int .i64 ((0:Nat):Int),bc.v,.int .i64 ((0:Nat):Int)]:=r5;have f:¬C j.size:=λq=>by have:=p4.lt _ q;omega
 refine BE (kd:=0) (sl:=Sl.mk none 0 0) (l:=[]) o p5 f ⟨rfl,Reads.nil _ _⟩ (by intro ad q;cases q) T G (by omega) (by omega) I λO P R t=>?_;have S:Step F C H M:=E.trans ⟨Ext.mod N,λb q=>.inl q⟩;have r6:=o.mod t.mod f;have z4:=E.mod.size;refine ag (λe=>?_) (λe=>?_)
 ·have q:(J.more n 0 []).2≠0:=by simpa using e
  rw[if_pos q] at em;rw[em] at a;exact a O P R (S.trans t) rfl
 ·have q:¬(J.more n 0 []).2≠0:=by simpa using e
  rw[if_neg q] at em;rw[em] at h;refine h O P j.size (wb n W) R (S.trans t) rfl ⟨r6,az.nil _ _ _,aO.nil _ _ _ _⟩ z4 λq=>?_;rcases t.own _ q with u|u
  ·exact f u
  ·omega
end
def jV:Option Nat->Int
 |none=>0
 |some k=>(k:Int)+1
structure A9 (H:aa)(k p:Nat)(r:RR)(si:Sl)(rs:List Sl):Prop where
 row:bG H k LG p r.b [.int .i64 (r.rows:Int),.int .i64 (r.at_:Int),.int .i64 (jV r.page),si.v]
 ins:aN H 0 si rs r.ins
section
variable {H:aa}{k p:Nat}{r:RR}{si:Sl}{rs:List Sl}
theorem A9.lt (h:A9 H k p r si rs):∀b,qS k si rs b->b<H.size:=by
 rintro b (rfl|q|⟨x,a,q⟩)
 ·exact aA h.row
 ·exact(h.ins.block.1 b q).2
 ·exact(h.ins.block.2 x a b q).2
theorem A9.mod {G:Nat->Prop}{H':aa}(h:A9 H k p r si rs)(m:Mod G H H')(a:∀b,qS k si rs b->¬G b):A9 H' k p r si rs:=
 ⟨h.row.mod m (a k (.inl rfl)),h.ins.mod m (λb c=>a b (.inr (.inl c))) λx d b c=>a b (.inr (.inr ⟨x,d,c⟩))⟩
theorem A9.C9 (h:A9 H k p r si rs):¬ah si k:=λq=>by
 obtain⟨cur,a⟩:=h.ins.out.obj k q;exact absurd (aG a h.row) (by decide)
theorem A9.jz (h:A9 H k p r si rs):∀x∈rs,¬ah x k:=λx a q=>by
 obtain⟨l,hl⟩:=h.ins.rowAt a;obtain⟨cur,b⟩:=hl.obj k q;exact absurd (aG b h.row) (by decide)
end
structure lf (H0:aa)(F0 O0:Nat->Prop)(k p dp:Nat)(si:Sl)(rs:List Sl)(F:Nat->Prop)(A:aa)(s:Pl)(r:RR):Prop where
 pool:ao F A p dp s
 rd:A9 A k p r si rs
 dis:∀b,F b->¬qS k si rs b
 mod:Mod (λb=>F0 b\/b=k) H0 A
 own:∀b,F b->F0 b\/H0.size<=b
 own2:∀b,qS k si rs b->O0 b\/H0.size<=b
section
variable {H0:aa}{F0 O0:Nat->Prop}{k p dp:Nat}{si:Sl}{rs:List Sl}{F:Nat->Prop}{A:aa}{s:Pl}{r:RR}
theorem lf.step {F':Nat->Prop}{c:aa}{s':Pl}(h:lf H0 F0 O0 k p dp si rs F A s r)(d:ao F' c p dp s')(S:Step F F' A c):lf H0 F0 O0 k p dp si rs F' c s' r:=by
 refine⟨d,h.rd.mod S.mod λb a q=>h.dis b q a,λb a q=>?_,h.mod.trans' S.mod λb a q=>?_,λb a=>?_,h.own2⟩
 ·rcases S.own b a with r|r
  ·exact h.dis b r q
  ·have:=h.rd.lt b q;omega
 ·rcases h.own b q with r|r
  ·exact .inl r
  ·omega
 ·rcases S.own b a with r|r
  ·exact h.own b r
  ·right;have:=h.mod.size;omega
theorem lf.ext {a:aa}(h:lf H0 F0 O0 k p dp si rs F A s r)(e:Ext A a):lf H0 F0 O0 k p dp si rs F a s r:=h.step (h.pool.ext e) ⟨Ext.mod e,λ_ q=>.inl q⟩
theorem lf.dq {e:aa}{r':RR}{a:Sl}{c:List Sl}(h:lf H0 F0 O0 k p dp si rs F A s r)(m:Mod (λb=>b=k) A e)(f:A9 e k p r' a c)(hs:∀b,qS k a c b->qS k si rs b\/(H0.size<=b/\¬F b)):lf H0 F0 O0 k p dp a c F e s r':=by
 refine⟨h.pool.keep λb d hl=>m.same b hl λq=>h.dis b d (.inl q),f,λb d q=>?_,h.mod.trans' m λb _ q=>.inr q,h.own,λb q=>?_⟩
 ·rcases hs b q with u|u
  ·exact h.dis b d u
  ·exact u.2 d
 ·rcases hs b q with u|u
  ·exact h.own2 b u
  ·exact .inr u.1
theorem lf.cr {e:Int}{K:Int->aa->Prop}(h:lf H0 F0 O0 k p dp si rs F A s r)(hw:r.b.wrong=0)(f:∀a,lf H0 F0 O0 k p dp si rs F a s {r with b:=r.b.cr e}->A.size<=a.size->K e a):Cz.sp (aE k) e A K:=by
 refine ql h.rd.row hw λa r' d z'=>f a (h.dq d ⟨r',h.rd.ins.mod d (λb c q=>h.rd.C9 (q▸c)) λx g b c q=>h.rd.jz x g (q▸c)⟩ λb q=>.inl q) (UA z'.symm)
set_option maxHeartbeats 1000000 in
theorem Fi {j:Nat}{K:Int->aa->Prop}(h:lf H0 F0 O0 k p dp si rs F A s r)(ok:r.Ok)(o:r.b.wrong=0)(hj:j*r.b.room<=r.rows)(a8:j<1099511627776)
  (hn:r.b.name.size<=9223372036854775807) (t:s.d.aB<68719470000) (P:s.next<1099511620000) (h0:0<=s.next)
  (d:∀F' R S T,lf H0 F0 O0 k p dp R S F' T (r.load s j).1 (r.load s j).2.1->A.size<=T.size->K (r.load s j).2.2 T):Jr.sp (aE k) (j:Int) A K:=by
 refine Jr.of ?_;unfold Jr.vc;simp only[al,aE];obtain⟨D,bb⟩:=c6 r.b;unfold RR.load at d;refine aj.ld (c:=ab .i64) (i:=7) (x:=jV r.page) h.rd.row (bG.tail (j:=2) rfl) ?_;rw[aD j (by omega)];have e1:((j+1:Nat):Int)=(j:Int)+1:=by omega
 by_cases M:r.page=some j
 ·rw[if_pos M] at d;refine aP (by rw[M];simp[jV]) ?_;exact d F si rs A h (Ot _)
 rw[if_neg M] at d;refine aC ?_ ?_
 ·cases e:r.page with
  |none=>simp only[jV,beq_eq_false_iff_ne,ne_eq];omega
  |some i=>
    have:i≠j:=λq=>M (by rw[e,q]);simp only[jV,beq_eq_false_iff_ne,ne_eq];omega
 refine aj.ld (c:=ab .i64) (i:=2) (x:=r.b.width) h.rd.row (bG.get 2 _ rfl) ?_;refine fe ?_;refine x6 h.rd.row h.pool (λq=>h.dis k q (.inl rfl)) hn t P h0 λN A1 sl p1 E o1 f1 U _=>?_;rw[e1] at p1 o1 U ⊢;have G:=h.step p1 E;generalize (s.look r.b.name ((j:Int)+1)).1=s1 at*;generalize (s.look r.b.name ((j:Int)+1)).2.1=kd at*;generalize (s.look r.b.name ((j:Int)+1)).2.2.1=b at*;generalize (s.look r.b.name ((j:Int)+1)).2.2.2=e at*;refine ag (λa=>?_) (λa=>?_)
 ·have V:e≠0:=by simpa using a
  rw[if_pos V] at d;exact G.cr o λX v z2=>d N si rs X v (OE E.mod.size z2)
 have V:¬e≠0:=by simpa using a
 rw[if_neg V] at d;refine aj.ld (c:=ab .i64) (i:=2) (x:=r.b.width) G.rd.row (bG.get 2 _ rfl) ?_;refine u5 (b:=eH b) o1 (by rw[kL];omega) λC y X ro e2=>?_;have v:=G.ext e2;have f:r.fits j kd b=true↔(kd=1/\pS (eH b) r.b.width=0/\(jr (eH b) r.b.width).length=min r.b.room (r.rows - j*r.b.room)):=by
  unfold RR.fits pS;simp only[OB,beq_iff_eq,decide_eq_true_eq];cases eG (eH b) r.b.width<;>simp
 refine ag (λa=>?_) (λa=>?_)
 ·have z:¬r.fits j kd b=true:=λq=>by
   obtain⟨q1,q2,_⟩:=f.1 q;rw[q2,q1] at a;simp at a
  rw[if_neg z] at d;exact v.cr o λO Y z3=>d N si rs O Y (by have:=E.mod.size;have:=e2.size;omega)
 have I:kd=1/\pS (eH b) r.b.width=0:=by
  simp only[PZ,bne_eq_false_iff_eq] at a;refine⟨?_,a.2⟩;have:kd.toNat=1:=by omega
  exact QK.1 this
 refine aj.ld (c:=ab .i64) (i:=5) (x:=(r.rows:Int)) v.rd.row (bG.tail (j:=0) rfl) ?_;have Z:(j:Int)*(r.b.room:Int)=((j*r.b.room:Nat):Int):=by simp
 have af:Ol.wrap ((j:Int)*aF r.b.width)=((j*r.b.room:Nat):Int):=by
  rw[D,Z];have:=ok.rows;exact wrap64 (by omega) (by omega)
 have an:Ol.wrap ((r.rows:Int) - ((j*r.b.room:Nat):Int))=((r.rows - j*r.b.room:Nat):Int):=by
  have:=ok.rows;rw[wrap64 (by omega) (by omega)];omega
 rw[af,an,D,ro.n];have J:(if ((r.rows - j*r.b.room:Nat):Int)<(r.b.room:Int) then ((r.rows - j*r.b.room:Nat):Int) else (r.b.room:Int))=((min r.b.room (r.rows - j*r.b.room):Nat):Int):=by
  split<;>omega
 rw[J];refine ag (λa=>?_) (λa=>?_)
 ·have z:¬r.fits j kd b=true:=λq=>by
   obtain⟨_,_,q3⟩:=f.1 q;rw[q3] at a;simp at a
  rw[if_neg z] at d;exact v.cr o λO Y z3=>d N si rs O Y (by have:=E.mod.size;have:=e2.size;omega)
 have a1:((jr (eH b) r.b.width).length:Int)=((min r.b.room (r.rows - j*r.b.room):Nat):Int):=by simpa only[bne_eq_false_iff_eq] using a
 have hf:r.fits j kd b=true:=f.2 ⟨I.1,I.2,Int.ofNat.inj a1⟩;rw[if_pos hf] at d;refine aj.st v.rd.row (i:=7) (by simp[dr]) rfl λO r3 m3 z3=>?_;refine aj.st r3 (i:=8) (by simp[dr]) rfl λA4 r4 m4 z4=>?_;have m24:=m3.trans m4;have a6:bG A4 k LG p r.b [.int .i64 (r.rows:Int),.int .i64 (r.at_:Int),.int .i64 (jV (some j)),C.v]:=by
  have e:((dr p r.b++[.int .i64 (r.rows:Int),.int .i64 (r.at_:Int),.int .i64 (jV r.page),si.v]).toArray.setIfInBounds 7 (.int .i64 ((j:Int)+1))).setIfInBounds 8 C.v=(dr p r.b++[.int .i64 (r.rows:Int),.int .i64 (r.at_:Int),.int .i64 (jV (some j)),C.v]).toArray:=by
   simp[dr,jV]
  rw[e] at r4;exact r4
 have g:=ro.block;have bd:k<A1.size:=aA G.rd.row;have bl:=G.mod.size;have a7:aN X 0 C y (jr (eH b) r.b.width):=⟨ro.out.xh,ro.len,λi x l h1 h2=>(ro.row i x l h1 h2).xh,ro.apart⟩;have rn:A9 A4 k p {r with page:=some j,ins:=jr (eH b) r.b.width} C y:=
  ⟨a6,a7.mod m24 (λb L q=>by have:=(g.1 b L).1;omega) λx hx b L q=>by have:=(g.2 x hx b L).1;omega⟩
 refine d N C y A4 (v.dq m24 rn λb L=>?_) (by have:=E.mod.size;have:=e2.size;have:=m24.size;omega);rcases L with q|q|⟨x,hx,q⟩
 ·exact .inl (.inl q)
 ·have:=(g.1 b q).1;exact .inr ⟨by omega,λu=>by have:=p1.lt b u;omega⟩
 ·have:=(g.2 x hx b q).1;exact .inr ⟨by omega,λu=>by have:=p1.lt b u;omega⟩
theorem FJ {K:(Sl×Bool×Int)->aa->Prop}(h:lf H0 F0 O0 k p dp si rs F A s r)(ok:r.Ok)
  (hn:r.b.name.size<=9223372036854775807) (y:s.d.aB<68719470000) (M:s.next<1099511620000) (h0:0<=s.next)
  (u:∀F' E G J l,lf H0 F0 O0 k p dp E G F' J (r.next s).1 (r.next s).2.1->Ints .u64 J l (r.next s).2.2.1->(∀b,ah l b->qS k E G b/\b≠k)->A.size<=J.size->K (l,(r.next s).2.2.2.1,(r.next s).2.2.2.2) J):Ce.sp (aE k) A K:=by
 refine Ce.of ?_;unfold Ce.vc;simp only[al,aE];obtain⟨N,af⟩:=c6 r.b;unfold RR.next at u;refine qc h.rd.row ?_;refine ag (λt=>?_) (λt=>?_)
 ·have L:r.b.ready≠0:=by simpa using t
  rw[if_pos L] at u;exact u F si rs A _ h ⟨rfl,Reads.nil _ _⟩ (λb q=>absurd q (aS b)) (Ot _)
 have L:¬r.b.ready≠0:=by simpa using t
 obtain⟨O,_⟩:=Rb.lr L;rw[if_neg L] at u;refine aj.ld (c:=ab .i64) (i:=6) (x:=(r.at_:Int)) h.rd.row (bG.tail (j:=1) rfl) ?_;refine aj.ld (c:=ab .i64) (i:=5) (x:=(r.rows:Int)) h.rd.row (bG.tail (j:=0) rfl) ?_;have Z:=ok.at_;refine ag (λt=>?_) (λt=>?_)
 ·have e1:r.at_=r.rows:=by
   have:(r.at_:Int)>=(r.rows:Int):=by simpa using t
   omega
  rw[if_pos e1] at u;exact u F si rs A _ h ⟨rfl,Reads.nil _ _⟩ (λb q=>absurd q (aS b)) (Ot _)
 have an:r.at_<r.rows:=by
  have:¬(r.at_:Int)>=(r.rows:Int):=by simpa using t
  omega
 rw[if_neg (by omega)] at u;refine aj.ld (c:=ab .i64) (i:=2) (x:=r.b.width) h.rd.row (bG.get 2 _ rfl) ?_;refine fe ?_;refine aj.ld (c:=ab .i64) (i:=6) (x:=(r.at_:Int)) h.rd.row (bG.tail (j:=1) rfl) ?_;have P:=ok.room;have a1:=ok.rows;rw[N];refine⟨by omega,?_⟩;have hdiv:Ol.wrap (Pe (r.at_:Int) (r.b.room:Int))=((r.at_/r.b.room:Nat):Int):=by
  have h1:Pe (r.at_:Int) (r.b.room:Int)=((r.at_/r.b.room:Nat):Int):=rfl;have h2:=Ts r.at_ r.b.room;rw[h1];generalize r.at_/r.b.room=q at h2 ⊢;exact wrap64 (by omega) (by omega)
 rw[hdiv];have a6:=Nat.div_mul_le_self r.at_ r.b.room;have a7:=Ts r.at_ r.b.room;refine Fi h ok O (by omega) (by omega) hn y M h0 λR d f A1 g hz=>?_;obtain⟨k1,k2,k3,k4,_,k6⟩:=RR.oU (s:=s) (j:=r.at_/r.b.room) ok;generalize (r.load s (r.at_/r.b.room)).1=s1 at*;generalize (r.load s (r.at_/r.b.room)).2.1=o at*;generalize (r.load s (r.at_/r.b.room)).2.2=e2 at*;refine ag (λt=>?_) (λt=>?_)
 ·have S:e2≠0:=by simpa using t
  rw[if_pos S] at u;exact u R d f A1 _ g ⟨rfl,Reads.nil _ _⟩ (λb q=>absurd q (aS b)) hz
 have S:¬e2≠0:=by simpa using t
 rw[if_neg S] at u;obtain⟨k7,k8⟩:=k6 (by omega);have hlen:=k1.page _ k8;rw[k7,k2] at hlen;have hm:=Tm r.at_ P;have a8:=Nat.div_add_mod r.at_ r.b.room;have bb:r.b.room*(r.at_/r.b.room)=r.at_/r.b.room*r.b.room:=UE _ _;have z:r.at_%r.b.room<o.ins.length:=by rw[hlen];omega
 refine aj.ld (c:=ak) (i:=8) (x:=d) g.rd.row (bG.tail (j:=3) rfl) ?_;refine aj.ld (c:=ab .i64) (i:=6) (x:=(o.at_:Int)) g.rd.row (bG.tail (j:=1) rfl) ?_;rw[k3];refine⟨by omega,?_⟩;have I:PE (r.at_:Int) (r.b.room:Int)=((r.at_%r.b.room:Nat):Int):=rfl;rw[I];have C:r.at_%r.b.room<f.length:=by rw[g.rd.ins.len];exact z
 have T:∀{K:Addr->Sl->Prop},(∀a,K a f[r.at_%r.b.room])->ae d.a λa=>(0<=((r.at_%r.b.room:Nat):Int)/\((r.at_%r.b.room:Nat):Int)<(d.n:Int))/\Go.Proofs.YtmkbhnholcaghaaGreatDoor.ld ak A1 (a.add (((r.at_%r.b.room:Nat):Int).toNat*1)) λx=>K a x:=λ{K} hk=>by
  obtain⟨ad,U,t⟩:=g.rd.ins.out.reads.at (i:=r.at_%r.b.room) (by simpa using C);refine aV ad U ⟨⟨by omega,by rw[g.rd.ins.n];omega⟩,f[r.at_%r.b.room],?_,hk ad⟩;rw[Ov,Pq,t,List.getElem_map]
 refine T λ_=>?_;have ol:=g.rd.ins.row _ _ _ (On C) (On z);refine aj.ld (c:=ab .i64) (i:=6) (x:=(o.at_:Int)) g.rd.row (bG.tail (j:=1) rfl) ?_;refine aj.st g.rd.row (i:=6) (by simp[dr]) rfl λV X m3 z3=>?_;rw[k3,aD r.at_ (by omega)] at X;have Y:bG V k LG p o.b [.int .i64 (o.rows:Int),.int .i64 ((r.at_+1:Nat):Int),.int .i64 (jV o.page),d.v]:=by
  have e:(dr p o.b++[.int .i64 (o.rows:Int),.int .i64 (r.at_:Int),.int .i64 (jV o.page),d.v]).toArray.setIfInBounds 6 (.int .i64 ((r.at_+1:Nat):Int))=(dr p o.b++[.int .i64 (o.rows:Int),.int .i64 ((r.at_+1:Nat):Int),.int .i64 (jV o.page),d.v]).toArray:=by
   simp[dr]
  rw[e] at X;exact X
 have B3:lf H0 F0 O0 k p dp d f R V s1 {o with at_:=r.at_+1}:=g.dq m3 ⟨Y,g.rd.ins.mod m3 (λb D q=>g.rd.C9 (q▸D)) λx hx b D q=>g.rd.jz x hx (q▸D)⟩ λb q=>.inl q;have v:f[r.at_%r.b.room]∈f:=Pa C;refine u R d f V _ B3 ?_ (λb D=>⟨.inr (.inr ⟨_,v,D⟩),λq=>g.rd.jz _ v (q▸D)⟩) (by omega);have eg:o.ins.getD (r.at_%r.b.room) []=o.ins[r.at_%r.b.room]:=by rw[PB,On z];rfl
 rw[eg];exact(aO.ints ol).mod m3 λad U q=>g.rd.jz _ v (q▸⟨ad,U,rfl⟩)
end
theorem CX {n room:Nat}{H:aa}{K:Int->aa->Prop}(a:0<room/\room<=504)(e:n<=528482304)(b:K (df n room:Int) H):Jw.sp (n:Int) (room:Int) H K:=by
 refine Jw.of ?_;unfold Jw.vc;refine⟨by omega,?_⟩;have c:Ol.wrap ((n:Int)+(room:Int))=((n+room:Nat):Int):=by rw[wrap64 (by omega) (by omega)];omega
 have e2:Ol.wrap (((n+room:Nat):Int) - 1)=((n+room - 1:Nat):Int):=by rw[wrap64 (by omega) (by omega)];omega
 have d:Pe ((n+room - 1:Nat):Int) (room:Int)=((df n room:Nat):Int):=rfl;rw[c,e2,d];have:=mX (n:=n) a.1;rw[wrap64 (by omega) (by omega)];exact b
section
variable {F:Nat->Prop}{H:aa}{p dp:Nat}{s:Pl}{n:ByteArray}{W:Int}{K:(Option Addr×Int)->aa->Prop}
set_option maxHeartbeats 1000000 in
theorem xS (Z:ao F H p dp s)(hn:n.size<=9223372036854775807)(af:s.d.aB<68719460000)(an:s.next<1099511620000)(h0:0<=s.next)(C:(s.look n 0).1.d.aB<68719476736)
  (f:∀F' H',ao F' H' p dp (rnOpen s n W).1->Step F F' H H'->(rnOpen s n W).2.1=none->K (none,(rnOpen s n W).2.2) H')
  (l:∀F' H' k r,ao F' H' p dp (rnOpen s n W).1->Step F F' H H'->(rnOpen s n W).2.1=some r->A9 H' k p r bc []->H.size<=k->¬F' k->K (aE k,(rnOpen s n W).2.2) H'):He.sp (aE p) n W H K:=by
 refine He.of ?_;unfold He.vc;simp only[al,aE];refine aC rfl ?_;refine fe ?_;by_cases X:aF W=0
 ·have em:rnOpen s n W=(s,none,60):=if_pos X;rw[em] at f;exact aP (by simpa using X) (f F H Z (.refl _ _) rfl)
 refine aC (by simpa using X) ?_;refine av λH3 z3 r3 e3=>?_;have p3:=Z.ext e3;have S3:Step F F H H3:=⟨Ext.mod e3,λb q=>.inl q⟩;have hk:¬F H.size:=λq=>by have:=Z.lt _ q;omega
 have b3:bG H3 H.size LG p ⟨n,W,0,false⟩ [.int .i64 ((0:Nat):Int),.int .i64 ((0:Nat):Int),.int .i64 (jV none),bc.v]:=r3;refine x6 (g:=0) (b:=⟨n,W,0,false⟩) b3 p3 hk hn (by omega) an h0 λv H4 sl p4 S4 y f4 a1 c4=>?_;have em:rnOpen s n W=if (s.look n 0).2.2.2≠0 then ((s.look n 0).1,none,(s.look n 0).2.2.2)
  else if ¬((s.look n 0).2.1=2/\(s.look n 0).2.2.1.length=9/\(((s.look n 0).2.2.1.getD 0 0).toNat:Int)=W) then ((s.look n 0).1,none,280)
  else if ((s.look n 0).1.d.len n).2≠0 then ((s.look n 0).1,none,((s.look n 0).1.d.len n).2)
  else if bZ (eH ((s.look n 0).2.2.1.drop 1))<=528482304/\((s.look n 0).1.d.len n).1=1+df (bZ (eH ((s.look n 0).2.2.1.drop 1))).toNat (aF W).toNat then
   ((s.look n 0).1,some ⟨⟨n,W,0,false⟩,(bZ (eH ((s.look n 0).2.2.1.drop 1))).toNat,0,none,[]⟩,0)
  else ((s.look n 0).1,none,280):=by unfold rnOpen;rw[if_neg X]
 rw[em] at f l;simp only at p4 y a1 ⊢;generalize (s.look n 0).1=s4 at*;generalize (s.look n 0).2.1=kd at*;generalize (s.look n 0).2.2.1=b at*;generalize (s.look n 0).2.2.2=e at*;have Y:=S3.trans S4;have b4:=b3.mod S4.mod hk;have a6:=y.n;refine ag (λh=>?_) (λh=>?_)
 ·have e0:e≠0:=by simpa using h
  rw[if_pos e0] at f;exact f v H4 p4 Y rfl
 have e0:¬e≠0:=by simpa using h
 rw[if_neg e0] at f l;refine ag (λh=>?_) (λh=>?_)
 ·have o:¬(kd=2/\b.length=9/\((b.getD 0 0).toNat:Int)=W):=by
   rintro⟨q1,q2,_⟩;rw[a6,q2,q1] at h;simp at h
  rw[if_pos o] at f;exact f v H4 p4 Y rfl
 have a7:kd=2/\b.length=9:=by
  simp only[PZ,bne_eq_false_iff_eq] at h;refine⟨QK.1 (by have:=h.1;show kd.toNat=2;omega),by have:=h.2;omega⟩
 obtain⟨a8,bb⟩:=a7;refine dZ y (i:=0) (by omega) rfl λad ha=>?_;have bd:Ol.wrap ((b[0]'(by omega)).toNat:Int)=((b.getD 0 0).toNat:Int):=by
  have:b.getD 0 0=b[0]'(by omega):=by rw[PB,On (by omega)];rfl
  have b0:=(b[0]'(by omega)).toNat_lt;rw[this,wrap64 (by omega) (by omega)]
 rw[bd];refine ag (λh=>?_) (λh=>?_)
 ·have o:¬(kd=2/\b.length=9/\((b.getD 0 0).toNat:Int)=W):=by
   rintro⟨_,_,q3⟩;rw[q3] at h;simp at h
  rw[if_pos o] at f;exact f v H4 p4 Y rfl
 have P:¬¬(kd=2/\b.length=9/\((b.getD 0 0).toNat:Int)=W):=λq=>q ⟨a8,bb,by simpa only[bne_eq_false_iff_eq] using h⟩;rw[if_neg P] at f l;refine⟨by omega,?_⟩;have hd:=y.drop c4 1;have bl:(eH (b.drop 1)).length=8:=by rw[kL,PF];omega
 refine u5 (b:=eH (b.drop 1)) hd (by omega) λsr rs H5 ro E=>?_;rw[w9 bl] at ro;have p5:=p4.ext E;have T5:Step F v H H5:=Y.trans ⟨Ext.mod E,λb q=>.inl q⟩;have b5:=b4.ext E;obtain⟨ll,bn,_,b1⟩:=p5.head;refine aj.ld (c:=aw) (i:=0) (x:=aE dp) bn rfl ?_;obtain⟨D,d1,_,_⟩:=p5.cw;refine nr d1 C λz L=>?_;have R:=p5.ext L;have M:Step F v H z:=T5.trans ⟨Ext.mod L,λb q=>.inl q⟩;have b6:=b5.ext L;have bs:Rows z sr [[bZ (eH (b.drop 1))]]:=(ro.mod L (λ_ _ u=>u) λ_ _ _ _ u=>u).rows;have hm:=Dk.j7 d1.wf n;generalize (s4.d.len n).1=N at*;generalize (s4.d.len n).2=e5 at*;refine ag (λh=>?_) (λh=>?_)
 ·have L:e5≠0:=by simpa using h
  rw[if_pos L] at f;exact f v z R M rfl
 have bx:¬e5≠0:=by simpa using h
 rw[if_neg bx] at f l;have G:∀{K:Addr->Sl->Addr->Int->Prop},(∀a x c,K a x c (bZ (eH (b.drop 1))))->ae sr.a λS=>(0<=(0:Int)/\(0:Int)<(sr.n:Int))/\ld ak z (S.add ((0:Int).toNat*1)) λ(I:Sl)=>ae I.a λT=>(0<=(0:Int)/\(0:Int)<(I.n:Int))/\ld (ab .u64) z (T.add ((0:Int).toNat*1)) λ(bA:Int)=>K S I T bA:=λ{K} hk=>by
  refine bs.ld (i:=0) (by simp) λbB x1 b2 bC=>?_;have U:Ints .u64 z x1 [bZ (eH (b.drop 1))]:=bC;exact jC U (i:=0) (j:=0) rfl (by simp) λbD b7=>hk bB x1 bD
 have b9:=iv (eH (b.drop 1));generalize bZ (eH (b.drop 1))=w at*;have J:=c6 ⟨n,W,0,false⟩;refine G λ_ _ _=>?_;refine ag (λh=>?_) (λh=>?_)
 ·have hw:¬w<=528482304:=by
   have:w>528482304:=by simpa using h
   omega
  rw[if_neg (λq=>hw q.1)] at f;exact f v z R M rfl
 ·have hw:w<=528482304:=by
   have:¬w>528482304:=by simpa using h
   omega
  refine G λ_ _ _=>?_;obtain⟨wn,rfl⟩:∃wn:Nat,w=(wn:Int):=⟨w.toNat,by omega⟩;rw[show Ol.wrap (wn:Int)=(wn:Int) from wrap64 (by omega) (by omega)];have t:0<(Rb.room ⟨n,W,0,false⟩):=by
   have:=J.1;simp only at this;omega
  have bM:aF W=((aF W).toNat:Int):=J.1;rw[bM];refine CX ⟨t,J.2⟩ (by omega) ?_;have bN:=mX (n:=wn) t;have bO:Rb.room ⟨n,W,0,false⟩=(aF W).toNat:=rfl;rw[bO] at bN;have w2:Ol.wrap (1+(df wn (aF W).toNat:Int))=((1+df wn (aF W).toNat:Nat):Int):=by
   rw[wrap64 (by omega) (by omega)];omega
  rw[w2];rw[Ov] at f l;refine ag (λh=>?_) (λh=>?_)
  ·have e7:¬(((wn:Nat):Int)<=528482304/\N=1+df wn (aF W).toNat):=λq=>by
    rw[q.2] at h;simp at h
   rw[if_neg e7] at f;exact f v z R M rfl
  ·have e7:N=1+df wn (aF W).toNat:=by
    have:(N:Int)=((1+df wn (aF W).toNat:Nat):Int):=by simpa using h
    omega
   rw[if_pos ⟨hw,e7⟩] at l;refine G λ_ _ _=>?_;rw[show Ol.wrap (wn:Int)=(wn:Int) from wrap64 (by omega) (by omega)];refine aj.st b6 (i:=5) (by simp[dr]) rfl λH7 r7 m7 z7=>?_;have V:¬v H.size:=λq=>by
    rcases S4.own _ q with u|u
    ·exact hk u
    ·omega
   have:=M.mod.size;refine l v H7 H.size ⟨⟨n,W,0,false⟩,wn,0,none,[]⟩ (R.keep λb O _=>m7.same b (R.lt b O) λq=>V (q▸O)) ⟨⟨by omega,λb O hn=>(m7.same b (by omega) λq=>by omega).trans (M.mod.same b O hn)⟩,λb O=>M.own b O⟩ rfl ⟨r7,aN.nil _ _⟩ (Ot _) V
end
section
variable {H0:aa}{F0 O0:Nat->Prop}{k p dp:Nat}{si:Sl}{rs:List Sl}{F:Nat->Prop}{A:aa}{s:Pl}{r:RR}{low:Sl}{ll:List Int}
end
structure pK (H0:aa)(F0:Nat->Prop)(col:Nat->Nat)(p dp:Nat)(F:Nat->Prop)(A:aa)(s:Pl)(xs:List nv)(l:Sl):Prop where
 pool:ao F A p dp s
 rds:∀(i:Nat) (x:nv),xs[i]?=some x->A9 A x.k p x.r x.si x.srs
 oks:∀x∈xs,x.r.Ok/\x.r.b.name.size<=9223372036854775807
 list:az dN Mk A l (xs.map (·.k))
 cF:∀b,F b->col b=0/\(F0 b\/H0.size<=b)
 cR:∀(i:Nat) (x:nv),xs[i]?=some x->∀b,x.own b->col b=5+i/\H0.size<=b
 cL:∀b,ah l b->col b=4/\H0.size<=b
 mod:Mod F0 H0 A
section
variable {H0 A:aa}{F0 F:Nat->Prop}{col:Nat->Nat}{p dp:Nat}{s:Pl}{xs:List nv}{l:Sl}
theorem pK.step (h:pK H0 F0 col p dp F A s xs l):Step F0 F H0 A:=⟨h.mod,λb a=>(h.cF b a).2⟩
theorem pK.lt (h:pK H0 F0 col p dp F A s xs l){i:Nat}{x:nv}(a:xs[i]?=some x):∀b,x.own b->b<A.size:=(h.rds i x a).lt
theorem pK.so {G:Nat->Prop}{F':Nat->Prop}{B:aa}{s':Pl}{col':Nat->Nat}(h:pK H0 F0 col p dp F A s xs l)(g:ao F' B p dp s')(m:Mod G A B)(e:∀b,b<A.size->G b->col b<4)(d:∀b,b<H0.size->G b->F0 b)
  (j:∀b,F' b->col' b=0/\(F0 b\/H0.size<=b)) (f:∀b,b<A.size->4<=col b->col' b=col b):pK H0 F0 col' p dp F' B s' xs l:=by
 refine⟨g,λi x c=>(h.rds i x c).mod m λb a q=>?_,h.oks,h.list.mod m λb a q=>?_,j,λi x c b a=>?_,λb a=>?_,h.mod.trans' m d⟩
 ·have:=e b (h.lt c b a) q;have:=(h.cR i x c b a).1;omega
 ·have:=e b (h.list.lt b a) q;have:=(h.cL b a).1;omega
 ·have:=h.cR i x c b a;rw[f b (h.lt c b a) (by omega)];exact this
 ·have:=h.cL b a;rw[f b (h.list.lt b a) (by omega)];exact this
theorem pK.next {K:(Sl×Bool×Int)->aa->Prop}{i:Nat}{x:nv}{u v:Nat}(h:pK H0 F0 col p dp F A s xs l)(C:xs[i]?=some x)(b:Bd s u v)(hu:u<1000000000000)(O:v<68719470000)
  (L:∀F' B col' x' row,pK H0 F0 col' p dp F' B (x.r.next s).1 (xs.set i x') l->x'.k=x.k->x'.r=(x.r.next s).2.1->Ints .u64 B row (x.r.next s).2.2.1->(∀b,ah row b->x'.own b/\b≠x.k)->(∀b,b<A.size->col' b=col b)->Mod (λb=>F b\/b=x.k) A B->
   K (row,(x.r.next s).2.2.2.1,(x.r.next s).2.2.2.2) B):Ce.sp (aE x.k) A K:=by
 have G:=Oo C;obtain⟨ok,J⟩:=h.oks x G;have hi:=(Om.1 C).1;have dis:∀b,F b->¬qS x.k x.si x.srs b:=λb a q=>by
  have:=(h.cF b a).1;have:=(h.cR i x C b q).1;omega
 have I:=b.lo;have M:=b.hi;have N:=b.aB;refine FJ (⟨h.pool,h.rds i x C,dis,.refl _ _,λ_ q=>.inl q,λ_ q=>.inl q⟩:lf A F (qS x.k x.si x.srs) x.k p dp x.si x.srs F A s x.r) ok J (by omega) (by omega) I λF' D t B row g o f P=>?_;obtain⟨col',c1,c2⟩:=ij col A.size F' (qS x.k D t) (λ_=>False) 0 (5+i) 3 g.dis (λb q r=>r) (λb q r=>r);have E:=RR.gh ok s;have z:=g.mod.size;have keep:∀(j:Nat) (y:nv),j≠i->xs[j]?=some y->∀b,y.own b->¬(F b\/b=x.k):=λj y R d b a q=>by
  have c:=(h.cR j y d b a).1;rcases q with q|q
  ·have:=(h.cF b q).1;omega
  ·have:=(h.cR i x C b (by subst q;exact .inl rfl)).1;omega
 refine L F' B col' ⟨x.k,(x.r.next s).2.1,D,t⟩ row ⟨g.pool,λj y d=>?_,λy d=>?_,?_,λb a=>?_,λj y d b a=>?_,λb a=>?_,?_⟩ rfl rfl o (λb a=>f b a) c1 g.mod
 ·by_cases q:j=i
  ·subst q;rw[Pz hi] at d;cases d;exact g.rd
  ·rw[Pv (PR q)] at d;exact(h.rds j y d).mod g.mod (keep j y q d)
 ·rcases List.mem_or_eq_of_mem_set d with q|q
  ·exact h.oks y q
  ·subst q;exact⟨E.1,by show (x.r.next s).2.1.b.name.size<=_;rw[E.2.1];exact J⟩
 ·have e:(xs.set i ⟨x.k,(x.r.next s).2.1,D,t⟩).map (·.k)=xs.map (·.k):=by
   rw[PK];apply List.ext_getElem?;intro j;rw[O6];split
   ·rename_i q;subst q;rw[Oy,C];simp[hi]
   ·rfl
  rw[e];exact h.list.mod g.mod λb a q=>by
   have c:=(h.cL b a).1;rcases q with q|q
   ·have:=(h.cF b q).1;omega
   ·have:=(h.cR i x C b (by subst q;exact .inl rfl)).1;omega
 ·rcases g.own b a with q|q
  ·rw[c1 b (h.pool.lt b q)];exact h.cF b q
  ·exact⟨(c2 b q).1 a,.inr (by have:=h.mod.size;omega)⟩
 ·by_cases q:j=i
  ·subst q;rw[Pz hi] at d;cases d;rcases g.own2 b a with q|q
   ·rw[c1 b (h.lt C b q)];exact h.cR j x C b q
   ·exact⟨(c2 b q).2.1 a,by have:=h.mod.size;omega⟩
  ·rw[Pv (PR q)] at d;rw[c1 b (h.lt d b a)];exact h.cR j y d b a
 ·rw[c1 b (h.list.lt b a)];exact h.cL b a
 ·refine h.mod.trans' g.mod λb a q=>?_;rcases q with q|q
  ·exact(h.cF b q).2.resolve_right (by omega)
  ·have:=(h.cR i x C b (by subst q;exact .inl rfl)).2;omega
end
def GM:eK Sl:=⟨1,λx=>[x.v],λ_=>rfl,λx u hu=>by simp at hu;subst hu;rfl⟩
def K3:eK Bool:=⟨1,λx=>[.bool x],λ_=>rfl,λx u hu=>by simp at hu;subst hu;rfl⟩
theorem ME:rq Oj fF fG 1 24:=eL (by kernel_rfl)
theorem MI:rq Oj Lf Lm 1 1:=eL (by kernel_rfl)
theorem Mp:rq Oj Ls Mk 1 8:=eL (by kernel_rfl)
structure uq (H0:aa)(F0:Nat->Prop)(col:Nat->Nat)(p dp:Nat)(F:Nat->Prop)(A:aa)(s:Pl)(xs:List nv)(l:Sl)(kw:Nat)(w:RW)(sw sl hsl:Sl)(hd:List Sl)(isl:Sl)(isb:List Bool)(hs:List (Option (List Int))):Prop where
 rds:pK H0 F0 col p dp F A s xs l
 wr:rj A kw p w sw sl
 cW:∀b,dv kw sw sl b->col b=2/\(F0 b\/H0.size<=b)
 hO:az GM fG A hsl hd
 iO:az K3 Lm A isl isb
 cH:∀b,(ah hsl b\/ah isl b)->col b=1/\H0.size<=b
 row:∀(i:Nat) (y:List Int),hs[i]?=some (some y)->∃r x,hd[i]?=some r/\xs[i]?=some x/\Ints .u64 A r y/\(∀b,ah r b->x.own b/\b≠x.k)/\y.length<=16
section
variable {H0 A B:aa}{F0 F F':Nat->Prop}{col col':Nat->Nat}{p dp:Nat}{s s':Pl}{xs:List nv}{l:Sl}{kw:Nat}{w:RW}{sw sl hsl isl:Sl}{hd:List Sl}{isb:List Bool}{hs:List (Option (List Int))}
theorem uq.MO (h:uq H0 F0 col p dp F A s xs l kw w sw sl hsl hd isl isb hs):∀b,dv kw sw sl b->b<A.size:=h.wr.lt
theorem uq.HN (h:uq H0 F0 col p dp F A s xs l kw w sw sl hsl hd isl isb hs){i:Nat}{x:nv}(a:xs[i]?=some x){b:Nat}(c:x.own b):col b=5+i/\b<A.size:=⟨(h.rds.cR i x a b c).1,h.rds.lt a b c⟩
set_option maxHeartbeats 1000000 in
theorem uq.add {K:Int->aa->Prop}{row:Sl}{y:List Int}{to:ByteArray}{c u v:Nat}(h:uq H0 F0 col p dp F A s xs l kw w sw sl hsl hd isl isb hs)(ok:me w to c)(X:c<1000000000000)(t:to.size<=9223372036854775807)(b:Bd s u v)(hu:u<1000000000000)(Y:v<68719460000)(Z:y.length<=16)
  (g:Ints .u64 A row y) (j:∀ad,row.a=some ad->¬dv kw sw sl ad.block)
  (I:∀F' B col' e f,uq H0 F0 col' p dp F' B (w.add s y).1 xs l kw (w.add s y).2.1 e f hsl hd isl isb hs->A.size<=B.size->K (w.add s y).2.2 B):Bb.sp (aE kw) row A K:=by
 have dis:∀b,F b->¬dv kw sw sl b:=λb d q=>by
  have:=(h.rds.cF b d).1;have:=(h.cW b q).1;omega
 have z:=b.lo;have J:=b.hi;have L:=b.aB;have o1:=ok.wait;have o2:=ok.n;have o3:=ok.rows;refine BU h.wr h.rds.pool dis g (λad C _=>j ad C) (λ_=>by omega) (by omega) (by omega) (by omega) (by rw[ok.name];exact t) (by omega) (by omega) z b.fit λF' e f B M N O S=>?_;have o:∃col':Nat->Nat,(∀b,F' b->col' b=0)/\(∀b,dv kw e f b->col' b=2)/\∀b,¬F' b->¬dv kw e f b->col' b=col b:=by
  classical
  refine⟨λb=>if F' b then 0 else if dv kw e f b then 2 else col b,λb d=>if_pos d,λb d=>?_,λb h1 P=>?_⟩
  ·show (if F' b then _ else _)=_;rw[if_neg λq=>O b q d,if_pos d]
  ·show (if F' b then _ else _)=_;rw[if_neg h1,if_neg P]
 obtain⟨col',c1,c2,R⟩:=o;have z0:=h.rds.mod.size;have old:∀b,b<A.size->F' b\/dv kw e f b->col b=0\/col b=2:=λb d q=>by
  rcases (S.own b q).resolve_right (by omega) with u|u
  ·exact .inl (h.rds.cF b u).1
  ·exact .inr (h.cW b u).1
 have same:∀b,b<A.size->col b≠0->col b≠2->col' b=col b:=λb d n0 n2=>R b (λq=>by rcases old b d (.inl q) with u|u<;>omega) λq=>by rcases old b d (.inr q) with u|u<;>omega
 have base:∀b,F' b\/dv kw e f b->F0 b\/H0.size<=b:=λb q=>by
  rcases S.own b q with (u|u)|u
  ·exact(h.rds.cF b u).2
  ·exact(h.cW b u).2
  ·exact .inr (by omega)
 have D:∀b,b<A.size->(F b\/dv kw sw sl b)->col b=0\/col b=2:=λb _ q=>q.imp (λu=>(h.rds.cF b u).1) λu=>(h.cW b u).1;have E:∀b,(ah hsl b\/ah isl b)->¬(F b\/dv kw sw sl b):=λb d q=>by
  have a:=(h.cH b d).1;have lt:b<A.size:=d.elim (λu=>h.hO.lt b u) λu=>h.iO.lt b u;have:=D b lt q;omega
 refine I F' B col' e f ⟨h.rds.so M S.mod (λb d q=>by have:=D b d q;omega) (λb d q=>?_) (λb d=>⟨c1 b d,base b (.inl d)⟩) (λb d q=>same b d (by omega) (by omega)),N,λb d=>⟨c2 b d,base b (.inr d)⟩,h.hO.mod S.mod λb d=>E b (.inl d),h.iO.mod S.mod λb d=>E b (.inr d),λb d=>?_,λi y' hi=>?_⟩ S.mod.size
 ·rcases q with u|u
  ·exact(h.rds.cF b u).2.resolve_right (by omega)
  ·exact(h.cW b u).2.resolve_right (by omega)
 ·have a:=h.cH b d;have lt:b<A.size:=d.elim (λu=>h.hO.lt b u) λu=>h.iO.lt b u;rw[same b lt (by omega) (by omega)];exact a
 ·obtain⟨r,x,T,e2,U,G,V⟩:=h.row i y' hi;exact⟨r,x,T,e2,U.mod S.mod λad C q=>by
   obtain⟨a1,a2⟩:=h.HN e2 (G _ ⟨ad,C,rfl⟩).1;have:=D _ a2 q;omega,G,V⟩
set_option maxHeartbeats 1000000 in
theorem uq.next {K:(Sl×Bool×Int)->aa->Prop}{i:Nat}{x:nv}{u v:Nat}(h:uq H0 F0 col p dp F A s xs l kw w sw sl hsl hd isl isb hs)(g:xs[i]?=some x)(b:Bd s u v)(hu:u<1000000000000)(D:v<68719470000)
  (E:∀F' B col' x' row,uq H0 F0 col' p dp F' B (x.r.next s).1 (xs.set i x') l kw w sw sl hsl hd isl isb (hs.set i none)->x'.r=(x.r.next s).2.1->Ints .u64 B row (x.r.next s).2.2.1->(∀b,ah row b->x'.own b/\b≠x'.k)->A.size<=B.size->K (row,(x.r.next s).2.2.2.1,(x.r.next s).2.2.2.2) B):Ce.sp (aE x.k) A K:=by
 refine h.rds.next g b hu D λF' B col' x' row G I J L o t e=>?_;have c:∀b,F b\/b=x.k->col b=0\/col b=5+i:=λb q=>by
  rcases q with q|q
  ·exact .inl (h.rds.cF b q).1
  ·exact .inr (h.rds.cR i x g b (by subst q;exact .inl rfl)).1
 have z:=e.size;refine E F' B col' x' row ⟨G,h.wr.mod e λb a q=>?_,λb a=>?_,h.hO.mod e λb a q=>?_,h.iO.mod e λb a q=>?_,λb a=>?_,λj y f=>?_⟩ J L (λb a=>⟨(o b a).1,by rw[I];exact(o b a).2⟩) z
 ·have:=c b q;have:=(h.cW b a).1;omega
 ·rw[t b (h.MO b a)];exact h.cW b a
 ·have:=c b q;have:=(h.cH b (.inl a)).1;omega
 ·have:=c b q;have:=(h.cH b (.inr a)).1;omega
 ·have lt:b<A.size:=a.elim (λu=>h.hO.lt b u) λu=>h.iO.lt b u;rw[t b lt];exact h.cH b a
 ·by_cases d:j=i
  ·subst d;rw[O6] at f;simp at f
  ·rw[Pv (PR d)] at f;obtain⟨r,y',M,e2,N,C,O⟩:=h.row j y f;refine⟨r,y',M,by rw[Pv (PR d)];exact e2,N.mod e λad P q=>?_,C,O⟩;obtain⟨R,a2⟩:=h.HN e2 (C _ ⟨ad,P,rfl⟩).1;have:=c _ q;omega
theorem uq.kT {e f:Sl}{j:List Sl}{g:List Bool}{hs':List (Option (List Int))}(h:uq H0 F0 col p dp F A s xs l kw w sw sl hsl hd isl isb hs)(o:Mod (λb=>ah hsl b\/ah isl b) A B)(hO:az GM fG B e j)(iO:az K3 Lm B f g)(C:∀b,(ah e b\/ah f b)->(ah hsl b\/ah isl b)\/A.size<=b)
  (row:∀(i:Nat) (y:List Int),hs'[i]?=some (some y)->∃r x,j[i]?=some r/\xs[i]?=some x/\Ints .u64 A r y/\(∀b,ah r b->x.own b/\b≠x.k)/\y.length<=16):∃col',uq H0 F0 col' p dp F B s xs l kw w sw sl e j f g hs'/\∀b,b<A.size->col' b=col b:=by
 obtain⟨col',c1,c2⟩:=ij col A.size (λ_=>False) (λ_=>False) (λ_=>True) 1 1 1 (λ_ q=>q.elim) (λ_ q=>q.elim) λ_ q=>q.elim;have z:=h.rds.mod.size;have L:∀b,b<A.size->col b≠1->¬(ah hsl b\/ah isl b):=λb _ D q=>D (h.cH b q).1;refine⟨col',⟨h.rds.so (h.rds.pool.keep λb d hl=>o.same b hl λq=>?_) o (λb d q=>by rw[(h.cH b q).1];decide) (λb d q=>by have:=(h.cH b q).2;omega) (λb q=>by rw[c1 b (h.rds.pool.lt b q)];exact h.rds.cF b q) (λb d _=>c1 b d),h.wr.mod o λb d q=>?_,λb d=>?_,hO,iO,λb d=>?_,λi y hi=>?_⟩,c1⟩
 ·have a:=(h.rds.cF b d).1;have c:=(h.cH b q).1;omega
 ·have:=(h.cW b d).1;have:=(h.cH b q).1;omega
 ·rw[c1 b (h.MO b d)];exact h.cW b d
 ·rcases C b d with u|u
  ·have lt:b<A.size:=u.elim (λv=>h.hO.lt b v) λv=>h.iO.lt b v;rw[c1 b lt];exact h.cH b u
  ·exact⟨(c2 b u).2.2 trivial,by omega⟩
 ·obtain⟨r,x,E,e2,G,t,I⟩:=row i y hi;refine⟨r,x,E,e2,G.mod o λad J q=>?_,t,I⟩;obtain⟨M,a2⟩:=h.HN e2 (t _ ⟨ad,J,rfl⟩).1;have:=(h.cH _ q).1;omega
end
structure dH (hs:List (Option (List Int)))(i:Nat)(b:Option (Nat×List Int)):Prop where
 nn:b=none->∀j,j<i->∀y,hs[j]?≠some (some y)
 sm:∀k x,b=some (k,x)->k<i/\hs[k]?=some (some x)/\∀j,j<i->∀y,hs[j]?=some (some y)->aT x y<=0/\(j<k->aT x y<0)
theorem dH.zero (hs:List (Option (List Int))):dH hs 0 none:=⟨λ_ j a=>by omega,λk x h=>by cases h⟩
theorem dH.skip {hs:List (Option (List Int))}{i:Nat}{b:Option (Nat×List Int)}(h:dH hs i b)(hi:∀y,hs[i]?≠some (some y)):dH hs (i+1) b:=by
 refine⟨λe j c y=>?_,λk x e=>?_⟩
 ·rcases Pb j i with q|q
  ·exact h.nn e j q y
  ·have:j=i:=by omega
   subst this;exact hi y
 ·obtain⟨h1,d,f⟩:=h.sm k x e;refine⟨by omega,d,λj c y a=>?_⟩;rcases Pb j i with q|q
  ·exact f j q y a
  ·have:j=i:=by omega
   subst this;exact absurd a (hi y)
theorem dH.first {hs:List (Option (List Int))}{i:Nat}{y:List Int}(h:dH hs i none)(b:hs[i]?=some (some y)):dH hs (i+1) (some (i,y)):=by
 refine⟨λe=>(by cases e),λk x e=>?_⟩;cases e;refine⟨by omega,b,λj c z a=>?_⟩;rcases Pb j i with q|q
 ·exact absurd a (h.nn rfl j q z)
 ·have:j=i:=by omega
  subst this;rw[b] at a;cases a;exact⟨by rw[iw];decide,λu=>by omega⟩
theorem dH.less {hs:List (Option (List Int))}{i k:Nat}{x y:List Int}(h:dH hs i (some (k,x)))(b:hs[i]?=some (some y))(c:aT y x<0):dH hs (i+1) (some (i,y)):=by
 obtain⟨h1,g,d⟩:=h.sm k x rfl;refine⟨λe=>(by cases e),λo x' e=>?_⟩;cases e;refine⟨by omega,b,λj t z a=>?_⟩;rcases Pb j i with q|q
 ·have f:=(d j q z a).1;have:aT y z<0:=by
   rcases Int.lt_or_eq_of_le f with u|u
   ·exact eY c u
   ·rw[<-ca.1 u];exact c
  exact⟨by omega,λ_=>this⟩
 ·have:j=i:=by omega
  subst this;rw[b] at a;cases a;exact⟨by rw[iw];decide,λu=>by omega⟩
theorem dH.stay {hs:List (Option (List Int))}{i k:Nat}{x y:List Int}(h:dH hs i (some (k,x)))(b:hs[i]?=some (some y))(f:¬aT y x<0):dH hs (i+1) (some (k,x)):=by
 obtain⟨h1,c,d⟩:=h.sm k x rfl;refine⟨λe=>(by cases e),λg x' e=>?_⟩;cases e;refine⟨by omega,c,λj o z a=>?_⟩;rcases Pb j i with q|q
 ·exact d j q z a
 ·have:j=i:=by omega
  subst this;rw[b] at a;cases a;have:=bY y x;exact⟨by omega,λu=>by omega⟩
theorem dH.jW {hs:List (Option (List Int))}{b:Option (Nat×List Int)}(h:dH hs hs.length b):dL hs=b:=by
 cases e:dL hs with
 |none=>
   cases b with
   |none=>rfl
   |some q=>
     obtain⟨k,x⟩:=q;exact absurd (h.sm k x rfl).2.1 (j9 e k x)
 |some q=>
   obtain⟨k,x⟩:=q;obtain⟨d,e2⟩:=gv e;have hk:=(Om.1 d).1;cases b with
   |none=>exact absurd d (h.nn rfl k hk x)
   |some q=>
     obtain⟨f,x'⟩:=q;obtain⟨h1,g,i⟩:=h.sm f x' rfl;have a:=e2 f x' g;have c:=i k hk x d;have sw:=bY x x';rcases Nat.lt_trichotomy k f with q|q|q
     ·have:=c.2 q;omega
     ·subst q;rw[d] at g;cases g;rfl
     ·have:=a.2 q;omega
section
variable {H0 H A B:aa}{F0 F F':Nat->Prop}{col col':Nat->Nat}{p dp:Nat}{s s':Pl}{xs:List nv}{l:Sl}{kw:Nat}{w:RW}{sw sl hsl isl:Sl}{hd:List Sl}{isb:List Bool}{hs:List (Option (List Int))}{names:Sl}{ns:List ByteArray}{to:ByteArray}{W:Int}
set_option maxHeartbeats 1000000 in
theorem De {x y:Nat}{h:(Option Addr×Int)->aa->Prop}{o:(Sl×Int)->aa->Prop}(hp:ao F H p dp s)(hn:names.n=ns.length)(R:∀A,Mod F H A->bQ jX A names.a ns)(I:∀n∈ns,n.size<=9223372036854775807)(b:Bd s x y)(hl:ns.length<=1000000)(d:x<900000000000)(hy:y<60000000000)
  (J:(aW W ns s).2.2≠0->∀F' A a,ao F' A p dp (aW W ns s).1->Step F F' H A->h (a,(aW W ns s).2.2) A)
  (S:(aW W ns s).2.2=0->∀F' A col xs l i,pK H F col p dp F' A (aW W ns s).1 xs l->xs.map (·.r)=(aW W ns s).2.1->xs.length=ns.length->o (l,i) A):
  ax (Sl×Int) ((Sl.mk none 0 0),(0:Int)) H λnext z H1=>br (decide (z.2<(names.n:Int))) (ae names.a λa=>(0<=z.2/\z.2<(names.n:Int))/\Go.Proofs.YtmkbhnholcaghaaGreatDoor.ld aH H1 (a.add (z.2.toNat*1)) λ(x:ByteArray)=>He.sp (aE p) x W H1 λ(r:(Option Addr×Int)) Z=>br (r.2!=(0:Int)) (h r Z) (aJ Z #[(.pointer r.1)] Mk λT H3=>bf ak Oj (Oq #[Ls,Ls] Ls #[z.1.v,(.slice (some T) 1 1)]) H3 λ(l:Sl) H4=>next (l,Ol.wrap (z.2+(1:Int))) H4)) (o z H1):=by
 refine ar ns.length (λi z A=>z.2=(i:Int)/\∃F' s' col xs,pK H F col p dp F' A s' xs z.1/\xs.length=i/\Bd s' (x+i) (y+i)/\
  aW W ns s=((aW W (ns.drop i) s').1,xs.map (·.r)++(aW W (ns.drop i) s').2.1,(aW W (ns.drop i) s').2.2)) ?_ ?_
 ·refine⟨rfl,F,s,λ_=>0,[],⟨hp,λi x d=>by simp at d,λx d=>(by cases d),az.nil _ _ _,λb e=>⟨rfl,.inl e⟩,λi x d=>by simp at d,λb e=>absurd e (aS b),.refl _ _⟩,rfl,b,?_⟩;simp
 rintro i ⟨l,j⟩ A next hi ⟨O,F',s',col,xs,g,L,M,he⟩ t
 simp only at O;subst O;simp only;refine ag (λU=>?_) (λU=>?_)
 ·have f:i<ns.length:=by
   have:(i:Int)<(names.n:Int):=by simpa using U
   omega
  rw[Pf f] at he;have V:ns[i]?=some ns[i]:=On f;refine bQ.one (E:=jX) (c:=aH) (R A g.mod) hn rfl V rfl ?_;have q1:=M.lo;have q2:=M.hi;have q3:=M.aB;have X:=M.open (n:=ns[i]) (W:=W) (by omega);have bl:=M.look (n:=ns[i]) (by omega) 0;have q4:=bl.aB;simp only[aW] at he;refine xS g.pool (I _ (Pa f)) (by omega) (by omega) q1 (by omega) (λP B p1 N D=>?_) (λP B k r p1 N D r1 k1 k2=>?_)
  ·have G:=o0.1 D;rw[D] at he;simp only[QG] at he;refine aP (by simpa using G) ?_;rw[he] at J;exact J G P B none p1 (g.step.trans N)
  ·have G:(rnOpen s' ns[i] W).2.2=0:=o0.2 (by rw[D];simp);rw[D] at he;simp only at he;rw[G];refine aC rfl ?_;obtain⟨ok,rb,_⟩:=mN D;have z1:=N.mod.size;obtain⟨col',c1,c2⟩:=ij col A.size P (λb=>b=k) (λb=>B.size<=b) 0 (5+i) 4 (λb q r=>k2 (r▸q)) (λb q r=>by have:=p1.lt b q;omega) (λb q r=>by have:=r1.lt b (.inl q);omega);have h1:=g.so (col':=col') p1 N.mod (λb e q=>by rw[(g.cF b q).1];decide) (λb e q=>(g.cF b q).2.resolve_right (by omega)) (λb q=>by
    rcases N.own b q with u|u
    ·rw[c1 b (g.pool.lt b u)];exact g.cF b u
    ·exact⟨(c2 b u).1 q,.inr (by have:=g.mod.size;omega)⟩) λb e _=>c1 b e
   refine az.push (E:=dN) (x:=k) Mp h1.list rfl (by simp;omega) (by simp;omega) λl' C o3 g3 _=>?_;rw[aD i (by omega)];have off:∀b,ah l b->col' b=4:=λb e=>(h1.cL b e).1;have kr:A9 C k p r bc []:=r1.mod g3.1 λb e q=>by
    have hk:b=k:=by
     rcases e with u|u|⟨z,u,_⟩
     ·exact u
     ·exact absurd u (aS b)
     ·cases u
    have a:=h1.list.lt b q;have b4:=off b q;subst hk;have:=(c2 b k1).2.1 rfl;omega
   have hz:=h1.mod.size;refine t f (l',((i+1:Nat):Int)) C ⟨rfl,P,(rnOpen s' ns[i] W).1,col',xs++[⟨k,r,bc,[]⟩],⟨?_,λj x d=>?_,λx d=>?_,?_,λb e=>h1.cF b e,λj x d b e=>?_,λb e=>?_,?_⟩,?_,?_,?_⟩
   ·exact h1.pool.keep λb e f=>g3.1.same b f λq=>by have:=(h1.cF b e).1;have:=off b q;omega
   ·rw[Q1] at d;split at d
    ·exact(h1.rds j x d).mod g3.1 λb e q=>by have:=(h1.cR j x d b e).1;have:=off b q;omega
    ·rename_i q;have:j - xs.length=0:=by have:=(Om.1 d).1;simp at this;omega
     rw[this] at d;simp at d;subst d;exact kr
   ·rcases Ox.1 d with q|q
    ·exact h1.oks x q
    ·rw[OH] at q;subst q;exact⟨ok,by show r.b.name.size<=_;rw[rb];exact I _ (Pa f)⟩
   ·rw[O8];exact o3
   ·rw[Q1] at d;split at d
    ·exact h1.cR j x d b e
    ·rename_i q;have O:j - xs.length=0:=by have:=(Om.1 d).1;simp at this;omega
     rw[O] at d;simp at d;subst d;have hk:b=k:=by
      rcases e with u|u|⟨z,u,_⟩
      ·exact u
      ·exact absurd u (aS b)
      ·cases u
     subst hk;have:=(c2 b k1).2.1 rfl;refine⟨by omega,by have:=g.mod.size;omega⟩
   ·rcases g3.2 b e with q|q
    ·exact h1.cL b q
    ·exact⟨(c2 b (by omega)).2.2 q,by omega⟩
   ·exact h1.mod.trans' g3.1 λb e q=>by have:=(h1.cL b q).2;omega
   ·simp;exact L
   ·exact X.mono (by omega) (by omega)
   ·rw[he,O8];simp
 ·have Y:i=ns.length:=by
   have:¬(i:Int)<(names.n:Int):=by simpa using U
   omega
  subst Y;rw[RK] at he;simp only[aW,QG] at he;have G:(aW W ns s).2.2=0:=by rw[he]
  exact S G F' A col xs l _ (by rw[he];exact g) (by rw[he]) L
set_option maxHeartbeats 2000000 in
theorem CP {u v:Nat}{I:(Sl×Bool×Int)->aa->Prop}{J:(Sl×Sl×Int)->aa->Prop}(h:uq H0 F0 col p dp F A s xs l kw w sw sl (Sl.mk none 0 0) [] (Sl.mk none 0 0) [] [])(b:Bd s u v)(hu:u<900000000000)(hv:v<60000000000)(hl:xs.length<=1000000)
  (a1:(ba (xs.map (·.r)) s).2.2.2≠0->∀F' B r k,ao F' B p dp (ba (xs.map (·.r)) s).1->Step F0 F' H0 B->I (r,k,(ba (xs.map (·.r)) s).2.2.2) B)
  (a6:(ba (xs.map (·.r)) s).2.2.2=0->∀F' B col' a hsl hd isl isb hs i,uq H0 F0 col' p dp F' B (ba (xs.map (·.r)) s).1 a l kw w sw sl hsl hd isl isb hs->a.map (·.r)=(ba (xs.map (·.r)) s).2.1->hs=(ba (xs.map (·.r)) s).2.2.1->isb=hs.map Un->hs.length=xs.length->hd.length=xs.length->a.length=xs.length->Bd (ba (xs.map (·.r)) s).1 (u+xs.length) (v+xs.length)->J (hsl,isl,i) B):
  ax (Sl×Sl×Int) ((Sl.mk none 0 0),(Sl.mk none 0 0),(0:Int)) A λg d H6=>br (decide (d.2.2<(l.n:Int))) (ae l.a λa7=>(0<=d.2.2/\d.2.2<(l.n:Int))/\Go.Proofs.YtmkbhnholcaghaaGreatDoor.ld aw H6 (a7.add (d.2.2.toNat*1)) λ(a8:Option Addr)=>Ce.sp a8 H6 λ(o:(Sl×Bool×Int)) H7=>br (o.2.2!=(0:Int)) (I o H7) (aJ H7 #[o.1.v] fG λbb H8=>bf ak Oj (Oq #[fF,fF] fF #[d.1.v,(.slice (some bb) 1 1)]) H8 λ(kT:Sl) H9=>aJ H9 #[(.bool o.2.1)] Lm λbl bn=>bf ak Oj (Oq #[Lf,Lf] Lf #[d.2.1.v,(.slice (some bl) 1 1)]) bn λ(is:Sl) bs=>g (kT,is,Ol.wrap (d.2.2+(1:Int))) bs)) (J d H6):=by
 have bx:l.n=xs.length:=by rw[az.n h.rds.list (by decide)];simp
 refine ar xs.length (λi z B=>z.2.2=(i:Int)/\i<=xs.length/\∃F' col' s' a hd isb hs,uq H0 F0 col' p dp F' B s' a l kw w sw sl z.1 hd z.2.1 isb hs/\Bd s' (u+i) (v+i)/\isb=hs.map Un/\hs.length=i/\hd.length=i/\a.length=xs.length/\a.drop i=xs.drop i/\
  ba (xs.map (·.r)) s=((ba ((xs.drop i).map (·.r)) s').1,(a.take i).map (·.r)++(ba ((xs.drop i).map (·.r)) s').2.1,hs++(ba ((xs.drop i).map (·.r)) s').2.2.1,(ba ((xs.drop i).map (·.r)) s').2.2.2))
  ⟨rfl,OL _,F,col,s,xs,[],[],[],h,b,rfl,rfl,rfl,rfl,rfl,by simp⟩ ?_
 rintro i ⟨hsl,isl,zi⟩ B next hi ⟨P,b2,F',col',s',a,hd,isb,hs,R,bd,t,S,T,U,V,he⟩ M
 simp only at P R ⊢;subst P;refine ag (λhc=>?_) λhc=>?_
 ·have N:i<xs.length:=by have:(i:Int)<(l.n:Int):=of_decide_eq_true hc;omega
  have L:i<a.length:=by omega
  have hx:a[i]?=some a[i]:=On L;have bA:xs[i]=a[i]:=by
   have h1:=congrArg (λq=>q[0]?) V;simp only[PU,RO] at h1;rw[hx,On N] at h1;exact(OS h1).symm
  rw[Pf N,OJ,bA] at he;simp only[ba] at he;refine bQ.one (E:=dN) (c:=aw) (y:=aE a[i].k) R.rds.list.rd (by rw[bx];simp;omega) rfl (i:=i) (x:=a[i].k) (by rw[Oy,hx];rfl) rfl ?_;have bB:=bd.next (r:=a[i].r) (by omega);refine R.next hx bd (by omega) (by omega) λF2 C b0 x' row e q2 q3 q4 q5=>?_;by_cases X:(a[i].r.next s').2.2.2.2=0
  ·rw[if_neg (by rw[X];simp)] at he;refine aC (by rw[X];rfl) ?_;rw[List.set_eq_of_length_le (l:=hs) (by omega)] at e;obtain⟨ok,_⟩:=R.rds.oks _ (Pa L);have G:=RR.gh ok s';refine az.push (E:=GM) (x:=row) ME e.hO rfl (by omega) (by omega) λY D oD Z _=>?_;have zD:=Z.1.size;have af:az K3 Lm D isl isb:=e.iO.mod Z.1 λb hb u=>e.iO.apart e.hO (by decide) b hb u;refine az.push (E:=K3) (x:=(a[i].r.next s').2.2.2.1) MI af rfl (by rw[t];simp;omega) (by rw[t];simp;omega) λb1 E oE gE _=>?_;have zE:=gE.1.size;have bC:az GM fG E Y (hd++[row]):=oD.mod gE.1 λb hb u=>by
    rcases Z.2 b hb with v|v
    ·exact e.iO.apart e.hO (by decide) b u v
    ·have:=af.lt b u;have b3:=e.iO.lt b u;omega
   have bD:Mod (λb=>ah hsl b\/ah isl b) C E:=(Z.1.mono λb _ u=>.inl u).trans' gE.1 λb _ u=>.inr u;obtain⟨an,q6,c3⟩:=e.kT (hs':=hs++[dQ (a[i].r.next s').2.2.1 (a[i].r.next s').2.2.2.1]) bD bC oE (λb hb=>by
    rcases hb with u|u
    ·exact(Z.2 b u).imp .inl id
    ·exact(gE.2 b u).imp .inr λv=>by omega) λj y f=>by
    rcases Pb j hs.length with v|v
    ·rw[OP v] at f;obtain⟨r,x,O,e2,e3,e4,e5⟩:=e.row j y f;exact⟨r,x,by rw[OP (by omega)];exact O,e2,e3,e4,e5⟩
    ·rw[Pr v] at f;have j0:j - hs.length=0:=by have:=(Om.1 f).1;simp at this;omega
     have bM:j=i:=by omega
     rw[j0] at f;simp only[List.getElem?_cons_zero,Pj] at f;unfold dQ at f;split at f
     ·rename_i bN;cases f;exact⟨row,x',by rw[Pr (by omega),show j - hd.length=0 by omega];rfl,by rw[bM,Pz (by omega)],q3,q4,(G.2.2.2.1 bN).2.2.2⟩
     ·cases f
   refine M N _ _ ⟨aD i (by omega),by omega,F2,an,_,a.set i x',hd++[row],isb++[(a[i].r.next s').2.2.2.1],hs++[dQ (a[i].r.next s').2.2.1 (a[i].r.next s').2.2.2.1],q6,bB.mono (by omega) (by omega),?_,by simp[S],by simp[T],by simp[U],?_,?_⟩
   ·rw[t,O8];congr 1;unfold dQ;cases (a[i].r.next s').2.2.2.1<;>rfl
   ·rw[List.drop_set_of_lt (by omega)];have:=congrArg (List.drop 1) V;rw[Ri,Ri] at this;exact this
   ·rw[he,List.take_succ_eq_append_getElem (by simp;omega),O8];simp only[List.getElem_set_self,OJ,Q6,Pm,List.singleton_append,List.cons_append,List.nil_append];rw[List.take_set_of_le (Ot i),q2]
  ·rw[if_pos X] at he;refine aP (by simpa using X) ?_;have O:(ba (xs.map (·.r)) s).2.2.2=(a[i].r.next s').2.2.2.2:=by rw[he]
   have e2:(ba (xs.map (·.r)) s).1=(a[i].r.next s').1:=by rw[he]
   rw[<-O];refine a1 (by rw[O];exact X) F2 C row _ (by rw[e2];exact e.rds.pool) e.rds.step
 ·have bO:i=xs.length:=by have:¬(i:Int)<(l.n:Int):=of_decide_eq_false hc;omega
  subst bO;rw[RK] at he;simp only[Q6,ba,QG] at he;have O:(ba (xs.map (·.r)) s).1=s':=by rw[he]
  have e2:(ba (xs.map (·.r)) s).2.1=(a.take xs.length).map (·.r):=by rw[he]
  have e3:(ba (xs.map (·.r)) s).2.2.1=hs:=by rw[he]
  have e4:(ba (xs.map (·.r)) s).2.2.2=0:=by rw[he]
  refine a6 e4 F' B col' a hsl hd isl isb hs _ (by rw[O];exact R) (by rw[e2,List.take_of_length_le (by omega)]) e3.symm t S T U (by rw[O];exact bd)
theorem EJ {u:(Int×Int)->aa->Prop}(h:uq H0 F0 col p dp F A s xs l kw w sw sl hsl hd isl isb hs)(I:isb=hs.map Un)(hl:hs.length=xs.length)(an:hd.length=xs.length)(a1:xs.length<=1000000)
  (hK:∀z,(dL hs=none->z.1<0)->(∀k x,dL hs=some (k,x)->z.1=(k:Int)/\k<xs.length)->u z A):
  ax (Int×Int) ((-1:Int),(0:Int)) A λd a g=>br (decide (a.2<(l.n:Int))) (ae isl.a λM=>(0<=a.2/\a.2<(isl.n:Int))/\Go.Proofs.YtmkbhnholcaghaaGreatDoor.ld ay g (M.add (a.2.toNat*1)) λ(N:Bool)=>br (N==true) (br (decide (a.1<(0:Int))) (d (a.2,Ol.wrap (a.2+(1:Int))) g) (ae hsl.a λO=>(0<=a.2/\a.2<(hsl.n:Int))/\Go.Proofs.YtmkbhnholcaghaaGreatDoor.ld ak g (O.add (a.2.toNat*1)) λ(P:Sl)=>ae hsl.a λR=>(0<=a.1/\a.1<(hsl.n:Int))/\Go.Proofs.YtmkbhnholcaghaaGreatDoor.ld ak g (R.add (a.1.toNat*1)) λ(S:Sl)=>Az.sp P S g λ(T:Int) J=>br (decide (T<(0:Int))) (d (a.2,Ol.wrap (a.2+(1:Int))) J) (d (a.1,Ol.wrap (a.2+(1:Int))) J))) (d (a.1,Ol.wrap (a.2+(1:Int))) g)) (u a g):=by
 have a6:l.n=xs.length:=by rw[az.n h.rds.list (by decide)];simp
 have a7:isl.n=isb.length:=az.n h.iO (by decide);have a8:hsl.n=hd.length:=az.n h.hO (by decide);have af:isb.length=xs.length:=by rw[I,O7,hl]
 refine ar xs.length (λi z B=>A=B/\z.2=(i:Int)/\i<=xs.length/\∃b,dH hs i b/\(b=none->z.1<0)/\∀k x,b=some (k,x)->z.1=(k:Int)) ⟨rfl,rfl,OL _,none,dH.zero hs,λ_=>by decide,λk x e=>by cases e⟩ ?_;rintro i ⟨zb,zi⟩ B next hi ⟨rfl,L,bb,b,v,j,o⟩ f
 simp only at L j o ⊢;subst L;refine ag (λU=>?_) λU=>?_
 ·have t:i<xs.length:=by have:(i:Int)<(l.n:Int):=of_decide_eq_true U;omega
  have C:i<hs.length:=by omega
  have G:=aD i (by omega);have V:isb[i]?=some (hs[i]).isSome:=by rw[I,Oy,On C];rfl
  refine bQ.one (E:=K3) (c:=ay) (y:=(hs[i]).isSome) h.iO.rd (by omega) rfl (i:=i) (x:=(hs[i]).isSome) V rfl ?_;cases hh:hs[i] with
  |none=>
    refine aC rfl ?_;rw[G];exact f t _ _ ⟨rfl,rfl,by omega,b,v.skip (λy D=>(by rw[On C,hh] at D;cases D)),j,o⟩
  |some y=>
    have D:hs[i]?=some (some y):=by rw[On C,hh]
    refine aP rfl ?_;obtain⟨r,x,r1,r2,r3,r4,r5⟩:=h.row i y D;cases hb:b with
    |none=>
      subst hb;refine aP (decide_eq_true (j rfl)) ?_;rw[G];exact f t _ _ ⟨rfl,rfl,by omega,some (i,y),v.first D,λe=>(by cases e),λk x e=>by cases e;rfl⟩
    |some q=>
      obtain⟨k,x0⟩:=q;subst hb;have X:=o k x0 rfl;obtain⟨k1,k2,_⟩:=v.sm k x0 rfl;subst X;refine aC (decide_eq_false (by omega)) ?_;obtain⟨rk,xk,s1,s2,s3,s4,s5⟩:=h.row k x0 k2;refine bQ.one (E:=GM) (c:=ak) (y:=r) h.hO.rd (by omega) rfl (i:=i) (x:=r) r1 rfl ?_;refine bQ.one (E:=GM) (c:=ak) (y:=rk) h.hO.rd (by omega) rfl (i:=k) (x:=rk) s1 rfl ?_;refine jP r3 s3 (by omega) ?_;rw[G];refine ag (λY=>?_) λY=>?_
      ·exact f t _ _ ⟨rfl,rfl,by omega,some (i,y),v.less D (of_decide_eq_true Y),λe=>(by cases e),λk x e=>by cases e;rfl⟩
      ·exact f t _ _ ⟨rfl,rfl,by omega,some (k,x0),v.stay D (of_decide_eq_false Y),λe=>(by cases e),λk x e=>by cases e;rfl⟩
 ·have Z:i=xs.length:=by have:¬(i:Int)<(l.n:Int):=of_decide_eq_false U;omega
  subst Z;rw[<-hl] at v;have e:=v.jW;refine hK _ (λe0=>j (e.symm.trans e0)) λk x e0=>?_;have G:=e.symm.trans e0;have:=(v.sm k x G).1;exact⟨o k x G,by omega⟩
end
theorem az.st1 {α:Type}{E:eK α}{e:TypeId}{H:aa}{s:Sl}{l:List α}{K:aa->Prop}(h:az E e H s l)(hs:E.size=1){i:Nat}{x y:α}{v:Value}(hi:l[i]?=some x)(c:jq v=true)(d:E.enc y=[v])
  (f:∀H',az E e H' s (l.set i y)->Mod (ah s) H H'->H'.size=H.size->K H'):ae s.a λa=>(0<=(i:Int)/\(i:Int)<(s.n:Int))/\Go.Proofs.YtmkbhnholcaghaaGreatDoor.st H (a.add ((i:Int).toNat*1)) v K:=by
 have hl:=(Om.1 hi).1;have g:=az.n h (by omega);obtain⟨ad,b⟩:=h.rd.addr (by omega) (by omega);refine aV ad b ⟨⟨by omega,by omega⟩,?_⟩;obtain⟨u,hu⟩:=List.length_eq_one_iff.1 ((E.len x).trans hs);have:=az.st h b (j:=0) (n:=(i:Int).toNat*1) hi (by omega) c (by rw[d,hu];rfl) (by rw[hs,Ov]) f;rw[add_add] at this;exact this
structure tQ (H0:aa)(F0:Nat->Prop)(p dp:Nat)(A:aa)(l hsl isl:Sl)(kw:Nat)(to:ByteArray)(f0 u v:Nat)(res:Pl×Nat×Int)(f:Nat):Prop where
 ex:∃col F s xs w sw sl hd isb hs,uq H0 F0 col p dp F A s xs l kw w sw sl hsl hd isl isb hs/\isb=hs.map Un/\hs.length=xs.length/\hd.length=xs.length/\xs.length<=1000000/\bJ (xs.map (·.r))+fU hs<f/\res=gi f s (xs.map (·.r)) hs w/\me w to (f0 - f)/\Bd s (u+2*(f0 - f)) (v+3*(f0 - f))/\f<=f0
section
variable {H A:aa}{F:Nat->Prop}{p dp:Nat}{s:Pl}{names l hsl isl:Sl}{ns:List ByteArray}{to:ByteArray}{W:Int}{kw f0 f u v:Nat}{res:Pl×Nat×Int}
set_option maxHeartbeats 4000000 in
theorem CE {K:(Int×Int)->aa->Prop}(a8:to.size<=9223372036854775807)(eC:f0<=20000000000)(hu:u+2*f0<990000000000)(hv:v+3*f0<68000000000)
  (h:tQ H F p dp A l hsl isl kw to f0 u v res f)
  (hK:∀F' B,ao F' B p dp res.1->Step F F' H B->K ((res.2.1:Int),res.2.2) B):
  ax Unit () A λV _ b9=>ax (Int×Int) ((-1:Int),(0:Int)) b9 λI g t=>br (decide (g.2<(l.n:Int))) (ae isl.a λcb=>(0<=g.2/\g.2<(isl.n:Int))/\Go.Proofs.YtmkbhnholcaghaaGreatDoor.ld ay t (cb.add (g.2.toNat*1)) λ(ck:Bool)=>br (ck==true) (br (decide (g.1<(0:Int))) (I (g.2,Ol.wrap (g.2+(1:Int))) t) (ae hsl.a λcm=>(0<=g.2/\g.2<(hsl.n:Int))/\Go.Proofs.YtmkbhnholcaghaaGreatDoor.ld ak t (cm.add (g.2.toNat*1)) λ(cx:Sl)=>ae hsl.a λcy=>(0<=g.1/\g.1<(hsl.n:Int))/\Go.Proofs.YtmkbhnholcaghaaGreatDoor.ld ak t (cy.add (g.1.toNat*1)) λ(cz:Sl)=>Az.sp cx cz t λ(cB:Int) bb=>br (decide (cB<(0:Int))) (I (g.2,Ol.wrap (g.2+(1:Int))) bb) (I (g.1,Ol.wrap (g.2+(1:Int))) bb))) (I (g.1,Ol.wrap (g.2+(1:Int))) t)) (br (decide (g.1<(0:Int))) (Hc.sp (aE kw) t λ(bl:(Int×Int)) c0=>K (bl.1,bl.2) c0) (cut Unit (λJ=>ae (aE kw) λc5=>Go.Proofs.YtmkbhnholcaghaaGreatDoor.ld (ab .i64) t (c5.add 8) λ(dc:Int)=>br (dc==(0:Int)) (ae hsl.a λdk=>(0<=g.1/\g.1<(hsl.n:Int))/\Go.Proofs.YtmkbhnholcaghaaGreatDoor.ld ak t (dk.add (g.1.toNat*1)) λ(dn:Sl)=>Bb.sp (aE kw) dn t λ(e:Int) bn=>br (e !=(0:Int)) (K ((0:Int),e) bn) (J () bn)) (ae hsl.a λdA=>(0<=g.1/\g.1<(hsl.n:Int))/\Go.Proofs.YtmkbhnholcaghaaGreatDoor.ld ak t (dA.add (g.1.toNat*1)) λ(dB:Sl)=>ae (aE kw) λdD=>Go.Proofs.YtmkbhnholcaghaaGreatDoor.ld ak t (dD.add 7) λ(dT:Sl)=>Az.sp dB dT t λ(eb:Int) a1=>br (eb !=(0:Int)) (ae hsl.a λec=>(0<=g.1/\g.1<(hsl.n:Int))/\Go.Proofs.YtmkbhnholcaghaaGreatDoor.ld ak a1 (ec.add (g.1.toNat*1)) λ(ed:Sl)=>Bb.sp (aE kw) ed a1 λ(bs:Int) bx=>br (bs !=(0:Int)) (K ((0:Int),bs) bx) (J () bx)) (J () a1))) λ(_:Unit) bA=>ae l.a λbB=>(0<=g.1/\g.1<(l.n:Int))/\Go.Proofs.YtmkbhnholcaghaaGreatDoor.ld aw bA (bB.add (g.1.toNat*1)) λ(bC:Option Addr)=>Ce.sp bC bA λ(X:(Sl×Bool×Int)) bD=>br (X.2.2!=(0:Int)) (K ((0:Int),X.2.2) bD) (ae hsl.a λbM=>(0<=g.1/\g.1<(hsl.n:Int))/\Go.Proofs.YtmkbhnholcaghaaGreatDoor.st bD (bM.add (g.1.toNat*1)) X.1.v λee=>ae isl.a λbN=>(0<=g.1/\g.1<(isl.n:Int))/\Go.Proofs.YtmkbhnholcaghaaGreatDoor.st ee (bN.add (g.1.toNat*1)) (.bool X.2.1) λeg=>V () eg))):=by
 refine⟨Nat,λf _ A=>tQ H F p dp A l hsl isl kw to f0 u v res f,λf=>f,⟨f,h⟩,?_⟩;rintro f _ A ⟨col,F',s',xs,w,sw,sl,hd,isb,hs,G,a6,hlen,bO,b2,hf,an,hw,bd,eD⟩;cases f with
 |zero=>exact absurd hf (Nat.not_lt_zero _)
 |succ f=>
 refine EJ G a6 hlen bO b2 λz b0 b1=>?_;obtain⟨zb,zi⟩:=z;simp only at b0 b1 ⊢;have ei:hsl.n=hd.length:=az.n G.hO (by decide);have eE:isl.n=isb.length:=az.n G.iO (by decide);have ej:l.n=xs.length:=by rw[az.n G.rds.list (by decide)];simp
 cases O:dL hs with
 |none=>
   refine aP (decide_eq_true (b0 O)) ?_;have er:res=((w.close s').1,(w.close s').2.2.1,(w.close s').2.2.2):=by
    rw[an];unfold gi;rw[O]
   rw[er] at hK;have T:=bd.lo;have q2:=bd.hi;have q3:=bd.aB;have o:=bd.out (w:=w) (by omega);have o1:=o.hi;have o2:=o.aB;refine vl G.wr G.rds.pool (λb O q=>by have:=(G.rds.cF b O).1;have:=(G.cW b q).1;omega) (by have:=hw.rows;omega) hw.width.1 (by rw[hw.name];exact a8) (by omega) (by omega) T bd.fit (by omega) (by omega) (λz d=>by have:=(Bd.leave ((o.bt (n:=w.b.name) (by omega) 0).set z 2 d) z).aB;omega) o.fit (λz d=>(Bd.leave ((o.bt (n:=w.b.name) (by omega) 0).set z 2 d) z).fit) λM eI C p2 w2 d2 S2=>?_;refine hK M C p2 ⟨G.rds.mod.trans' S2.mod λb O q=>?_,λb O=>?_⟩
   ·rcases q with r|r
    ·exact(G.rds.cF b r).2.resolve_right (by omega)
    ·exact(G.cW b r).2.resolve_right (by omega)
   ·rcases S2.own b (.inl O) with (r|r)|r
    ·exact(G.rds.cF b r).2
    ·exact(G.cW b r).2
    ·have:=G.rds.mod.size;exact .inr (by omega)
 |some q=>
   obtain⟨k,x⟩:=q;obtain⟨hz,hk⟩:=b1 k x O;subst hz;refine aC (decide_eq_false (by omega)) ?_;have b3:=(gv O).1;obtain⟨r,y,e1,e2,e3,e4,e5⟩:=G.row k x b3;have er:res=if (aQ s' w x).2.2≠0 then ((aQ s' w x).1,0,(aQ s' w x).2.2)
    else if (y.r.next (aQ s' w x).1).2.2.2.2≠0 then ((y.r.next (aQ s' w x).1).1,0,(y.r.next (aQ s' w x).1).2.2.2.2)
    else gi f (y.r.next (aQ s' w x).1).1 ((xs.map (·.r)).set k (y.r.next (aQ s' w x).1).2.1) (hs.set k (dQ (y.r.next (aQ s' w x).1).2.2.1 (y.r.next (aQ s' w x).1).2.2.2.1)) (aQ s' w x).2.1:=by
    have ek:(xs.map (·.r)).getD k default=y.r:=by rw[PB,Oy,e2];rfl
    rw[an];show (match dL hs with|none=>_|some (i,x)=>_)=_;rw[O];simp only;rw[ek]
   have a7:∀{C:aa} {K':Sl->Prop},az GM fG C hsl hd->K' r->ae hsl.a λa=>(0<=(k:Int)/\(k:Int)<(hsl.n:Int))/\Go.Proofs.YtmkbhnholcaghaaGreatDoor.ld ak C (a.add ((k:Int).toNat*1)) K':=λ{C K'} hC en=>bQ.one (E:=GM) (c:=ak) (y:=r) hC.rd ei rfl (i:=k) (x:=r) e1 rfl en;refine⟨λ_ B=>(aQ s' w x).2.2=0/\∃L M P R,uq H F L p dp M B (aQ s' w x).1 xs l kw (aQ s' w x).2.1 P R hsl hd isl isb hs/\me (aQ s' w x).2.1 to (f0 - f)/\Bd (aQ s' w x).1 (u+2*(f0 - (f+1))+1) (v+3*(f0 - (f+1))+2),?_,?_⟩
   ·have added:∀(Kb:Int->aa->Prop),(aQ s' w x)=w.add s' x->(∀B,(w.add s' x).2.2≠0->(∃M,ao M B p dp (w.add s' x).1/\Step F M H B)->Kb (w.add s' x).2.2 B)->
      (∀B,((aQ s' w x).2.2=0/\∃L M P R,uq H F L p dp M B (aQ s' w x).1 xs l kw (aQ s' w x).2.1 P R hsl hd isl isb hs/\me (aQ s' w x).2.1 to (f0 - f)/\Bd (aQ s' w x).1 (u+2*(f0 - (f+1))+1) (v+3*(f0 - (f+1))+2))->(w.add s' x).2.2=0->Kb (w.add s' x).2.2 B)->Bb.sp (aE kw) r A Kb:=by
     intro Kb U k1 k2;refine G.add hw (by omega) a8 bd (by omega) (by omega) e5 e3 (λad ha q=>by have:=(G.HN e2 (e4 _ ⟨ad,ha,rfl⟩).1).1;have:=(G.cW _ q).1;omega) λM B L P R hB zB=>?_;by_cases N:(w.add s' x).2.2=0
     ·have ra:=hw.add s' x;refine k2 B ?_ N;rw[U];exact⟨N,L,M,P,R,hB,ra.1.mono (by omega),bd.add (by omega) _⟩
     ·exact k1 B N ⟨M,hB.rds.pool,hB.rds.step⟩
    have bad:∀B,(aQ s' w x)=w.add s' x->(w.add s' x).2.2≠0->(∃M,ao M B p dp (w.add s' x).1/\Step F M H B)->K ((0:Int),(w.add s' x).2.2) B:=λB U N ⟨M,p2,S2⟩=>by
     have b4:=er;rw[U,if_pos N] at b4;rw[b4] at hK;exact hK M B p2 S2
    refine aV ⟨kw,0,none⟩ rfl ?_;refine aj.ld (c:=ab .i64) (i:=8) (x:=(w.rows:Int)) G.wr.row (bG.tail (j:=3) rfl) ?_;by_cases Y:w.rows=0
    ·have U:aQ s' w x=w.add s' x:=by unfold aQ;rw[if_pos (.inl Y)]
     refine aP (by rw[Y];rfl) ?_;refine a7 G.hO ?_;exact added _ U (λB N q=>aP (by simpa using N) (bad B U N q)) λB hJ N=>aC (by rw[N];rfl) hJ
    ·refine aC (by simpa using Y) ?_;refine a7 G.hO ?_;refine aV ⟨kw,0,none⟩ rfl ?_;refine aj.ld (c:=ak) (i:=7) (x:=sl) G.wr.row (bG.tail (j:=2) rfl) ?_;refine jP e3 G.wr.last.ints (by omega) ?_;by_cases S:aT x w.last=0
     ·have U:aQ s' w x=(s',w,0):=by unfold aQ;rw[if_neg (by rintro(q|q);exact Y q;exact q S)]
      refine aC (by rw[S];rfl) ?_;rw[U];exact⟨rfl,col,F',sw,sl,G,hw.mono (by omega),bd.mono (by omega) (by omega)⟩
     ·have U:aQ s' w x=w.add s' x:=by unfold aQ;rw[if_pos (.inr S)]
      refine aP (by simpa using S) ?_;refine a7 G.hO ?_;exact added _ U (λB N q=>aP (by simpa using N) (bad B U N q)) λB hJ N=>aC (by rw[N];rfl) hJ
   ·rintro _ B ⟨N,L,M,P,R,hB,eo,b5⟩;rw[if_neg (by rw[N];simp)] at er;generalize aQ s' w x=a at*;refine bQ.one (E:=dN) (c:=aw) (y:=aE y.k) hB.rds.list.rd (by rw[ej];simp) rfl (i:=k) (x:=y.k) (by rw[Oy,e2];rfl) rfl ?_;refine hB.next e2 b5 (by omega) (by omega) λF3 C eB y' row T q2 q3 q4 q5=>?_;by_cases e6:(y.r.next a.1).2.2.2.2=0
    ·rw[if_neg (by rw[e6];simp)] at er;refine aC (by rw[e6];rfl) ?_;have ep:=b5.next (r:=y.r) (by omega);have b6:k<hd.length:=by omega
     have et:k<isb.length:=by rw[a6,O7];omega
     have eu:k<hs.length:=by omega
     refine az.st1 (E:=GM) (y:=row) T.hO rfl (On b6) (by cases row;rfl) rfl λD oD mD zD=>?_;have ev:az K3 Lm D isl isb:=T.iO.mod mD λb O u=>T.iO.apart T.hO (by decide) b O u;refine az.st1 (E:=K3) (y:=(y.r.next a.1).2.2.2.1) ev rfl (On et) rfl rfl λE oE mE zE=>?_;have ew:az GM fG E hsl (hd.set k row):=oD.mod mE λb O u=>T.iO.apart T.hO (by decide) b u O;have ey:Mod (λb=>ah hsl b\/ah isl b) C E:=(mD.mono λb _ u=>.inl u).trans' mE λb _ u=>.inr u;obtain⟨ok,_⟩:=hB.rds.oks y (Oo e2);have Z:=RR.gh ok a.1;obtain⟨b7,q6,c4⟩:=T.kT (hs':=hs.set k (dQ (y.r.next a.1).2.2.1 (y.r.next a.1).2.2.2.1)) ey ew oE (λb O=>.inl O) λj yj hj=>by
      by_cases af:j=k
      ·subst af;rw[Pz eu] at hj;simp only[Pj] at hj;unfold dQ at hj;split at hj
       ·rename_i eA;cases hj;exact⟨row,y',Pz b6,Pz (by omega),q3,q4,(Z.2.2.2.1 eA).2.2.2⟩
       ·cases hj
      ·rw[Pv (PR af)] at hj;obtain⟨r',x',g1,g2,g3,g4,g5⟩:=T.row j yj (by rw[Pv (PR af)];exact hj);exact⟨r',x',by rw[Pv (PR af)];exact g1,g2,g3,g4,g5⟩
     have c1:=mY (rs:=xs.map (·.r)) (i:=k) (r:=y.r) (r':=y'.r) (by rw[Oy,e2];rfl);have c2:=mK (i:=k) (b:=dQ (y.r.next a.1).2.2.1 (y.r.next a.1).2.2.2.1) b3;have c3:=RR.kE ok a.1;rw[q2] at c1;simp only[Option.isSome_some,if_true] at c2;refine⟨f,⟨b7,F3,_,xs.set k y',a.2.1,P,R,hd.set k row,isb.set k (y.r.next a.1).2.2.2.1,hs.set k (dQ (y.r.next a.1).2.2.1 (y.r.next a.1).2.2.2.1),q6,?_,by simp;exact hlen,by simp;exact bO,by simp;exact b2,?_,?_,eo,ep.mono (by omega) (by omega),by omega⟩,RI _⟩
     ·rw[a6,PK];congr 1;unfold dQ;cases (y.r.next a.1).2.2.2.1<;>rfl
     ·rw[PK,q2];omega
     ·rw[er,PK,q2]
    ·rw[if_pos e6] at er;rw[er] at hK;exact aP (by simpa using e6) (hK F3 C T.rds.pool T.rds.step)
set_option maxHeartbeats 2000000 in
theorem pX {K:(Int×Int)->aa->Prop}{x y N:Nat}(hp:ao F H p dp s)(J:names.n=ns.length)(L:∀A,Mod F H A->bQ jX A names.a ns)(M:∀n∈ns,n.size<=9223372036854775807)(o:to.size<=9223372036854775807)(b:Bd s x y)(hl:ns.length<=1000000)(hx:x<800000000000)(hy:y<50000000000)
  (hN:bJ (aW W ns s).2.1<=N) (a1:N<=10000000000) (a6:x+2*N<900000000000) (a7:y+3*N<67000000000)
  (c:∀F' A,ao F' A p dp (cO s ns to W).1->Step F F' H A->K (((cO s ns to W).2.1:Int),(cO s ns to W).2.2) A):Ey.sp (aE p) names to W H K:=by
 refine Ey.of ?_;unfold Ey.vc;refine aC rfl ?_;unfold cO at c;by_cases e:ns=[]
 ·rw[if_pos e] at c;refine aP (by rw[J,e];rfl) ?_;exact c F H hp (.refl _ _)
 rw[if_neg e] at c;have O:names.n≠0:=by rw[J];exact λq=>e (OK q)
 refine aC (by simpa using O) ?_;have t:=uR (W:=W) b hl (by omega);refine De (W:=W) hp J L M b hl (by omega) (by omega) (λP F1 A a p1 S1=>?_) (λP F1 A col xs l i g R hlen=>?_)
 ·rw[if_pos P] at c;exact c F1 A p1 S1
 rw[if_neg (by rw[P];simp)] at c;rw[<-R] at c hN;generalize (aW W ns s).1=s1 at*;have q1:=t.lo;have q2:=t.hi;have q3:=t.aB;have bM:=t.make (n:=to) (W:=W) (by omega);refine xA g.pool o (by omega) (by omega) q1 t.fit (λI B p2 z D=>?_) (λI B kw w p2 z D w2 k1 k2=>?_)
 ·have S:=gR.1 D;have em:lS (xs.map (·.r)) (bj s1 to W)=((bj s1 to W).1,0,(bj s1 to W).2.2):=by unfold lS;rw[D]
  rw[em] at c;exact aP (by simpa using S) (c I B p2 (g.step.trans z))
 obtain⟨S,hw,W0,T⟩:=gR.2 w D;subst hw;rw[vg D] at c;generalize (bj s1 to W).1=s2 at*;rw[S];refine aC rfl ?_;have zR:=g.mod.size;have zS:=z.mod.size;have U:∀b,dv kw bc bc b->b=kw:=by
  rintro b (q|q|q)
  ·exact q
  ·exact absurd q (aS b)
  ·exact absurd q (aS b)
 obtain⟨h,c1,c2⟩:=ij col A.size I (λb=>b=kw) (λ_=>False) 0 2 1 (λb q r=>k2 (r▸q)) (λb q r=>r) (λb q r=>r);have V:=g.so (col':=h) p2 z.mod (λb j q=>by rw[(g.cF b q).1];decide) (λb j q=>(g.cF b q).2.resolve_right (by omega)) (λb q=>by
  rcases z.own b q with r|r
  ·rw[c1 b (g.pool.lt b r)];exact g.cF b r
  ·exact⟨(c2 b r).1 q,.inr (by omega)⟩) λb j _=>c1 b j
 have hM:uq H F h p dp I B s2 xs l kw (wb to W) bc bc (Sl.mk none 0 0) [] (Sl.mk none 0 0) [] []:=by
  refine⟨V,w2,λb j=>?_,az.nil _ _ _,az.nil _ _ _,λb j=>?_,λi y hi=>by simp at hi⟩
  ·have:=U b j;subst this;exact⟨(c2 b k1).2.1 rfl,.inr (by omega)⟩
  ·exact absurd j λq=>q.elim (aS b) (aS b)
 have E:xs.length<=1000000:=by omega
 refine CP hM bM (by omega) (by omega) E (λe2 X C r k p3 S3=>?_) λe2 X C G d hsl hd isl isb hs i Y h1 h2 h3 h4 h5 Z b3=>?_
 ·unfold zy at c;rw[if_pos e2] at c;exact c X C p3 S3
 ·unfold zy at c;rw[if_neg (by rw[e2];simp)] at c;have an:bJ (d.map (·.r))+fU hs<=bJ (xs.map (·.r)):=by
   rw[h1,h2];exact kB λr R=>by
    obtain⟨y,hy,rfl⟩:=List.mem_map.1 R;exact(g.oks y hy).1
  rw[<-h1,<-h2] at c;have af:tQ H F p dp C l hsl isl kw to (bJ (d.map (·.r))+fU hs+1) (x+2000002) (y+2000004) (gi (bJ (d.map (·.r))+fU hs+1) (ba (xs.map (·.r)) s2).1 (d.map (·.r)) hs (wb to W)) (bJ (d.map (·.r))+fU hs+1):=
   ⟨G,X,_,d,wb to W,bc,bc,hd,isb,hs,Y,h3,by rw[h4,Z],by rw[h5,Z],by rw[Z];exact E,RI _,rfl,by rw[Nat.sub_self];exact wW to W0 T,b3.mono (by omega) (by omega),Ot _⟩
  exact CE o (by omega) (by omega) (by omega) af c
end
section
variable {H:aa}{k p dp:Nat}{t:So}{sw ss:Sl}{rs:List Sl}{F:Nat->Prop}{s:Pl}
theorem Br {a:Option Addr}{c lo n e g b:Nat}(h:ah (Sl.mk (cE a c lo 1) n g) b):ah (Sl.mk a e c) b:=by
 obtain⟨ad,d,e2⟩:=h;have d:cE a c lo 1=some ad:=d;unfold cE at d;split at d
 ·exact⟨ad,d,e2⟩
 ·cases a with
  |none=>cases d
  |some a0=>
    simp at d;exact⟨a0,rfl,by rw[<-e2,<-d,dE]⟩
set_option maxHeartbeats 1000000 in
theorem uJ {K:(Int×Int)->aa->Prop}{c x y N:Nat}{to:ByteArray}(hg:Gl H)(a7:¬cj k sw rs ss bh)(h:qt H k p t sw rs ss)(hp:au F H p dp s)(dis:∀b,F b->¬cj k sw rs ss b)(hz:vQ t)(Y:to.size<=9223372036854775807)(hc:c<=t.side.length)(b:Bd s x y)(Z:x+2*N<700000000000)(hy:y+3*N<40000000000)
  (hN:bJ (aW t.width (t.side.take c) s).2.1<=N) (a8:N<=1000000000)
  (hK:∀F' P H',au F' H' p dp (t.merge s c to).1->Jn H' k p (t.merge s c to).2.1 sw rs P->(∀b,ah P b->ah ss b)->Mod (λb=>F b\/b=k) H H'->(∀b,F' b->F b\/H.size<=b)->Bd (t.merge s c to).1 (x+2*N+3000) (y+3*N+9000)->K (((t.merge s c to).2.2.1:Int),(t.merge s c to).2.2.2) H'):HS.sp (aE k) (c:Int) to H K:=by
 refine HS.of ?_;unfold HS.vc;unfold aE;simp only[al];have U:=h.rd.n;have af:=hp.eO;refine h.rd.row.ld (c:=ak) (i:=5) (x:=ss) rfl ?_;refine⟨⟨by omega,by omega⟩,?_⟩;simp only[Ov,TP,Bo];refine h.rd.row.ld (c:=aw) (i:=0) (x:=aE p) rfl ?_;refine h.rd.row.ld (c:=ab .i64) (i:=2) (x:=t.width) rfl ?_;have bb:=hz.side;have R:(t.side.take c).length=c:=by rw[Pc];omega
 have nU:∀b,ah ss b->¬F b:=λb d q=>dis b q (.inr (.inr (.inr d)));have S:∀A,Mod F H A->bQ jX A ss.a t.side:=λA m=>h.rd.names.keep λad V a=>m.same _ a λq=>nU _ ⟨ad,V,rfl⟩ q;refine yg (names:=Sl.mk ss.a c ss.c) hg hp R.symm (λA m=>(S A m).take) (λn U=>hz.sizes n (Pu U)) Y b (by omega) (by omega) (by omega) hN (by omega) (by omega) (by omega) λF1 A p1 S1=>?_;have bM:=mO (to:=to) b (by omega) (by omega) hN p1.frames;unfold So.merge at hK;generalize cO s (t.side.take c) to t.width=m at*
 -- the side runs are dropped
 refine ar c (λi z B=>z.2=(i:Int)/\∃F' s',au F' B p dp s'/\Step F F' H B/\Bd s' (x+2*N+3000) (y+3*N+9000)/\fX (t.side.take c) m=(if z.1≠0 then (s',z.1) else jk ((t.side.take c).drop i) s')) ⟨rfl,F1,m.1,p1,S1,bM,rfl⟩ ?_;rintro i ⟨e,j⟩ B next hi ⟨hj,F2,s2,p2,D,b2,G⟩ g
 simp only at hj;subst hj;simp only at G ⊢;have vZ:aj B k wc (ir p t sw ss):=h.rd.row.mod D.mod λq=>dis k q (.inl rfl);have an:=hg.mod D.mod af;refine ag (λI=>?_) (λI=>?_)
 ·have a:i<c:=by
   have:(i:Int)<(c:Int):=by simpa using I
   omega
  have a1:(t.side.take c)[i]?=some ((t.side.take c)[i]'(by omega)):=On (by omega);have hd:(t.side.take c).drop i=(t.side.take c)[i]'(by omega)::(t.side.take c).drop (i+1):=Pf (by omega);rw[hd] at G;refine bQ.one (E:=jX) (c:=aH) (s:=Sl.mk ss.a c ss.c) (S B D.mod).take R.symm rfl a1 rfl ?_;rw[aD i (by omega)];refine ag (λJ=>?_) (λJ=>?_)
  ·have X:e=0:=by simpa using J
   rw[if_neg (by rw[X];simp)] at G;refine vZ.ld (c:=aw) (i:=0) (x:=aE p) rfl ?_;refine Hk an p2 λF3 C p3 S3=>?_;refine g a _ C ⟨rfl,F3,_,p3,D.trans S3,b2.cV,?_⟩;rw[G];rfl
  ·have X:e≠0:=by simpa using J
   rw[if_pos X] at G;refine g a _ B ⟨rfl,F2,s2,p2,D,b2,?_⟩;simp only;rw[if_pos X];exact G
 ·have a6:i=c:=by
   have:¬(i:Int)<(c:Int):=by simpa using I
   omega
  subst a6;have hd:(t.side.take i).drop i=[]:=List.drop_of_length_le (by omega);rw[hd] at G;have he:fX (t.side.take i) m=(s2,e):=by
   rw[G];by_cases q:e≠0
   ·rw[if_pos q]
   ·rw[if_neg q];simp only[jk];rw[U8.1 q]
  rw[he] at hK;refine vZ.ld (c:=ak) (i:=5) (x:=ss) rfl ?_;refine⟨⟨by omega,by omega⟩,?_⟩;refine aj.st vZ (i:=5) (by simp[ir]) rfl λC rC mC zC=>?_;have L:Mod (λb=>F b\/b=k) H C:=(D.mod.mono λb _ q=>.inl q).trans' mC λb _ q=>.inr q;have T:¬F2 k:=λq=>(D.own k q).elim (λr=>dis k r (.inl rfl)) λr=>by have:=aA h.rd.row;omega
  have M:=h.nU;have O:=h.rd.jK;have o:∀b,cj k sw rs ss b->b≠k->¬(F b\/b=k):=λb d U q=>q.elim (λu=>dis b u d) U;refine hK F2 ⟨cE ss.a ss.c i 1,ss.n - i,ss.c - i⟩ C (p2.keep λb d a=>mC.same b a λq=>T (q▸d)) ⟨rC,?_,?_,⟨by show ss.n - i=(t.side.drop i).length;rw[PF];omega,by show ss.n - i<=ss.c - i;omega⟩,h.rd.iF⟩ (λb d=>Br d) L D.own b2
  ·exact h.rd.wait.mod L (λb d=>o b (.inr (.inl d)) λq=>O (q▸d)) λx Z b d=>o b (.inr (.inr (.inl ⟨x,Z,d⟩))) λq=>h.rd.jz x Z (q▸d)
  ·have r1:bQ jX C ss.a t.side:=h.rd.names.keep λad V a=>L.same _ a (o ad.block (.inr (.inr (.inr ⟨ad,V,rfl⟩))) λq=>M (q▸⟨ad,V,rfl⟩));exact r1.drop (E:=jX) (by omega)
end
theorem ai.pure {c:eM}{P:Program}{f:FuncId}{args:Array Value}{H:aa}{Q:Prop}(h:ai c P f args H λ_ _=>Q):Q:=by
 obtain⟨e,w',fr,⟨v,he,⟨x,_,q⟩,_⟩,_⟩:=h {(default:World) with heap:=H} rfl [];exact q
theorem w7 {n room m:Nat}(a:0<room)(h:df n room<=m):n<=room*m:=by
 unfold df at h;rcases Pb (room*m) n with q|q
 ·have h1:room*(m+1)<=n+room - 1:=by rw[Nat.mul_succ];omega
  have:=(Nat.le_div_iff_mul_le a).2 (by rw[UE];exact h1);omega
 ·exact q
theorem qu {s:Pl}{n:ByteArray}{W:Int}{r:RR}(h:(rnOpen s n W).2.1=some r)(hw:(rnOpen s n W).1.d.WF):r.rows<=(aF W).toNat*1048576:=by
 obtain⟨a,b⟩:=c6 ⟨n,W,0,false⟩;simp only at a;unfold rnOpen at h hw;split at h
 ·cases h
 ·rename_i c;rw[if_neg c] at hw;split at h
  ·cases h
  ·rename_i h1;rw[if_neg h1] at hw;split at h
   ·cases h
   ·rename_i e;rw[if_neg e] at hw;split at h
    ·cases h
    ·rename_i g;rw[if_neg g] at hw;split at h
     ·rename_i i;rw[if_pos i] at hw;cases h;have:=Dk.j7 hw n;simp only at this;exact w7 (n:=(bZ (eH ((s.look n 0).2.2.1.drop 1))).toNat) (m:=1048576) (by show 0<(aF W).toNat;omega) (by omega)
     ·cases h
section
variable {p dp:Nat}{W:Int}
theorem tw {x y:Nat}:∀{ns:List ByteArray} {s:Pl} {x y:Nat} {F:Nat->Prop} {A:aa},Gl A->au F A p dp s->Bd s x y->x+ns.length<900000000000->y+ns.length<60000000000->(∀n∈ns,n.size<=9223372036854775807)->bJ (aW W ns s).2.1<=ns.length*((aF W).toNat*1048576)
 |[],s,x,y,F,A,_,_,_,_,_,_=>by simp[aW,bJ]
 |n::ns,s,x,y,F,A,a,c,b,h,i,hs=>by
   rw[O3] at h i ⊢;have j:=b.lo;have z:=b.hi;have C:=b.aB;have ⟨F',B,g,o⟩:∃F' B,au F' B p dp (rnOpen s n W).1/\Gl B:=ai.pure (H:=A) (tg (W:=W) a c (hs n OO) (by omega) (by omega) j (λF' B p1 d _=>⟨F',B,p1,a.mod d.mod c.eO⟩) λF' B k r p1 d _ _ _ _=>⟨F',B,p1,a.mod d.mod c.eO⟩);simp only[aW];split
   ·simp[bJ]
   ·rename_i r e;have h1:=qu e g.My;have q:=tw (x:=x) (y:=y) (ns:=ns) o g (b.open (n:=n) (W:=W) (by omega)) (by omega) (by omega) λm hm=>hs m (OM _ hm);simp only[bJ,OJ,Py] at q ⊢;rw[Px];omega
end
def th (p dp:Nat)(W:Int)(S N:Nat):Prop:=∀(F:Nat->Prop) (A:aa) (s:Pl) (x y:Nat) (l:List ByteArray),Gl A->au F A p dp s->Bd s x y->x<800000000000->y<50000000000->l.length<=S->(∀n∈l,n.size<=9223372036854775807)->bJ (aW W l s).2.1<=N
theorem J3 {p dp S N:Nat}{W:Int}(d:S<=100000)(h:S*((aF W).toNat*1048576)<=N):th p dp W S N:=λF A s x y l a c b e g hl hs=>
 OE (OE (tw (x:=x) (y:=y) a c b (by omega) (by omega) hs) (OZ _ hl)) h
def So.jB (N:Nat):Nat->So->Pl->Prop
 |0,_,_=>True
 |f+1,t,s=>t.frames<=(t.side.length:Int)->bJ (aW t.width (t.side.take (t.frames - 1).toNat) s).2.1<=N/\((t.round s).2.2.2=0->So.jB N f {(t.round s).2.1 with side:=t.side.drop (t.frames - 1).toNat++[bV t.name t.next]} (t.round s).1)
def So.Eh (N:Nat)(r:Pl×So×Int):Prop:=r.2.2=0->bJ (aW r.2.1.width (r.2.1.side.take r.2.1.side.length) r.1).2.1<=N
def So.D9 (N:Nat)(r:Pl×So×Int):Prop:=r.2.2=0->r.2.1.jB N r.2.1.side.length r.1/\So.Eh N (r.2.1.rounds r.2.1.side.length r.1)
section
variable {H:aa}{k p dp:Nat}{t:So}{sw ss:Sl}{rs:List Sl}{F:Nat->Prop}{s:Pl}
theorem ze {sl:Sl}{l:List ByteArray}{K:Sl->aa->Prop}(h:bQ jX H sl.a l)(i:sl.n=l.length)(hl:l.length<=1000000)
  (g:∀s' H',az jX dy H' s' l->Ext H H'->(∀b,ah s' b->H.size<=b)->K s' H'):JV.sp sl H K:=by
 refine JV.of ?_;unfold JV.vc;refine ag (λa=>?_) (λa=>?_)
 ·have:l=[]:=by
   cases l with
   |nil=>rfl
   |cons x r=>
     obtain⟨ad,j⟩:=h.addr (by decide) (by simp);rw[j] at a;cases a
  subst this;exact g _ H (az.nil _ _ _) (.refl _ _) (by rintro b ⟨ad,q,_⟩;cases q)
 ·refine av λH1 s1 o m1=>?_;have y:az jX dy H1 (Sl.mk (some ⟨H.size,0,none⟩) 0 0) []:=⟨rfl,.inr ⟨H.size,0,#[],rfl,OL _,o,Ot _,by unfold maxLen;omega,rfl,rfl⟩⟩;have h1:bQ jX H1 sl.a l:=h.keep λad _ c=>m1.same _ c id;refine az.append (E:=jX) (s:=Sl.mk (some ⟨H.size,0,none⟩) 0 0) (x:=sl) (l:=[]) (r:=l) Aj y h1 i (by simp;omega) (by simp;omega) λs' H' z g' _=>?_;refine g s' H' (by simpa using z) ⟨OE m1.size g'.1.size,λb d _=>(g'.1.same b (by omega) (by rintro⟨ad,e,e2⟩;cases e;have:H.size=b:=e2;omega)).trans (m1.same b d id)⟩ λb d=>?_;rcases g'.2 b d with ⟨ad,e,e2⟩|q
  ·cases e;have:H.size=b:=e2;omega
  ·omega
theorem nk {a:Sl}{b:Nat}(h:cj k sw rs a b)(hs:∀b,ah a b->ah ss b):cj k sw rs ss b:=by
 rcases h with q|q|q|q
 ·exact .inl q
 ·exact .inr (.inl q)
 ·exact .inr (.inr (.inl q))
 ·exact .inr (.inr (.inr (hs b q)))
set_option maxRecDepth 100000 in
set_option maxHeartbeats 2000000 in
theorem KI {K:(Int×Int)->aa->Prop}{x y N R:Nat}(hg:Gl H)(a7:¬cj k sw rs ss bh)(h:qt H k p t sw rs ss)(hp:au F H p dp s)(dis:∀b,F b->¬cj k sw rs ss b)(hz:vQ t)(cB:t.next+t.side.length+2<=100)(c0:3<=t.frames)(b:Bd s x y)(hR:t.side.length+2<=R)(c3:N<=1000000000)(hx:x+400010+R*(2*N+3000)<=600000000000)(hy:y+805000+R*(3*N+9000)<=39000000000)
  (hle:So.D9 N (t.first s)\/th p dp t.width (t.side.length+1) N)
  (U:∀F' g j d H',au F' H' p dp (So.goes (t.first s)).1->Jn H' k p (So.goes (t.first s)).2.1 g j d->(∀b,F' b->¬cj k g j d b)->Step (λb=>F b\/cj k sw rs ss b) (λb=>F' b\/cj k g j d b) H H'->Bd (So.goes (t.first s)).1 (x+400010+R*(2*N+3000)) (y+805000+R*(3*N+9000))->K (((So.goes (t.first s)).2.2.1:Int),(So.goes (t.first s)).2.2.2) H'):Jk.sp (aE k) H K:=by
 refine Jk.of ?_;unfold Jk.vc;unfold aE;simp only[al];have b2:=hg.lt;have bC:=h.rd.wait.n;refine⟨λ_ B=>(t.first s).2.2=0/\∃F' g j d,au F' B p dp (t.first s).1/\qt B k p (t.first s).2.1 g j d/\(∀b,F' b->¬cj k g j d b)/\Step (λb=>F b\/cj k sw rs ss b) (λb=>F' b\/cj k g j d b) H B/\Bd (t.first s).1 (x+400010) (y+805000)/\vQ (t.first s).2.1/\(t.first s).2.1.next+(t.first s).2.1.side.length<=100/\(t.first s).2.1.frames=t.frames/\(t.first s).2.1.side.length<=t.side.length+1/\(t.first s).2.1.width=t.width,?_,?_⟩
 ·have aside:∀(Kb:Int->aa->Prop),(t.wait≠[]\/t.side=[])->(∀e B,e≠0->K (0,e) B->Kb e B)->(∀B,((t.first s).2.2=0/\∃F' g j d,au F' B p dp (t.first s).1/\qt B k p (t.first s).2.1 g j d/\(∀b,F' b->¬cj k g j d b)/\Step (λb=>F b\/cj k sw rs ss b) (λb=>F' b\/cj k g j d b) H B/\Bd (t.first s).1 (x+400010) (y+805000)/\vQ (t.first s).2.1/\(t.first s).2.1.next+(t.first s).2.1.side.length<=100/\(t.first s).2.1.frames=t.frames/\(t.first s).2.1.side.length<=t.side.length+1/\(t.first s).2.1.width=t.width)->Kb 0 B)->
    Ee.sp (some ⟨k,0,none⟩) H Kb:=λKb T k1 k2=>by
   have ef:t.first s=t.aside s:=if_pos T;rw[ef] at U k2;refine xi hg a7 h hp dis hz b (by omega) (by omega) λF' d B pB O dB L=>?_;have c4:=jN t.wait;have hw:=hz.wait;have bd:Bd (t.aside s).1 (x+400010) (y+805000):=(sx b (by omega) pB.frames).mono (by omega) (by omega);by_cases X:(t.aside s).2.2=0
   ·rw[X];refine k2 B ⟨X,F',bc,[],d,pB,O,dB,L,bd,⟨hz.name,OL _,?_,λn V=>?_,?_,hz.frames⟩,?_,rfl,?_,rfl⟩
    ·show (t.side++[_]).length<=1000;simp;omega
    ·rcases Ox.1 (show n∈t.side++[bV t.name t.next] from V) with u|u
     ·exact hz.sizes n u
     ·rw[OH] at u;subst u;have:=cN hz.next;have:=hz.name;rw[dU];omega
    ·show t.next+1<100;omega
    ·show t.next+1+(t.side++[_]).length<=100;simp;omega
    ·show (t.side++[_]).length<=t.side.length+1;simp
   ·unfold So.goes at U;rw[if_pos X] at U;exact k1 _ B X (U F' bc [] d B pB O.rd dB L (bd.mono (by omega) (by omega)))
  refine h.rd.row.ld (c:=ak) (i:=4) (x:=sw) rfl ?_;refine ag (λT=>?_) (λT=>?_)
  ·have hw:t.wait≠[]:=λq=>by rw[q] at bC;rw[bC] at T;simp at T
   exact aside _ (.inl hw) (λe B X q=>aP (by simpa using X) q) λB q=>aC rfl q
  ·have hw:t.wait=[]:=by
    have:¬(sw.n:Int)>0:=by simpa using T
    exact OK (by omega)
   refine h.rd.row.ld (c:=ak) (i:=5) (x:=ss) rfl ?_;have V:=h.rd.n.1;refine ag (λT=>?_) (λT=>?_)
   ·have hs:t.side=[]:=by
     have:(ss.n:Int)=0:=by simpa using T
     exact OK (by omega)
    exact aside _ (.inr hs) (λe B X q=>aP (by simpa using X) q) λB q=>aC rfl q
   ·have hs:t.side≠[]:=λq=>by rw[q] at V;rw[V] at T;simp at T
    have ef:t.first s=(s,t,0):=if_neg (by rintro(q|q);exact q hw;exact hs q);rw[ef];exact⟨rfl,F,sw,rs,ss,hp,h,dis,.refl _ _,b.mono (by omega) (by omega),hz,by show t.next+t.side.length<=100;omega,rfl,Ph _,rfl⟩
 ·rintro _ A ⟨X,F1,b3,b4,b5,pA,sA,dA,SA,bA,zA,nA,fA,lA,wA⟩;have Y:((t.first s).2.1.jB N (t.first s).2.1.side.length (t.first s).1/\So.Eh N ((t.first s).2.1.rounds (t.first s).2.1.side.length (t.first s).1))\/th p dp t.width (t.side.length+1) N:=hle.imp (λh=>h X) id;have eg:So.goes (t.first s)=So.last ((t.first s).2.1.rounds (t.first s).2.1.side.length (t.first s).1):=if_neg (by rw[X];simp);rw[eg] at U;generalize hl:(t.first s).2.1.side.length=f0 at*;have b6:(t.first s).2.1.side.length<=f0:=UA hl;have bM:f0+1<=R:=by omega
  generalize (t.first s).2.1=t1 at*;generalize (t.first s).1=s1 at*;have hmul:(f0+1)*(2*N+3000)<=R*(2*N+3000):=OZ _ bM;have a8:(f0+1)*(3*N+9000)<=R*(3*N+9000):=OZ _ bM;rw[Px] at hmul a8;have bN:t1.jB N f0 s1\/th p dp t.width (t.side.length+1) N:=Y.imp And.left id;refine⟨Nat,λf _ B=>∃F' g j d t' s' xx yy,au F' B p dp s'/\qt B k p t' g j d/\(∀b,F' b->¬cj k g j d b)/\Step (λb=>F b\/cj k sw rs ss b) (λb=>F' b\/cj k g j d b) H B/\Bd s' xx yy/\xx+f*(2*N+3000)<=x+400010+f0*(2*N+3000)/\yy+f*(3*N+9000)<=y+805000+f0*(3*N+9000)/\vQ t'/\t'.next+t'.side.length<=100/\t'.frames=t.frames/\t'.side.length<=f/\f<=f0/\t'.width=t.width/\t1.rounds f0 s1=t'.rounds f s'/\(t'.jB N f s'\/th p dp t.width (t.side.length+1) N),λf=>f,
   ⟨f0,F1,b3,b4,b5,t1,s1,x+400010,y+805000,pA,sA,dA,SA,bA,Ot _,Ot _,zA,by rw[hl];exact nA,fA,b6,Ot _,wA,rfl,bN⟩,?_⟩
  rintro f _ B ⟨F2,o,z,P,t2,s2,xx,yy,pB,O,dB,L,bB,bx,b7,J,nB,fB,lB,ff,wB,eB,bO⟩;have Z:Gl B:=hg.keep (L.mod.same _ b2 λq=>q.elim hp.eO a7);have af:¬cj k o z P bh:=λq=>by
   rcases L.own _ (.inr q) with u|u
   ·exact u.elim hp.eO a7
   ·omega
  have b9:=O.rd.n.1;refine O.rd.row.ld (c:=ak) (i:=5) (x:=P) rfl ?_;refine O.rd.row.ld (c:=ab .i64) (i:=3) (x:=t2.frames) rfl ?_;refine ag (λT=>?_) (λT=>?_)
  ·have bb:t2.frames<=(t2.side.length:Int):=by
    have:(P.n:Int)>=t2.frames:=by simpa using T
    omega
   cases f with
   |zero=>exact absurd lB (by omega)
   |succ f=>
   rw[Px] at bx b7;have cb:bJ (aW t2.width (t2.side.take (t2.frames - 1).toNat) s2).2.1<=N:=bO.elim (λh=>(h bb).1) λh=>by
    rw[wB];exact h F2 B s2 xx yy _ Z pB bB (by omega) (by omega) (by rw[Pc];omega) λn V=>J.sizes n (Pu V)
   have ck:(t2.round s2).2.2.2=0->So.jB N f {(t2.round s2).2.1 with side:=t2.side.drop (t2.frames - 1).toNat++[bV t2.name t2.next]} (t2.round s2).1\/th p dp t.width (t.side.length+1) N:=λe=>bO.imp (λh=>(h bb).2 e) id;have er:t2.rounds (f+1) s2=if (t2.round s2).2.2.2≠0 then ((t2.round s2).1,(t2.round s2).2.1,(t2.round s2).2.2.2) else So.rounds f {(t2.round s2).2.1 with side:=t2.side.drop (t2.frames - 1).toNat++[bV t2.name t2.next]} (t2.round s2).1:=if_pos bb
   have c5:t2.next<98:=by omega
   refine qO O.rd.row (by omega) J.name λC rC mC zC=>?_;have b0:¬F2 k:=λq=>dB k q (.inl rfl);have bl:=O.rd.jK;have bn:=O.nU;have sC:qt C k p (t2.to (t2.next+1)) o z P:=.mk' rC (O.rd.wait.mod mC (λb a q=>bl (q▸a)) λx hx b a q=>O.rd.jz x hx (q▸a)) (O.side.mod mC λb a q=>bn (q▸a)) O.rd.iF;have pC:au F2 C p dp s2:=pB.keep λb a an=>mC.same b an λq=>b0 (q▸a);have gC:Gl C:=Z.keep (mC.same _ Z.lt λq=>af (.inl q));refine rC.ld (c:=ab .i64) (i:=3) (x:=t2.frames) rfl ?_;have hf:=J.frames;have ec:Ol.wrap (t2.frames - 1)=(((t2.frames - 1).toNat:Nat):Int):=by rw[wrap64 (by omega) (by omega)];omega
   rw[ec];have cm:vQ (t2.to (t2.next+1)):=⟨J.name,J.wait,J.side,J.sizes,by show t2.next+1<100;omega,J.frames⟩;refine uJ (t:=t2.to (t2.next+1)) (c:=(t2.frames - 1).toNat) gC af sC pC dB cm (by have:=cN J.next;have:=J.name;rw[dU];omega) (by show (t2.frames - 1).toNat<=t2.side.length;omega) bB (by omega) (by omega) cb (by omega) λF3 M D pD sD oD mD wD bD=>?_;have em:(t2.to (t2.next+1)).merge s2 (t2.frames - 1).toNat (bV t2.name t2.next)=t2.round s2:=rfl;rw[em] at pD sD bD ⊢;have dc:=mC.size;have SD:Step (λb=>F2 b\/cj k o z P b) (λb=>F3 b\/cj k o z M b) B D:=by
    refine⟨(mC.mono λb _ q=>.inr (.inl q)).trans' mD λb _ q=>q.elim .inl λu=>.inr (.inl u),λb a=>?_⟩;rcases a with u|u
    ·rcases wD b u with v|v
     ·exact .inl (.inl v)
     ·exact .inr (by omega)
    ·exact .inl (.inr (nk u oD))
   have dD:∀b,F3 b->¬cj k o z M b:=λb a q=>by
    have q2:=nk q oD;rcases wD b a with v|v
    ·exact dB b v q2
    ·have:=sC.lt b q2;omega
   by_cases ee:(t2.round s2).2.2.2=0
   ·rw[if_neg (by rw[ee];simp)] at er;refine aC (by rw[ee];rfl) ?_;have e3:(t2.round s2).2.1={t2.to (t2.next+1) with side:=t2.side.drop (t2.frames - 1).toNat}:=rfl;have S:Jn D k p {t2.to (t2.next+1) with side:=t2.side.drop (t2.frames - 1).toNat} o z M:=sD;refine S.row.ld (c:=ak) (i:=5) (x:=M) rfl ?_;have hsl:=J.side;refine ze S.names S.n.1 (by show (t2.side.drop _).length<=_;rw[PF];omega) λcx E oE eE fE=>?_;refine az.push (E:=jX) (x:=bV t2.name t2.next) Aj oE rfl (by show (t2.side.drop _).length+1<=_;rw[PF];omega) (by show ((t2.side.drop _).length+1)*_<=_;rw[PF];omega) λa1 G oG gG _=>?_;have kD:=aA S.row;have k5:¬ah a1 k:=λq=>by
     rcases gG.2 k q with u|u
     ·have:=fE k u;omega
     ·have:=eE.size;omega
    have k4:¬ah cx k:=λq=>by have:=fE k q;omega
    have rG:aj G k wc (ir p {t2.to (t2.next+1) with side:=t2.side.drop (t2.frames - 1).toNat} o M):=(S.row.ext eE).mod gG.1 k4;refine aj.st rG (i:=5) (by simp[ir]) rfl λI rI mI zI=>?_;have zE:=eE.size;have zG:=gG.1.size;have bs:Mod (λb=>b=k) D I:=by
     refine⟨by have:=mI.size;omega,λb a V=>?_⟩;rw[mI.same b (by omega) V,gG.1.same b (by omega) (λq=>by have:=fE b q;omega),eE.same b a id]
    have a6:∀b,ah a1 b->D.size<=b:=λb a=>by
     rcases gG.2 b a with u|u
     ·exact fE b u
     ·omega
    have sI:qt I k p {(t2.round s2).2.1 with side:=t2.side.drop (t2.frames - 1).toNat++[bV t2.name t2.next]} o z a1:=by
     refine .mk' rI ?_ (oG.mod mI λb a q=>k5 (q▸a)) O.rd.iF;exact S.wait.mod bs (λb a q=>S.jK (q▸a)) λx hx b a q=>S.jz x hx (q▸a)
    have b1:¬F3 k:=λq=>dD k q (.inl rfl);have z3:=mD.size;refine⟨f,⟨F3,o,z,a1,_,(t2.round s2).1,xx+2*N+3000,yy+3*N+9000,pD.keep λb a an=>bs.same b an λq=>b1 (q▸a),sI,λb a q=>?_,?_,bD,by omega,by omega,⟨J.name,J.wait,?_,λn V=>?_,by show t2.next+1<100;omega,J.frames⟩,?_,fB,?_,by omega,wB,?_,ck ee⟩,RI _⟩
    ·rcases q with u|u|u|u
     ·exact dD b a (.inl u)
     ·exact dD b a (.inr (.inl u))
     ·exact dD b a (.inr (.inr (.inl u)))
     ·have:=a6 b u;have:=pD.lt b a;omega
    ·have cy:=L.mod.size;refine⟨(L.mod.trans' SD.mod λb a q=>?_).trans' bs λb a q=>?_,λb a=>?_⟩
     ·rcases L.own b q with u|u
      ·exact u
      ·omega
     ·rcases L.own b (.inr (.inl q)) with u|u
      ·exact u
      ·omega
     ·have up:∀b,(F3 b\/cj k o z M b)->(F b\/cj k sw rs ss b)\/H.size<=b:=λb a=>by
       rcases SD.own b a with u|u
       ·exact L.own b u
       ·exact .inr (by omega)
      rcases a with u|u|u|u|u
      ·exact up b (.inl u)
      ·exact up b (.inr (.inl u))
      ·exact up b (.inr (.inr (.inl u)))
      ·exact up b (.inr (.inr (.inr (.inl u))))
      ·exact .inr (by have:=a6 b u;omega)
    ·show (t2.side.drop _++[_]).length<=1000;simp;omega
    ·rcases Ox.1 (show n∈t2.side.drop (t2.frames - 1).toNat++[bV t2.name t2.next] from V) with u|u
     ·exact J.sizes n (Q0 u)
     ·rw[OH] at u;subst u;have:=cN J.next;have:=J.name;rw[dU];omega
    ·show t2.next+1+(t2.side.drop _++[_]).length<=100;simp;omega
    ·show (t2.side.drop _++[_]).length<=f;simp;omega
    ·rw[eB,er]
   ·rw[if_pos ee] at er;rw[eB,er] at U;unfold So.last at U;rw[if_pos ee] at U;refine aP (by simpa using ee) (U F3 o z M D pD sD dD ⟨L.mod.trans' SD.mod λb a q=>(L.own b q).resolve_right (by omega),λb a=>?_⟩ (bD.mono (by omega) (by omega)));rcases SD.own b a with u|u
    ·exact L.own b u
    ·have:=L.mod.size;exact .inr (by omega)
  ·have an:¬t2.frames<=(t2.side.length:Int):=by
    have:¬(P.n:Int)>=t2.frames:=by simpa using T
    omega
   have er:t2.rounds f s2=(s2,t2,0):=by
    cases f with
    |zero=>rfl
    |succ f=>exact if_neg an
   rw[eB,er] at U Y;have cz:bJ (aW t2.width (t2.side.take t2.side.length) s2).2.1<=N:=Y.elim (λh=>h.2 rfl) λh=>by
    rw[wB];exact h F2 B s2 xx yy _ Z pB bB (by omega) (by omega) (by rw[Pc];omega) λn V=>J.sizes n (Pu V)
   unfold So.last at U;rw[if_neg (by simp)] at U;refine O.rd.row.ld (c:=ak) (i:=5) (x:=P) rfl ?_;refine O.rd.row.ld (c:=aH) (i:=1) (x:=t2.name) rfl ?_;rw[b9];have:0<=f*(2*N+3000):=OL _;have:0<=f*(3*N+9000):=OL _;refine uJ (c:=t2.side.length) Z af O pB dB J (by have:=J.name;omega) (Ot _) bB (by omega) (by omega) cz (by omega) λF3 M D pD sD oD mD wD bD=>?_;have cy:=L.mod.size;refine U F3 o z M D pD sD (λb a q=>?_) ⟨L.mod.trans' mD λb a q=>?_,λb a=>?_⟩ (bD.mono (by omega) (by omega))
   ·have q2:=nk q oD;rcases wD b a with v|v
    ·exact dB b v q2
    ·have:=O.lt b q2;omega
   ·have:F2 b\/cj k o z P b:=q.elim .inl λu=>.inr (.inl u);exact(L.own b this).resolve_right (by omega)
   ·rcases a with u|u
    ·rcases wD b u with v|v
     ·exact L.own b (.inl v)
     ·exact .inr (by omega)
    ·exact L.own b (.inr (nk u oD))
set_option maxRecDepth 100000 in
theorem Eu {K:(Int×Int)->aa->Prop}{x y N R:Nat}(hg:Gl H)(G:¬cj k sw rs ss bh)(h:qt H k p t sw rs ss)(X:au F H p dp s)(dis:∀b,F b->¬cj k sw rs ss b)(hz:vQ t)(C:t.next+t.side.length+2<=100)(I:3<=t.frames)(b:Bd s x y)(hR:t.side.length+2<=R)(J:N<=1000000000)(hx:x+400010+R*(2*N+3000)<=600000000000)(hy:y+805000+R*(3*N+9000)<=39000000000)
  (hle:t.ready=0->So.D9 N (t.first s)\/th p dp t.width (t.side.length+1) N)
  (a:∀F' c D d H',au F' H' p dp (t.done s).1->aj H' k wc (ir p (t.done s).2.1 c d)->(∀b,F' b->¬cj k c D d b)->Step (λb=>F b\/cj k sw rs ss b) (λb=>F' b\/cj k c D d b) H H'->Bd (t.done s).1 (x+400010+R*(2*N+3000)) (y+805000+R*(3*N+9000))->K (((t.done s).2.2.1:Int),(t.done s).2.2.2) H'):Dw.sp (aE k) H K:=by
 refine Dw.of ?_;unfold Dw.vc;refine kz h.rd.row ?_;unfold So.done at a;refine ag (λe=>?_) (λe=>?_)
 ·rw[if_pos (by simpa using e)] at a;exact a F sw rs ss H X h.rd.row dis (.refl _ _) (b.mono (OE (Qj x 400010) (Qj _ _)) (OE (Qj y 805000) (Qj _ _)))
 have Y:¬t.ready≠0:=by simpa using e
 rw[if_neg Y] at a;refine KI hg G h X dis hz C I b hR J hx hy (hle (U8.1 Y)) λE g j o A pA Z L M bA=>?_;unfold aE;simp only[al];unfold So.ends at a;have go:∀(B:aa),Mod (λb=>b=k) A B->B.size=A.size->au E B p dp (So.goes (t.first s)).1/\Step (λb=>F b\/cj k sw rs ss b) (λb=>E b\/cj k g j o b) H B:=λB m z=>
  ⟨pA.keep λb hb O=>m.same b O λq=>L b hb (.inl q),⟨M.mod.trans' m λb hb q=>(M.own b (.inr (.inl q))).resolve_right (by omega),M.own⟩⟩
 refine ag (λe=>?_) (λe=>?_)
 ·rw[if_pos (by simpa using e)] at a;refine aj.st Z.row (i:=7) (by simp[ir]) rfl λB P S T=>?_;obtain⟨U,V⟩:=go B S T;exact a E g j o B U P L V bA
 ·rw[if_neg (by simpa using e)] at a;refine aj.st Z.row (i:=8) (by simp[ir]) rfl λB P S T=>?_;obtain⟨U,V⟩:=go B S T;exact a E g j o B U P L V bA
end
theorem qd {P:Program}(w:World)(t ty e:TypeId)(i:TypeInfo)(z:P.underlying t=some (.slice e))(hi:P.info? e=some i)
  (g o b d:Nat) (cur:Array Value) (C:w.heap[g]?=some (.cells cur e (0,0)))
  (a:Addr) (m c:Nat) (news:List Value) (hl:news.length=m*i.size) (h:∀j u,news[j]?=some u->w.cell? (a.add j)=some u) (h1:∀u∈news,u.oneCell'=true)
  (q:b+m<=d) (x:o+b*i.size+news.length<=cur.size):
  (Oq #[t,t] ty #[.slice (some ⟨g,o,none⟩) b d,.slice (some a) m c]).run P w=
   .ok (.slice (some ⟨g,o,none⟩) (b+m) d) (w.setRow g (cur.toList.take (o+b*i.size)++news++cur.toList.drop (o+b*i.size+news.length)).toArray):=by
 have D:=run_firstCells_some (P:=P) w i.size m a m c news hl h;have y:=run_storeCells_at P g (o+b*i.size) e news 0 cur w C (by simpa using x) h1;simp only[RO] at y;simp[Oq,run_underlying z,sizeOf,typeInfo,hi,Wc,q,D,Addr.add_lit,y]
structure kS (H:aa)(s:Sl)(l:List ByteArray):Prop where
 n:s.n=l.length
 at_:(s=⟨none,0,0⟩/\l=[])\/∃g o cur,s.a=some ⟨g,o,none⟩/\H[g]?=some (.cells cur dy (0,0))/\s.n<=s.c/\s.c<=maxLen/\o+s.c<=cur.size/\(cur.toList.drop o).take s.n=l.map PQ
theorem kj (l:List ByteArray):jX.all l=l.map PQ:=by
 induction l with
 |nil=>rfl
 |cons a l b=>
   have:jX.all (a::l)=PQ a::jX.all l:=rfl;rw[this,b];rfl
section
variable {H B:aa}{s:Sl}{l:List ByteArray}
theorem kS.nil (H:aa):kS H (Sl.mk none 0 0) []:=⟨rfl,.inl ⟨rfl,rfl⟩⟩
theorem kS.of (h:az jX dy H s l):kS H s l:=by
 have j:=az.n h (by decide);refine⟨j,?_⟩;have b:=h.2;rw[kj] at b;have o:jX.size=1:=rfl;rw[o] at b;rcases b with ⟨e,y⟩|⟨g,cap,cur,e,_,q,d,x,z,i⟩
 ·left;refine⟨?_,OK (by omega)⟩;obtain⟨a,n,c⟩:=s;simp only[Sl.v,ON] at e;obtain⟨rfl,rfl,rfl⟩:=e;rfl
 ·right;obtain⟨a,n,c⟩:=s;simp only[Sl.v,ON] at e;obtain⟨rfl,_,rfl⟩:=e;simp only at d i ⊢;exact⟨g,0,cur,rfl,q,d,x,by omega,by rw[List.drop_zero];simpa using i⟩
theorem kS.cap (h:kS H s l):s.n<=s.c:=by
 rcases h.at_ with ⟨e,_⟩|⟨g,o,cur,_,_,a,_⟩
 ·rw[e];exact Ot _
 ·exact a
theorem kS.obj (h:kS H s l):∀b,ah s b->∃cur,H[b]?=some (.cells cur dy (0,0)):=by
 rintro b ⟨ad,a,rfl⟩;rcases h.at_ with ⟨e,_⟩|⟨g,o,cur,e,c,_⟩
 ·rw[e] at a;cases a
 ·rw[e] at a;cases a;exact⟨cur,c⟩
theorem kS.lt (h:kS H s l):∀b,ah s b->b<H.size:=λb a=>by
 obtain⟨cur,c⟩:=h.obj b a;exact(Array.getElem?_eq_some_iff.1 c).1
theorem kS.mod {G:Nat->Prop}(h:kS H s l)(m:Mod G H B)(a:∀b,ah s b->¬G b):kS B s l:=by
 refine⟨h.n,h.at_.imp id ?_⟩;rintro⟨g,o,cur,e,c,r⟩;have own:ah s g:=⟨_,e,rfl⟩;exact⟨g,o,cur,e,(m.same g (h.lt g own) (a g own)).trans c,r⟩
theorem kS.apart {base:Nat}{e:TypeId}{size:Nat}{s':Sl}{xs:List Value}(h:kS H s l)(k:aO H base e size s' xs)(a:dy≠e):∀b,ah s b->¬ah s' b:=λb h1 c=>by
 obtain⟨c1,d⟩:=h.obj b h1;obtain⟨c2,g⟩:=k.obj b c;exact a (aG d g)
theorem kS.rd (h:kS H s l):bQ jX H s.a l:=by
 intro i v a;rw[kj] at a;rcases h.at_ with ⟨_,e⟩|⟨g,o,cur,e,b,d,j,q,c⟩
 ·rw[e] at a;simp at a
 ·refine⟨_,e,?_⟩;rw[add_lit];refine cC b ?_;rw[<-c,List.getElem?_take] at a;split at a
  ·rw[PU] at a;simpa using a
  ·cases a
theorem kS.cut (h:kS H s l){k:Nat}(hk:k<=l.length):kS H ⟨cE s.a s.c k 1,s.n - k,s.c - k⟩ (l.drop k):=by
 have i:=h.n;refine⟨by rw[PF];show s.n - k=_;omega,?_⟩;rcases h.at_ with ⟨e,c⟩|⟨g,o,cur,e,b,x,y,z,d⟩
 ·subst c;have:k=0:=by simpa using hk
  subst this;left;rw[e];exact⟨rfl,rfl⟩
 ·right;have hd:∀j,(cur.toList.drop (o+j)).take (s.n - j)=(l.drop j).map PQ:=λj=>by
   rw[<-Ri,<-VC,d,List.map_drop]
  by_cases q:s.c=k
  ·have a:s.n - k=0:=by omega
   refine⟨g,o,cur,?_,b,by show s.n - k<=s.c - k;omega,by show s.c - k<=_;omega,by show o+(s.c - k)<=_;omega,?_⟩
   ·show cE s.a s.c k 1=_;unfold cE;rw[if_pos q];exact e
   ·show (cur.toList.drop o).take (s.n - k)=_;rw[<-hd k,a];rfl
  ·refine⟨g,o+k,cur,?_,b,by show s.n - k<=s.c - k;omega,by show s.c - k<=_;omega,by show o+k+(s.c - k)<=_;omega,hd k⟩;show cE s.a s.c k 1=_;unfold cE;rw[if_neg q,e];simp[add_lit]
theorem Cy {x:ByteArray}{p:Addr}{ty:TypeId}{K:Sl->aa->Prop}(h:kS H s l)(V:cI H p=some (.string x))(hl:l.length+1<=1000000)
  (N:∀s' B,kS B s' (l++[x])->Mod (ah s) H B->(∀b,ah s' b->ah s b\/H.size<=b)->K s' B):
  bf ak Oj (Oq #[dM,dM] ty #[s.v,.slice (some p) 1 1]) H K:=by
 rcases h.at_ with ⟨e,Z⟩|⟨g,o,cur,e,X,h3,h4,h5,h6⟩
 ·subst Z;subst e;refine az.append (E:=jX) (s:=Sl.mk none 0 0) (x:=⟨some p,1,1⟩) (l:=[]) (r:=[x]) Aj (az.nil _ _ _) (λi v G=>?_) rfl (by simp) (by simp) λs' B o g _=>N s' B (.of o) g.1 g.2;cases i with
  |zero=>
    rw[kj] at G;simp at G;subst G;exact⟨p,rfl,by rw[add_zero'];exact V⟩
  |succ i=>rw[kj] at G;simp at G
 obtain⟨inf,z,Y,hi,hz,O,hs,R,_⟩:=Aj;have y:=h.n;have hlen:(l.map PQ).length=s.n:=by rw[O7];exact y.symm
 intro w hw;subst hw;obtain⟨sa,a,q⟩:=s;simp only[Sl.v] at*;subst e;have c:∀j u,[PQ x][j]?=some u->w.cell? (p.add j)=some u:=λj u hu=>by
  cases j with
  |zero=>simp at hu;subst hu;rw[add_zero'];exact V
  |succ j=>simp at hu
 have h1:∀u∈[PQ x],u.oneCell'=true:=λu hu=>by rw[OH] at hu;subst hu;rfl
 by_cases d:a+1<=q
 ·have M:=qd (P:=Oj) w dM ty dy inf Y hi g o a q cur X p 1 1 [PQ x] (by rw[hs];rfl) c h1 d (by rw[hs];simp;omega);rw[hs,Pq] at M;refine⟨_,_,M,⟨⟨some ⟨g,o,none⟩,a+1,q⟩,rfl,N _ _ ⟨by rw[OU];show a+1=_;rw[y];rfl,.inr ⟨g,o,_,rfl,setRow_heap w g cur _ dy _ X,d,h4,?_,?_⟩⟩ ⟨by simp[World.setRow],λb _ I=>setRow_other w g b _ (λC=>I ⟨_,rfl,C.symm⟩)⟩ (λb I=>.inl ?_)⟩,(.of_le rfl (Ot _))⟩
  ·simp only[QC,OU,Pc,PF,QA,Ql];omega
  ·simp only;have af:(cur.toList.take (o+a)).length=o+a:=by rw[Pc,QA];omega
   rw[Pm,List.drop_append_of_le_length (by omega),VC,show o+a - o=a by omega,h6,O8,<-Pm,List.take_left' (by rw[OU,hlen];rfl)];rfl
  ·obtain⟨D,C,S⟩:=I;exact⟨D,C,S⟩
 ·have holds:∀j u,(l.map PQ)[j]?=some u->w.cell? ((⟨g,o,none⟩:Addr).add j)=some u:=λj u hu=>by
   obtain⟨D,C,hc⟩:=h.rd j u (by rw[kj];exact hu);cases C;exact hc
  have T:a+1<=maxLen:=by unfold maxLen;omega
  have M:=run_append_grow (P:=Oj) w dM ty dy inf z Y hi hz ⟨g,o,none⟩ a q (l.map PQ) (by rw[hs,Pq];exact hlen) holds p 1 1 [PQ x] (by rw[hs];rfl) c (by omega) (by omega) (growslice_fits (by omega) (by rw[R];omega));have U:=grownCap_ge w (a+1) q dy;have J:grownCap w (a+1) q dy<=maxLen:=grownCap_le_maxLen w (a+1) q dy T;refine⟨_,_,M,⟨⟨some ⟨w.heap.size,0,none⟩,a+1,grownCap w (a+1) q dy⟩,rfl,N _ _ (.of ?_) (Mod.push _ _ _) (λb I=>.inr ?_)⟩,(.of_le rfl (Ph _))⟩
  ·have L:(jX.all (l++[x])).length=(a+1)*1:=by rw[kj,O7,OU,Pq,y];rfl
   refine aO.fresh (size:=1) (OL _) U J ?_ L ?_
   ·simp only[Array.size_append,QC,size_zeroCells,O,hs,hlen,Ql];omega
   ·rw[<-L,kj,O8];simp only[Array.toList_append];exact List.take_left
  ·obtain⟨D,C,S⟩:=I;cases C;have:w.heap.size=b:=S;omega
theorem kS.push {x:ByteArray}{ty:TypeId}{K:Sl->aa->Prop}(h:kS H s l)(hl:l.length+1<=1000000)(c:∀s' B,kS B s' (l++[x])->Mod (ah s) H B->(∀b,ah s' b->ah s b\/H.size<=b)->K s' B):
  aJ H #[.string x] dy λp H1=>bf ak Oj (Oq #[dM,dM] ty #[s.v,.slice (some p) 1 1]) H1 K:=by
 refine av λA g d a=>?_;refine Cy (h.mod a λ_ _=>id) (by
  have:=d.cell (i:=0) (v:=.string x) rfl;exact this) hl λs' B o m w=>c s' B o ((Ext.mod a).trans' m λb _ q=>q) λb e=>(w b e).imp id λq=>by omega
end
theorem eS.get {X:Nat->Prop}{A:aa}{s:Sl}{ls:List (List Int)}{l:List Int}(h:eS X A s ls){i:Nat}(hi:ls[i]?=some l){K:Sl->Prop}(d:∀r,Ints .u64 A r l->(∀ad,r.a=some ad->ad.block<A.size/\¬X ad.block)->K r):
  ae s.a λa=>(0<=(i:Int)/\(i:Int)<(s.n:Int))/\Go.Proofs.YtmkbhnholcaghaaGreatDoor.ld ak A (a.add ((i:Int).toNat*1)) K:=by
 have y:=h.n;obtain⟨rs,o,hlen,e⟩:=h.ex;have g:=(Om.1 hi).1;have b:i<rs.length:=by omega
 obtain⟨ad,j,q⟩:=o.reads.at (i:=i) (by rw[O7];exact b);obtain⟨x,c⟩:=e i rs[i] l (On b) hi;refine aV ad j ⟨⟨by omega,by omega⟩,rs[i],?_,d _ x λad h1=>⟨(c ad h1).1,(c ad h1).2.1⟩⟩;rw[Ov,Pq];simpa using q
theorem ao.frames {F:Nat->Prop}{H:aa}{p dp:Nat}{s:Pl}(h:ao F H p dp s):s.fs.length<=4096:=OE h.wf.len h.wf.most.2
section
variable {A0:aa}{F:Nat->Prop}{p dp:Nat}{s:Pl}{name:ByteArray}{W:Int}{rows:Sl}{ls:List (List Int)}
set_option maxHeartbeats 1000000 in
theorem Dj {K:Int->aa->Prop}{x y:Nat}(hp:ao F A0 p dp s)(hr:eS F A0 rows ls)(hl:ls.length<=1000000)(V:∀l∈ls,l.length<=16)(X:name.size<=9223372036854775807)(b:Bd s x y)(hx:x<800000000000)(hy:y<50000000000)
  (c:∀F' B,ao F' B p dp (ie s name W ls).1->Step F F' A0 B->K (ie s name W ls).2 B):J0.sp (aE p) name W rows A0 K:=by
 refine J0.of ?_;unfold J0.vc;have q1:=b.lo;have q2:=b.hi;have q3:=b.aB;have bM:=b.make (n:=name) (W:=W) (by omega);unfold ie at c;refine xA hp X (by omega) (by omega) q1 b.fit (λY B p2 T I=>?_) (λY B kw w p2 T I w2 k1 k2=>?_)
 ·have U:=gR.1 I;rw[I] at c;refine ar 0 (λ_ z C=>z.1=(bj s name W).2.2/\C=B) ⟨rfl,rfl⟩ ?_;rintro i ⟨e,j⟩ C next hi ⟨he,rfl⟩ a
  simp only at he;subst he;refine aC (by rw[TQ];right;simpa using U) (aC (by simpa using U) ?_);exact c Y C p2 T
 obtain⟨U,hw,W0,Z⟩:=gR.2 w I;subst hw;rw[I] at c;simp only at c;generalize (bj s name W).1=s1 at*;rw[U];have a6:=hr.n;have J:∀b,dv kw bc bc b->b=kw:=by
  rintro b (q|q|q)
  ·exact q
  ·exact absurd q (aS b)
  ·exact absurd q (aS b)
 refine ar ls.length (λi z B=>(z.1≠0/\K z.1 B)\/(z.1=0/\z.2=(i:Int)/\∃F' s' w sw sl,ao F' B p dp s'/\rj B kw p w sw sl/\(∀b,F' b->¬dv kw sw sl b)/\(∀b,F' b\/dv kw sw sl b->F b\/A0.size<=b)/\Mod F A0 B/\Bd s' (x+1+i) (y+2+2*i)/\me w name i/\
   kV ls s1 (wb name W)=kV (ls.drop i) s' w)) (.inr ⟨rfl,rfl,Y,s1,wb name W,bc,bc,p2,w2,λb L q=>k2 ((J b q)▸L),λb L=>?_,T.mod,bM,wW name W0 Z,rfl⟩) ?_
 ·rcases L with q|q
  ·exact T.own b q
  ·have:=J b q;exact .inr (by omega)
 rintro i ⟨e,j⟩ B next hi hI a
 rcases hI with ⟨g,hk⟩|⟨g,hj,F',s',w,sw,sl,pB,wB,dB,M,N,E,G,D⟩
 ·exact aC (by rw[TQ];right;simpa using g) (aC (by simpa using g) hk)
 simp only at g hj;subst g;subst hj;have u1:=E.lo;have u2:=E.hi;have u3:=E.aB;have c1:=G.wait;have c2:=G.n;have c3:=G.rows;refine ag (λO=>?_) (λO=>?_)
 ·have h:i<ls.length:=by
   rw[OB] at O;have:(i:Int)<(rows.n:Int):=of_decide_eq_true O.1;omega
  have rX:=hr.step (X':=λb=>F' b\/dv kw sw sl b) ⟨N,M⟩;refine rX.get (On h) λr ri ro=>?_;rw[Pf h] at D;simp only[kV] at D;have a7:=V _ (Pa h);have af:=E.add (w:=w) (by omega) ls[i];have an:=(G.add s' ls[i]).1;refine BU wB pB dB ri (λad ha _ q=>(ro ad ha).2 (.inr q)) (λ_=>by omega) (by omega) (by omega) (by omega) (by rw[G.name];exact X) (by omega) (by omega) u1 E.fit λP R K9 C p3 w3 d3 S=>?_;have o3:∀b,P b\/dv kw R K9 b->F b\/A0.size<=b:=λb r=>by
   rcases S.own b r with u|u
   ·exact M b u
   ·have:=N.size;exact .inr (by omega)
  have m3:Mod F A0 C:=N.trans' S.mod λb L r=>(M b r).resolve_right (by omega);by_cases g:(w.add s' ls[i]).2.2=0
  ·rw[if_neg (by rw[g];simp)] at D;rw[g];exact a h _ C (.inr ⟨rfl,aD i (by omega),P,_,_,R,K9,p3,w3,d3,o3,m3,af.mono (by omega) (by omega),an,D⟩)
  ·rw[if_pos g] at D;rw[D] at c;unfold uY at c;rw[if_pos g] at c;exact a h _ C (.inl ⟨g,c P C p3 ⟨m3,λb r=>o3 b (.inl r)⟩⟩)
 ·have a1:i=ls.length:=by
   rw[TQ] at O;have:¬(i:Int)<(rows.n:Int):=O.elim of_decide_eq_false λq=>by simp at q
   omega
  subst a1;rw[RK] at D;simp only[kV] at D;rw[D] at c;unfold uY at c;rw[if_neg (by simp)] at c;have o:=E.out (w:=w) (by omega);have o1:=o.hi;have I:=o.aB;refine aP rfl ?_;refine vl wB pB dB (by omega) G.width.1 (by rw[G.name];exact X) (by omega) (by omega) u1 E.fit (by omega) (by omega) (λz d=>by have:=(Bd.leave ((o.bt (n:=w.b.name) (by omega) 0).set z 2 d) z).aB;omega) o.fit (λz d=>(Bd.leave ((o.bt (n:=w.b.name) (by omega) 0).set z 2 d) z).fit) λP a8 C p3 w3 d3 S=>?_;refine c P C p3 ⟨N.trans' S.mod λb L r=>(M b r).resolve_right (by omega),λb r=>?_⟩;rcases S.own b (.inl r) with u|u
  ·exact M b u
  ·have:=N.size;exact .inr (by omega)
end
theorem BY:∀n:Nat,n<10->bytesOf [48+(n:Int)]=mg n:=by decide+kernel
theorem HC:∀n:Nat,n<100->9<n->mg (n/10)++bytesOf [48+((n%10:Nat):Int)]=mg n:=by decide+kernel
theorem Gg:∀k:Nat,k<10->Pn.wrap (Ol.wrap (48+(k:Int)))=48+(k:Int):=by decide+kernel
section
variable {H:aa}{k p dp:Nat}{t:So}{sw ss:Sl}{rs:List Sl}{F:Nat->Prop}{s:Pl}
theorem yU {n:Nat}{K:ByteArray->aa->Prop}(g:n<100)(b:∀B,Ext H B->K (bytesOf [48+((n%10:Nat):Int)]) B):
  aJ H #[(.int .u8 (Pn.wrap (Ol.wrap ((48:Int)+(PE (n:Int) (10:Int))))))] fD λp H1=>vU H1 (some p) 1 λ(s:ByteArray)=>K s H1:=by
 have c:PE (n:Int) 10=((n%10:Nat):Int):=by rw[Int.tmod_eq_emod_of_nonneg (by omega)];omega
 rw[c,Gg _ (Tm _ (by decide))];refine u4 (k:=.u8) [48+((n%10:Nat):Int)] λp B _ _ d e=>?_;exact K0 (s:=Sl.mk (some p) 1 1) (d 1) (λx a=>by rw[OH] at a;subst a;omega) (b B e)
theorem Cn {n:Nat}{K:ByteArray->aa->Prop}(b:n<100)(d:∀B,Ext H B->K (mg n) B):Gq.sp (n:Int) H K:=by
 refine Gq.of ?_;unfold Gq.vc;refine yU b λB e=>?_;refine ag (λc=>?_) λc=>?_
 ·have a:9<n:=by have:(n:Int)>9:=of_decide_eq_true c;omega
  have g:Ol.wrap (Pe (n:Int) 10)=((n/10:Nat):Int):=by
   rw[Int.tdiv_eq_ediv_of_nonneg (by omega),wrap64 (by omega) (by omega)];omega
  rw[g];refine Gq.of ?_;unfold Gq.vc;refine yU (by omega) λC h=>?_;refine aC (decide_eq_false (by omega)) ?_;rw[SK (by omega:n/10<10),BY (n/10) (by omega)];have e2:=HC n b a;have:=cN b;refine⟨?_,?_⟩
  ·rw[<-e2,Sf] at this;omega
  ·rw[e2];exact d C (e.trans h)
 ·have a:n<10:=by have:¬(n:Int)>9:=of_decide_eq_false c;omega
  rw[SK a,BY n a];exact d B e
structure nu (H:aa)(k p:Nat)(t:So)(sw:Sl)(rs:List Sl)(ss:Sl):Prop where
 row:aj H k yY (ir p t sw ss)
 wait:aN H 0 sw rs t.wait
 side:kS H ss t.side
 iF:∀l∈t.wait,l.length<=16
theorem nu.jK (h:nu H k p t sw rs ss):¬ah sw k:=λq=>by
 obtain⟨cur,a⟩:=h.wait.out.obj k q;exact absurd (aG a h.row) (by decide)
theorem nu.jz (h:nu H k p t sw rs ss):∀x∈rs,¬ah x k:=λx a q=>by
 obtain⟨l,hl⟩:=h.wait.rowAt a;obtain⟨cur,b⟩:=hl.obj k q;exact absurd (aG b h.row) (by decide)
theorem nu.nU (h:nu H k p t sw rs ss):¬ah ss k:=λq=>by
 obtain⟨cur,a⟩:=h.side.obj k q;exact absurd (aG a h.row) (by decide)
theorem nu.lt (h:nu H k p t sw rs ss):∀b,cj k sw rs ss b->b<H.size:=by
 rintro b (q|q|⟨x,a,q⟩|q)
 ·subst q;exact aA h.row
 ·exact(h.wait.block.1 b q).2
 ·exact(h.wait.block.2 x a b q).2
 ·exact h.side.lt b q
theorem nu.mod {G:Nat->Prop}{H':aa}(h:nu H k p t sw rs ss)(m:Mod G H H')(c:∀b,cj k sw rs ss b->¬G b):nu H' k p t sw rs ss:=
 ⟨h.row.mod m (c k (.inl rfl)),h.wait.mod m (λb a=>c b (.inr (.inl a))) λx d b a=>c b (.inr (.inr (.inl ⟨x,d,a⟩))),h.side.mod m λb a=>c b (.inr (.inr (.inr a))),h.iF⟩
theorem nu.ext {H':aa}(h:nu H k p t sw rs ss)(e:Ext H H'):nu H' k p t sw rs ss:=h.mod e λ_ _=>id
theorem jm {K:Int->aa->Prop}(h:aj H k yY (ir p t sw ss))(a:K t.ready H):Hz.sp (aE k) H K:=by
 refine Hz.of ?_;unfold Hz.vc;unfold So.ready at a;unfold aE;simp only[al];refine h.ld (c:=ab .i64) (i:=7) (x:=t.wrong) rfl ?_;refine ag (λd=>?_) (λd=>?_)
 ·refine h.ld (c:=ab .i64) (i:=7) (x:=t.wrong) rfl ?_;rw[if_pos (by simpa using d)] at a;exact a
 ·rw[if_neg (by simpa using d)] at a;refine h.ld (c:=ay) (i:=8) (x:=t.closed) rfl ?_;cases b:t.closed with
  |true=>rw[b,if_pos rfl] at a;exact a
  |false=>rw[b,if_neg (by simp)] at a;exact a
theorem xo {K:ByteArray->aa->Prop}(h:aj H k yY (ir p t sw ss))(d:t.next<100)(hs:t.name.size<=1000000)
  (o:∀H',aj H' k yY (ir p (t.to (t.next+1)) sw ss)->Mod (λb=>b=k) H H'->K (bV t.name t.next) H'):Iu.sp (aE k) H K:=by
 refine Iu.of ?_;unfold Iu.vc;unfold aE;simp only[al];refine h.ld (c:=ab .i64) (i:=6) (x:=(t.next:Int)) rfl ?_;rw[aD t.next (by omega)];refine aj.st h (i:=6) (by simp[ir]) rfl λH1 y m1 C=>?_;have a:aj H1 k yY (ir p (t.to (t.next+1)) sw ss):=y;have h1:KZ.size=1:=rfl;refine⟨λA=>aj A k yY (ir p (t.to (t.next+1)) sw ss),a,?_⟩;refine aj.dt (c:=aH) (i:=1) (x:=t.name) (cs:=λ_=>_) (λ_ q=>q) (λ_ _=>rfl) ?_;have z:t.name.size+(O2 #[126]).size<=1000001:=by show t.name.size+1<=_;omega
 refine⟨by omega,?_⟩;refine a.ld (c:=ab .i64) (i:=6) (x:=((t.next+1:Nat):Int)) rfl ?_;have e:Ol.wrap (((t.next+1:Nat):Int) - 1)=(t.next:Int):=by rw[wrap64 (by omega) (by omega)];omega
 rw[e];refine Cn d λB g=>?_;have j:=a.ext g;refine⟨j,?_,o B j (m1.trans (g.mono λ_ _ q=>q.elim))⟩;have:=cN d;rw[Sf];omega
end
section
variable {H:aa}{k p dp:Nat}{t:So}{sw ss:Sl}{rs:List Sl}{F:Nat->Prop}{s:Pl}
theorem EM {K:Int->Prop}(h:ao F H p dp s)(b:K (s.most:Int)):ae (aE p) λa=>Go.Proofs.YtmkbhnholcaghaaGreatDoor.ld (ab .i64) H (a.add 1) K:=by
 obtain⟨ll,zs,D,g,d⟩:=h;refine aV ⟨p,0,none⟩ rfl ?_;exact g.pool.head.ld (c:=ab .i64) (i:=1) (x:=(s.most:Int)) rfl b
theorem ux {n:ByteArray}{W fr:Int}{K:(Option Addr×Int)->aa->Prop}(g:ao F H p dp s)
  (a:(ig s n W fr).1=none->K (none,(ig s n W fr).2) H) (c:(ig s n W fr).1=some (GV n W fr)->(ig s n W fr).2=0->∀H',Ext H H'->H.size<H'.size->nu H' H.size p (GV n W fr) bc [] bc->K (aE H.size,0) H'):Js.sp (aE p) n W fr H K:=by
 refine Js.of ?_;unfold Js.vc;unfold ig at a c;refine aC rfl ?_;refine fe ?_;refine ag (λb=>?_) (λb=>?_)
 ·have h1:aF W=0:=by simpa using b
  rw[if_pos h1] at a;exact a rfl
 have h1:aF W≠0:=by simpa using b
 rw[if_neg h1] at a c;refine ag (λb=>?_) (λb=>?_)
 ·have d:fr<3:=by simpa using b
  rw[if_pos (.inl d)] at a;exact a rfl
 have d:¬fr<3:=by simpa using b
 refine EM g ?_;refine ag (λb=>?_) (λb=>?_)
 ·have e:fr>s.most:=by simpa using b
  rw[if_pos (.inr e)] at a;exact a rfl
 have e:¬fr>s.most:=by simpa using b
 rw[if_neg (λq=>q.elim d e)] at c;refine av λH1 j h i=>?_;exact c rfl rfl H1 i (by omega) ⟨h,aN.nil _ _,kS.nil _,λl hl=>(by cases hl)⟩
set_option maxHeartbeats 1000000 in
theorem vt {K:Int->aa->Prop}{x y:Nat}(h:nu H k p t sw rs ss)(hp:ao F H p dp s)(dis:∀b,F b->¬cj k sw rs ss b)(M:vQ t)(hw:t.wait.length<=900)(b:Bd s x y)(z:x<800000000000)(hy:y<50000000000)
  (hK:∀F' d H',ao F' H' p dp (t.aside s).1->nu H' k p {t.iN with wrong:=if (t.aside s).2.2=0 then t.wrong else (t.aside s).2.2} bc [] d->(∀b,F' b->¬cj k bc [] d b)->Step (λb=>F b\/cj k sw rs ss b) (λb=>F' b\/cj k bc [] d b) H H'->K (t.aside s).2.2 H'):Gr.sp (aE k) H K:=by
 refine Gr.of ?_;unfold Gr.vc;refine xo h.row M.next M.name λA U R=>?_;unfold aE;simp only[al];have J:=h.jK;have e:=h.nU;have hk:=aA h.row;have zA:=R.size;refine⟨λC=>aj C k yY (ir p (t.to (t.next+1)) sw ss),U,?_⟩;refine aj.dt (c:=aw) (i:=0) (x:=aE p) (cs:=λ_=>_) (λ_ q=>q) (λ_ _=>rfl) ?_;refine aj.dt (c:=ab .i64) (i:=2) (x:=t.width) (cs:=λ_=>_) (λ_ q=>q) (λ_ _=>rfl) ?_;refine U.ld (c:=ak) (i:=4) (x:=sw) rfl ?_;have wA:aN A 0 sw rs t.wait:=h.wait.mod R (λb a q=>J (q▸a)) λx z b a q=>h.jz x z (q▸a);have pA:ao F A p dp s:=hp.keep λb a hl=>R.same b hl λq=>dis b a (.inl q);refine Av (X:=F) wA.rows hw (λl hl=>by have:=h.iF l hl;omega) (λb a=>pA.lt b a) λout B rp S ob=>?_;have rB:=U.ext S;have zB:=S.size;refine⟨rB,?_⟩;have a1:=jN t.wait;refine Dj (pA.ext S) rp (by omega) (λl hl=>h.iF l (mW.1 hl)) (by have:=cN M.next;have:=M.name;rw[dU];omega) b z hy λF' C pC L=>?_;have zC:=L.mod.size;have o:¬F k:=λq=>dis k q (.inl rfl);refine aj.st (rB.mod L.mod o) (i:=4) (by simp[ir]) rfl λD rD mD zD=>?_;refine rD.ld (c:=ak) (i:=5) (x:=ss) rfl ?_;have j:Mod (λb=>F b\/b=k) H D:=(((R.mono λb _ q=>.inr q).trans' S λb _ q=>q.elim).trans' L.mod λb _ q=>.inl q).trans' mD λb _ q=>.inr q;have sD:kS D ss t.side:=h.side.mod j λb a q=>q.elim (λu=>dis b u (.inr (.inr (.inr a)))) λu=>e (u▸a);refine kS.push (x:=bV t.name t.next) sD (by have:=M.side;omega) λd E oE T V=>?_;have g:¬ah d k:=λq=>by
  rcases V k q with r|r
  ·exact e r
  ·have:=j.size;omega
 refine aj.st (rD.mod T e) (i:=5) (by simp[ir]) rfl λG rG Y zG=>?_;have N:aj G k yY (ir p t.iN bc d):=rG;have a6:=j.size;have zE:=T.size;have O:∀b,F' b->¬cj k bc [] d b:=by
  rintro b a (q|q|⟨x,z,_⟩|q)
  ·subst q;rcases L.own _ a with r|r
   ·exact o r
   ·omega
  ·exact aS b q
  ·cases z
  ·have bl:=pC.lt b a;rcases V b q with r|r
   ·have:=h.side.lt b r;rcases L.own b a with u|u
    ·exact dis b u (.inr (.inr (.inr r)))
    ·omega
   ·omega
 have Z:Mod (λb=>F b\/cj k sw rs ss b) H G:=((j.mono λb _ q=>q.imp id .inl).trans' T λb _ q=>.inr (.inr (.inr (.inr q)))).trans' Y λb _ q=>.inr (.inl q);have fin:∀(wr:Int) (I:aa),wr=(if (t.aside s).2.2=0 then t.wrong else (t.aside s).2.2)->Mod (λb=>b=k) G I->aj I k yY (ir p {t.iN with wrong:=wr} bc d)->K (t.aside s).2.2 I:=λwr I af P rI=>by
  have an:Mod (λb=>cj k sw rs ss b) C I:=(((mD.mono λb _ q=>.inl q).trans' T λb _ q=>.inr (.inr (.inr q))).trans' Y λb _ q=>.inl q).trans' P λb _ q=>.inl q;subst af;refine hK F' d I (pC.keep λb a hl=>an.same b hl λq=>?_) ⟨rI,aN.nil _ _,(oE.mod Y λb a q=>g (q▸a)).mod P λb a q=>g (q▸a),λl hl=>(by cases hl)⟩ O ⟨Z.trans' P λb _ q=>.inr (.inl q),λb a=>?_⟩
  ·have:=h.lt b q;rcases L.own b a with u|u
   ·exact dis b u q
   ·omega
  ·rcases a with u|u|u|⟨x,z,_⟩|u
   ·exact(L.own b u).imp .inl λv=>by omega
   ·exact .inl (.inr (.inl u))
   ·exact absurd u (aS b)
   ·cases z
   ·exact(V b u).imp (λv=>.inr (.inr (.inr (.inr v)))) λv=>by omega
 have e2:(ie s (bV t.name t.next) t.width (eQ (jR t.wait))).2=(t.aside s).2.2:=rfl;rw[e2];refine ag (λhc=>?_) λhc=>?_
 ·have e0:(t.aside s).2.2≠0:=by simpa using hc
  refine aj.st N (i:=7) (by simp[ir]) rfl λI rI P zI=>?_;exact fin (t.aside s).2.2 I (by rw[if_neg e0]) P rI
 ·have e0:(t.aside s).2.2=0:=by simpa using hc
  exact fin t.wrong G (by rw[if_pos e0]) (.refl _ _) N
set_option maxHeartbeats 1000000 in
theorem HH {K:Int->aa->Prop}{l:Sl}{ll:List Int}{x y:Nat}(h:nu H k p t sw rs ss)(U:ao F H p dp s)(dis:∀b,F b->¬cj k sw rs ss b)(R:vQ t)(a8:t.wait.length<800)(hW:t.width<=16)(hl:Ints .u64 H l ll)(b:Bd s x y)(o:x<800000000000)(hy:y<50000000000)
  (j:∀F' N O P H',ao F' H' p dp (t.add s ll).1->nu H' k p (t.add s ll).2.1 N O P->(∀b,F' b->¬cj k N O P b)->Step (λb=>F b\/cj k sw rs ss b) (λb=>F' b\/cj k N O P b) H H'->K (t.add s ll).2.2 H'):CV.sp (aE k) l H K:=by
 refine CV.of ?_;unfold CV.vc;unfold So.add at j;refine jm h.row ?_;unfold aE;simp only[al];refine ag (λz=>?_) (λz=>?_)
 ·rw[if_pos (by simpa using z)] at j;exact j F sw rs ss H U h dis (.refl _ _)
 have e:¬t.ready≠0:=by simpa using z
 rw[if_neg e] at j;have V:t.wrong=0:=by
  unfold So.ready at e;by_cases q:t.wrong=0
  ·exact q
  ·rw[if_pos q] at e;exact absurd q e
 refine h.row.ld (c:=ab .i64) (i:=2) (x:=t.width) rfl ?_;have S:=hl.len;refine ag (λz=>?_) (λz=>?_)
 ·have X:(ll.length:Int)≠t.width:=by rw[<-S];simpa using z
  rw[if_pos X] at j;exact j F sw rs ss H U h dis (.refl _ _)
 have X:¬(ll.length:Int)≠t.width:=by rw[<-S];simpa using z
 rw[if_neg X] at j;have Y:ll.length<=16:=by omega
 refine uv.append (base:=0) (s:=Sl.mk none 0 0) (x:=l) (xs:=[]) (ws:=ll.map (OF .u64)) (aO.nil _ _ _ _) (by simp;omega) hl.reads (ph _ _) (by simp only;omega) (by simp only;omega) (OL _) λr A n3 Z mA T _=>?_;have eA:Ext H A:=mA.ext (by rintro b ⟨ad,h,_⟩;cases h);have Z:aO A 0 iV 1 r (ll.map (OF .u64)):=Z;have T:∀b,ah r b->H.size<=b:=λb a=>(T b a).resolve_left (aS b);have G:=h.ext eA;have hk:=aA h.row;have bb:=h.wait.n;refine G.row.ld (c:=ak) (i:=4) (x:=sw) rfl ?_;refine aN.Gn (base:=0) G.wait Z (λx o b a af=>?_) (by omega) (OL _) λs' B n1 o1 m1 g1=>?_
 ·have:=T b a;have:=(h.wait.block.2 x o b af).2;omega
 have E:=G.jK;have zA:=eA.size;have I:¬ah s' k:=λq=>by
  rcases g1 k q with r|r
  ·exact E r
  ·omega
 refine aj.st (G.row.mod m1 E) (i:=4) (by simp[ir]) rfl λC rC mC zC=>?_;obtain⟨t1,d⟩:∃t1:So,t1={t with wait:=t.wait++[ll]}:=⟨_,rfl⟩;rw[<-d] at j;have J:aj C k yY (ir p t1 s' ss):=by rw[d];exact rC
 have iL:∀x∈rs++[r],¬ah x k:=λx o q=>by
  rcases Ox.1 o with u|u
  ·exact G.jz x u q
  ·rw[OH] at u;subst u;have:=T k q;omega
 have hC:nu C k p t1 s' (rs++[r]) ss:=by
  refine⟨J,?_,?_,?_⟩
  ·rw[d];exact o1.mod mC (λb a q=>I (q▸a)) λx o b a q=>iL x o (q▸a)
  ·rw[d];exact(G.side.mod m1 λb a q=>G.side.apart G.wait.out (by decide) b a q).mod mC λb a q=>G.nU (q▸a)
  ·rw[d];intro x o;rcases Ox.1 o with u|u
   ·exact h.iF x u
   ·rw[OH] at u;subst u;exact Y
 have z1:=m1.size;have L:Mod (λb=>b=k\/ah sw b) H C:=((Ext.mod eA).trans' m1 λb _ q=>.inr q).trans' mC λb _ q=>.inl q;have g:∀b,cj k s' (rs++[r]) ss b->cj k sw rs ss b\/H.size<=b:=by
  rintro b (q|q|⟨x,o,q⟩|q)
  ·exact .inl (.inl q)
  ·rcases g1 b q with u|u
   ·exact .inl (.inr (.inl u))
   ·exact .inr (by omega)
  ·rcases Ox.1 o with u|u
   ·exact .inl (.inr (.inr (.inl ⟨x,u,q⟩)))
   ·rw[OH] at u;subst u;exact .inr (T b q)
  ·exact .inl (.inr (.inr (.inr q)))
 have M:∀b,F b->¬cj k s' (rs++[r]) ss b:=λb a q=>by
  rcases g b q with u|u
  ·exact dis b a u
  ·have:=U.lt b a;omega
 have pC:ao F C p dp s:=U.keep λb a an=>L.same b an λq=>dis b a (q.imp_right .inl);refine⟨λA=>aj A k yY (ir p t1 s' ss),J,?_⟩;refine aj.dt (c:=ak) (i:=4) (x:=s') (cs:=λ_=>_) (λ_ q=>q) (λ_ _=>rfl) ?_;refine aj.dt (c:=ab .i64) (i:=3) (x:=t.frames) (cs:=λ_=>_) (λ_ q=>q) (λ_ _=>by rw[d];rfl) ?_;refine J.ld (c:=ab .i64) (i:=2) (x:=t.width) (by rw[d];rfl) ?_;refine fe ⟨J,?_⟩;obtain⟨a1,bd⟩:=c6 ⟨t.name,t.width,0,false⟩;simp only at a1;have hf:=R.frames;have p1:t.frames*aF t.width<=1000000*504:=Int.mul_le_mul hf.2 (by omega) (by omega) (by decide);have p0:0<=t.frames*aF t.width:=Int.mul_nonneg hf.1 (by omega);rw[wrap64 (by omega) (by omega)];have zH:=L.size;refine ag (λz=>?_) (λz=>?_)
 ·have e2:((t.wait.length+1:Nat):Int)<t.frames*aF t.width:=by
   have:(s'.n:Int)<t.frames*aF t.width:=by simpa using z
   omega
  rw[if_pos e2] at j;refine j F s' (rs++[r]) ss C pC hC M ⟨L.mono λb _ q=>.inr (q.imp_right .inl),λb a=>?_⟩;rcases a with u|u
  ·exact .inl (.inl u)
  ·exact(g b u).imp .inr id
 ·have e2:¬((t.wait.length+1:Nat):Int)<t.frames*aF t.width:=by
   have:¬(s'.n:Int)<t.frames*aF t.width:=by simpa using z
   omega
  rw[if_neg e2] at j;have a6:vQ t1:=by rw[d];exact⟨R.name,by simp;omega,R.side,R.sizes,R.next,R.frames⟩
  refine vt hC pC M a6 (by rw[d];simp;omega) b o hy λF2 a7 D pD hD dD SD=>?_;have ew:(if (t1.aside s).2.2=0 then t1.wrong else (t1.aside s).2.2)=(t1.aside s).2.2:=by
   split
   ·rename_i q;rw[q,d];exact V
   ·rfl
  rw[ew] at hD;refine j F2 bc [] a7 D pD hD dD ⟨(L.mono λb _ q=>.inr (q.imp_right .inl)).trans' SD.mod λb a q=>q.imp_right λu=>(g b u).resolve_right (by omega),λb a=>?_⟩;rcases SD.own b a with (u|u)|u
  ·exact .inl (.inl u)
  ·exact(g b u).imp .inr id
  ·exact .inr (by omega)
theorem ya {names:Sl}{ns:List ByteArray}{x y:Nat}{K:Int->aa->Prop}(P:aj H k yY (ir p t sw ss))(hk:¬F k)(R:ao F H p dp s)(S:names.n=ns.length)(D:∀A,Mod F H A->bQ jX A names.a ns)(hl:ns.length<=1000000)(b:Bd s x y)(U:y<60000000000)
  (o:∀F' H',ao F' H' p dp (jk ns s).1->Step F F' H H'->K (jk ns s).2 H'):IF.sp (aE k) names H K:=by
 refine IF.of ?_;unfold IF.vc;refine ar ns.length (λi z B=>z=(i:Int)/\∃F' s',ao F' B p dp s'/\Step F F' H B/\Bd s' x y/\jk ns s=jk (ns.drop i) s') ⟨rfl,F,s,R,.refl _ _,b,rfl⟩ ?_;rintro i z B next hi ⟨rfl,T,s2,p2,j,L,a⟩ d
 have vZ:=P.mod j.mod hk;refine ag (λg=>?_) (λg=>?_)
 ·have h:i<ns.length:=by
   have:(i:Int)<(names.n:Int):=by simpa using g
   omega
  rw[Pf h] at a;simp only[jk] at a;unfold aE;simp only[al];refine vZ.ld (c:=aw) (i:=0) (x:=aE p) rfl ?_;have q:=bQ.one (E:=jX) (c:=aH) (s:=names) (D B j.mod) S rfl (On h) rfl (K:=λG=>Hd.sp (aE p) G B λ(e:Int) M=>br (e !=(0:Int)) (K e M) (next (Ol.wrap ((i:Int)+(1:Int))) M)) (by
   refine Dt p2 (by have:=L.aB;omega) λN C p3 O=>?_;refine ag (λg=>?_) λg=>?_
   ·have I:(s2.cV ns[i]).2≠0:=by simpa using g
    rw[if_pos I] at a;rw[a] at o;exact o N C p3 (j.trans O)
   ·have I:¬(s2.cV ns[i]).2≠0:=by simpa using g
    rw[if_neg I] at a;rw[aD i (by omega)];exact d h _ C ⟨rfl,N,_,p3,j.trans O,L.cV,a⟩)
  simpa only[al] using q
 ·have J:i=ns.length:=by
   have:¬(i:Int)<(names.n:Int):=by simpa using g
   omega
  subst J;rw[RK] at a;simp only[jk] at a;rw[a] at o;exact o T B p2 j
end
theorem ao.My {F:Nat->Prop}{H:aa}{p dp:Nat}{s:Pl}(h:ao F H p dp s):s.d.WF:=by
 obtain⟨ll,zs,D,g,a⟩:=h;exact g.cw.wf
section
variable {p dp:Nat}{W:Int}
theorem qK:∀{ns:List ByteArray} {s:Pl} {x y:Nat} {F:Nat->Prop} {A:aa},ao F A p dp s->Bd s x y->x+ns.length<900000000000->y+ns.length<60000000000->(∀n∈ns,n.size<=9223372036854775807)->bJ (aW W ns s).2.1<=ns.length*((aF W).toNat*1048576)
 |[],s,x,y,F,A,_,_,_,_,_=>by simp[aW,bJ]
 |n::ns,s,x,y,F,A,c,b,d,g,hs=>by
   rw[O3] at d g ⊢;have h:=b.lo;have o:=b.hi;have q:=b.aB;have z:=(b.look (n:=n) (by omega) 0).aB;have ⟨F',B,a⟩:∃F' B,ao F' B p dp (rnOpen s n W).1:=ai.pure (H:=A) (xS (W:=W) c (hs n OO) (by omega) (by omega) h (by omega) (λF' B p1 i _=>⟨F',B,p1⟩) λF' B k r p1 i _ _ _ _=>⟨F',B,p1⟩);simp only[aW];split
   ·simp[bJ]
   ·rename_i r e;have h1:=qu e a.My;have j:=qK (x:=x+1) (y:=y+1) (ns:=ns) a (b.open (n:=n) (W:=W) (by omega)) (by omega) (by omega) λm hm=>hs m (OM _ hm);simp only[bJ,OJ,Py] at j ⊢;rw[Px];omega
end
def AM (p dp:Nat)(W:Int)(S N:Nat):Prop:=∀(F:Nat->Prop) (A:aa) (s:Pl) (x y:Nat) (l:List ByteArray),ao F A p dp s->Bd s x y->x<800000000000->y<50000000000->l.length<=S->(∀n∈l,n.size<=9223372036854775807)->bJ (aW W l s).2.1<=N
theorem KQ {p dp S N:Nat}{W:Int}(c:S<=100000)(h:S*((aF W).toNat*1048576)<=N):AM p dp W S N:=λF A s x y l a b d e hl hs=>
 OE (OE (qK (x:=x) (y:=y) a b (by omega) (by omega) hs) (OZ _ hl)) h
theorem So.ou:∀(f:Nat) (t:So) (s:Pl),(t.rounds f s).2.1.wrong=t.wrong/\(t.rounds f s).2.1.closed=t.closed
 |0,t,s=>⟨rfl,rfl⟩
 |f+1,t,s=>by
   simp only[So.rounds];split
   ·split
    ·exact⟨rfl,rfl⟩
    ·exact So.ou f _ _
   ·exact⟨rfl,rfl⟩
theorem So.AK (t:So)(s:Pl):(So.goes (t.first s)).2.1.wrong=t.wrong:=by
 have h1:(t.first s).2.1.wrong=t.wrong:=by
  unfold So.first;split<;>rfl
 unfold So.goes;split
 ·exact h1
 ·have a:=(So.ou (t.first s).2.1.side.length (t.first s).2.1 (t.first s).1).1;unfold So.last;split
  ·exact a.trans h1
  ·exact a.trans h1
section
variable {H:aa}{k p dp:Nat}{t:So}{sw ss:Sl}{rs:List Sl}{F:Nat->Prop}{s:Pl}
theorem xY {a:Sl}{n b:Nat}(h:cj k sw rs a b)(hs:∀b,ah a b->ah ss b\/n<=b):cj k sw rs ss b\/n<=b:=by
 rcases h with q|q|q|q
 ·exact .inl (.inl q)
 ·exact .inl (.inr (.inl q))
 ·exact .inl (.inr (.inr (.inl q)))
 ·exact(hs b q).imp (λu=>.inr (.inr (.inr u))) id
set_option maxRecDepth 100000 in
set_option maxHeartbeats 4000000 in
theorem Im {K:(Int×Int)->aa->Prop}{x y N R:Nat}(h:nu H k p t sw rs ss)(hp:ao F H p dp s)(dis:∀b,F b->¬cj k sw rs ss b)(hz:vQ t)(hw:t.wait.length<=900)(b6:t.wrong=0)(dc:t.next+t.side.length+2<=100)(dk:3<=t.frames)(b:Bd s x y)(hR:t.side.length+2<=R)(dn:N<=1000000000)(hx:x+400010+R*(2*N+3000)<=600000000000)(hy:y+805000+R*(3*N+9000)<=39000000000)
  (hle:AM p dp t.width (t.side.length+1) N)
  (V:∀F' t' o z j H',ao F' H' p dp (So.goes (t.first s)).1->nu H' k p t' o z j->((So.goes (t.first s)).2.2.2=0->t'.wrong=0)->(∀b,F' b->¬cj k o z j b)->Step (λb=>F b\/cj k sw rs ss b) (λb=>F' b\/cj k o z j b) H H'->K ((if (So.goes (t.first s)).2.2.2=0 then ((So.goes (t.first s)).2.2.1:Int) else 0),(So.goes (t.first s)).2.2.2) H'):J1.sp (aE k) H K:=by
 refine J1.of ?_;unfold J1.vc;unfold aE;simp only[al];have b7:=h.wait.n;refine⟨λ_ B=>(t.first s).2.2=0/\∃F' o z j,ao F' B p dp (t.first s).1/\nu B k p (t.first s).2.1 o z j/\(∀b,F' b->¬cj k o z j b)/\Step (λb=>F b\/cj k sw rs ss b) (λb=>F' b\/cj k o z j b) H B/\Bd (t.first s).1 (x+400010) (y+805000)/\vQ (t.first s).2.1/\(t.first s).2.1.next+(t.first s).2.1.side.length<=100/\(t.first s).2.1.frames=t.frames/\(t.first s).2.1.side.length<=t.side.length+1/\(t.first s).2.1.width=t.width/\(t.first s).2.1.wrong=0,?_,?_⟩
 ·have aside:∀(Kb:Int->aa->Prop),(t.wait≠[]\/t.side=[])->(∀e B,e≠0->K (0,e) B->Kb e B)->(∀B,((t.first s).2.2=0/\∃F' o z j,ao F' B p dp (t.first s).1/\nu B k p (t.first s).2.1 o z j/\(∀b,F' b->¬cj k o z j b)/\Step (λb=>F b\/cj k sw rs ss b) (λb=>F' b\/cj k o z j b) H B/\Bd (t.first s).1 (x+400010) (y+805000)/\vQ (t.first s).2.1/\(t.first s).2.1.next+(t.first s).2.1.side.length<=100/\(t.first s).2.1.frames=t.frames/\(t.first s).2.1.side.length<=t.side.length+1/\(t.first s).2.1.width=t.width/\(t.first s).2.1.wrong=0)->Kb 0 B)->
    Gr.sp (some ⟨k,0,none⟩) H Kb:=λKb L k1 k2=>by
   have ef:t.first s=t.aside s:=if_pos L;rw[ef] at V k2;refine vt h hp dis hz hw b (by omega) (by omega) λF' j B pB g dB SB=>?_;have dD:=jN t.wait;have bd:Bd (t.aside s).1 (x+400010) (y+805000):=(sx b (by omega) pB.frames).mono (by omega) (by omega);by_cases e0:(t.aside s).2.2=0
   ·rw[if_pos e0] at g;have g:nu B k p (t.aside s).2.1 bc [] j:=g;rw[e0];refine k2 B ⟨e0,F',bc,[],j,pB,g,dB,SB,bd,⟨hz.name,OL _,?_,λn hn=>?_,?_,hz.frames⟩,?_,rfl,?_,rfl,b6⟩
    ·show (t.side++[_]).length<=1000;simp;omega
    ·rcases Ox.1 (show n∈t.side++[bV t.name t.next] from hn) with u|u
     ·exact hz.sizes n u
     ·rw[OH] at u;subst u;have:=cN hz.next;have:=hz.name;rw[dU];omega
    ·show t.next+1<100;omega
    ·show t.next+1+(t.side++[_]).length<=100;simp;omega
    ·show (t.side++[_]).length<=t.side.length+1;simp
   ·have eg:So.goes (t.aside s)=((t.aside s).1,(t.aside s).2.1,0,(t.aside s).2.2):=by unfold So.goes;rw[if_pos e0]
    rw[eg] at V;have q:=V F' _ bc [] j B pB g (λu=>absurd u e0) dB SB;rw[if_neg e0] at q;exact k1 _ B e0 q
  refine h.row.ld (c:=ak) (i:=4) (x:=sw) rfl ?_;refine ag (λL=>?_) (λL=>?_)
  ·have hw:t.wait≠[]:=λq=>by rw[q] at b7;rw[b7] at L;simp at L
   exact aside _ (.inl hw) (λe B e0 q=>aP (by simpa using e0) q) λB q=>aC rfl q
  ·have hw:t.wait=[]:=by
    have:¬(sw.n:Int)>0:=by simpa using L
    exact OK (by omega)
   refine h.row.ld (c:=ak) (i:=5) (x:=ss) rfl ?_;have hn:=h.side.n;refine ag (λL=>?_) (λL=>?_)
   ·have hs:t.side=[]:=by
     have:(ss.n:Int)=0:=by simpa using L
     exact OK (by omega)
    exact aside _ (.inr hs) (λe B e0 q=>aP (by simpa using e0) q) λB q=>aC rfl q
   ·have hs:t.side≠[]:=λq=>by rw[q] at hn;rw[hn] at L;simp at L
    have ef:t.first s=(s,t,0):=if_neg (by rintro(q|q);exact q hw;exact hs q);rw[ef];exact⟨rfl,F,sw,rs,ss,hp,h,dis,.refl _ _,b.mono (by omega) (by omega),hz,by show t.next+t.side.length<=100;omega,rfl,Ph _,rfl,b6⟩
 ·rintro _ A ⟨e0,F1,cm,cx,cy,pA,sA,dA,SA,bA,zA,nA,fA,lA,wA,vA⟩;have eg:So.goes (t.first s)=So.last ((t.first s).2.1.rounds (t.first s).2.1.side.length (t.first s).1):=if_neg (by rw[e0];simp);rw[eg] at V;generalize hl:(t.first s).2.1.side.length=f0 at*;have cz:(t.first s).2.1.side.length<=f0:=UA hl;have b9:f0+1<=R:=by omega
  generalize (t.first s).2.1=t1 at*;generalize (t.first s).1=s1 at*;have hmul:(f0+1)*(2*N+3000)<=R*(2*N+3000):=OZ _ b9;have b0:(f0+1)*(3*N+9000)<=R*(3*N+9000):=OZ _ b9;rw[Px] at hmul b0;refine⟨Nat,λf _ B=>∃F' o z j t' s' xx yy,ao F' B p dp s'/\nu B k p t' o z j/\(∀b,F' b->¬cj k o z j b)/\Step (λb=>F b\/cj k sw rs ss b) (λb=>F' b\/cj k o z j b) H B/\Bd s' xx yy/\xx+f*(2*N+3000)<=x+400010+f0*(2*N+3000)/\yy+f*(3*N+9000)<=y+805000+f0*(3*N+9000)/\vQ t'/\t'.next+t'.side.length<=100/\t'.frames=t.frames/\t'.side.length<=f/\f<=f0/\t'.width=t.width/\t'.wrong=0/\t1.rounds f0 s1=t'.rounds f s',λf=>f,
   ⟨f0,F1,cm,cx,cy,t1,s1,x+400010,y+805000,pA,sA,dA,SA,bA,Ot _,Ot _,zA,by rw[hl];exact nA,fA,cz,Ot _,wA,vA,rfl⟩,?_⟩
  rintro f _ B ⟨X,M,O,a,t2,s2,xx,yy,pB,g,dB,SB,bB,bx,cB,Y,nB,fB,lB,ff,wB,vB,eB⟩;have cb:=g.side.n;have dT:=g.side.cap;have hf:=Y.frames;have ea:=aA g.row;have a1:=g.jK;have S:=g.nU;have eb:=SB.mod.size;have P:¬X k:=λq=>dB k q (.inl rfl);refine g.row.ld (c:=ak) (i:=5) (x:=a) rfl ?_;refine g.row.ld (c:=ab .i64) (i:=3) (x:=t2.frames) rfl ?_;refine ag (λL=>?_) (λL=>?_)
  ·have c0:t2.frames<=(t2.side.length:Int):=by
    have:(a.n:Int)>=t2.frames:=by simpa using L
    omega
   cases f with
   |zero=>exact absurd lB (by omega)
   |succ f=>
   rw[Px] at bx cB;have er:t2.rounds (f+1) s2=if (t2.round s2).2.2.2≠0 then ((t2.round s2).1,(t2.round s2).2.1,(t2.round s2).2.2.2) else So.rounds f {(t2.round s2).2.1 with side:=t2.side.drop (t2.frames - 1).toNat++[bV t2.name t2.next]} (t2.round s2).1:=if_pos c0
   have ee:t2.next<98:=by omega
   have ec:Ol.wrap (t2.frames - 1)=(((t2.frames - 1).toNat:Nat):Int):=by rw[wrap64 (by omega) (by omega)];omega
   obtain⟨c,bn⟩:∃c,c=(t2.frames - 1).toNat:=⟨_,rfl⟩;rw[<-bn] at er;have ei:c<t2.side.length:=by omega
   have c3:(t2.side.take c).length=c:=by rw[Pc];omega
   have bD:∀n∈t2.side.take c,n.size<=9223372036854775807:=λn hn=>Y.sizes n (Pu hn);have a6:bJ (aW t2.width (t2.side.take c) s2).2.1<=N:=by
    rw[wB];exact hle X B s2 xx yy _ pB bB (by omega) (by omega) (by omega) bD
   refine g.row.ld (c:=ak) (i:=5) (x:=a) rfl ?_;refine g.row.ld (c:=ab .i64) (i:=3) (x:=t2.frames) rfl ?_;rw[ec,<-bn];refine⟨⟨by omega,by omega⟩,?_⟩;simp only[Ov,TP,Bo];refine az.append (E:=jX) (s:=Sl.mk none 0 0) (x:=⟨a.a,c,a.c⟩) (l:=[]) (r:=t2.side.take c) Aj (az.nil _ _ _) g.side.rd.take c3.symm (by simp;omega) (by simp;omega) λfirst C oC gC _=>?_
   have eC:Ext B C:=gC.1.ext (by rintro b ⟨ad,h,_⟩;cases h);have oC:az jX dy C first (t2.side.take c):=oC
   have nC:∀b,ah first b->B.size<=b:=λb d=>(gC.2 b d).resolve_left (aS b)
   have zC:=eC.size;have fn:first.n=(t2.side.take c).length:=az.n oC (by decide);refine xo (g.row.ext eC) (by omega) Y.name λD rD mD=>?_;have zD:=mD.size;have ck:∀b,ah first b->b≠k:=λb d q=>by have:=nC b d;omega
   have oD:az jX dy D first (t2.side.take c):=oC.mod mD λb d=>ck b d
   have pD:ao X D p dp s2:=(pB.ext eC).keep λb d a7=>mD.same b a7 λq=>P (q▸d);refine rD.ld (c:=aw) (i:=0) (x:=aE p) rfl ?_;refine rD.ld (c:=ab .i64) (i:=2) (x:=t2.width) rfl ?_;have a8:∀b,ah first b->¬X b:=λb d q=>by have:=nC b d;have:=pB.lt b q;omega
   have c4:∀A,Mod X D A->bQ jX A first.a (t2.side.take c):=λA m=>az.rd (E:=jX) (oD.mod m a8);have bN:(bV t2.name t2.next).size<=9223372036854775807:=by have:=cN Y.next;have:=Y.name;rw[dU];omega
   refine pX pD fn c4 bD bN bB (by omega) (by omega) (by omega) a6 (by omega) (by omega) (by omega) λF3 E pE SE=>?_;have bM:=mO (to:=bV t2.name t2.next) (W:=t2.width) bB (by omega) (by omega) a6 pE.frames;have ed:t2.round s2=((fX (t2.side.take c) (cO s2 (t2.side.take c) (bV t2.name t2.next) t2.width)).1,{t2.to (t2.next+1) with side:=t2.side.drop c},(cO s2 (t2.side.take c) (bV t2.name t2.next) t2.width).2.1,(fX (t2.side.take c) (cO s2 (t2.side.take c) (bV t2.name t2.next) t2.width)).2):=by
    rw[bn];rfl
   rw[ed] at er;generalize cO s2 (t2.side.take c) (bV t2.name t2.next) t2.width=m at*;refine⟨λe I=>e=(fX (t2.side.take c) m).2/\∃U,ao U I p dp (fX (t2.side.take c) m).1/\Step X U D I/\Bd (fX (t2.side.take c) m).1 (xx+2*N+3000) (yy+3*N+9000),?_,?_⟩
   ·refine ag (λL=>?_) λL=>?_
    ·have T:m.2.2=0:=by simpa using L
     have ed:fX (t2.side.take c) m=jk (t2.side.take c) m.1:=if_neg (by rw[T];simp);rw[ed];have Z:¬F3 k:=λq=>(SE.own k q).elim P λu=>by omega
     refine ya (rD.mod SE.mod P) Z pE fn (λA m2=>az.rd (E:=jX) ((oD.mod SE.mod a8).mod m2 λb d q=>(SE.own b q).elim (a8 b d) λu=>by have:=oD.lt b d;omega)) (by omega) bM (by omega) λU I p4 S4=>⟨rfl,U,p4,SE.trans S4,yG bM⟩
    ·have T:m.2.2≠0:=by simpa using L
     have ed:fX (t2.side.take c) m=(m.1,m.2.2):=if_pos T;rw[ed];exact⟨rfl,F3,pE,SE,bM⟩
   ·rintro e I ⟨he,U,p4,S4,b4⟩;have zI:=S4.mod.size;have rI:=rD.mod S4.mod P;have b1:∀b,ah a b->b≠k/\¬X b:=λb d=>⟨λq=>S (q▸d),λq=>dB b q (.inr (.inr (.inr d)))⟩;have b2:Mod (λb=>X b\/b=k) B I:=((Ext.mod eC).trans' mD λb _ q=>.inr q).trans' S4.mod λb _ q=>.inl q;have bO:∀b,U b->X b\/B.size<=b:=λb d=>(S4.own b d).imp id λu=>by omega
    have d4:∀b,U b->¬cj k M O a b:=λb d q=>(bO b d).elim (λu=>dB b u q) λu=>by have:=g.lt b q;omega
    have af:∀b,cj k M O a b->b≠k->¬(X b\/b=k):=λb d hn q=>q.elim (λu=>dB b u d) hn;have qI:nu I k p (t2.to (t2.next+1)) M O a:=⟨rI,g.wait.mod b2 (λb d=>af b (.inr (.inl d)) λq=>a1 (q▸d)) λx hx b d=>af b (.inr (.inr (.inl ⟨x,hx,d⟩))) λq=>g.jz x hx (q▸d),g.side.mod b2 λb d=>af b (.inr (.inr (.inr d))) λq=>S (q▸d),g.iF⟩;have SI:Step (λb=>F b\/cj k sw rs ss b) (λb=>U b\/cj k M O a b) H I:=by
     refine⟨SB.mod.trans' b2 λb d q=>?_,λb d=>?_⟩
     ·have:X b\/cj k M O a b:=q.elim .inl λu=>.inr (.inl u);exact(SB.own b this).resolve_right (by omega)
     ·rcases d with u|u
      ·rcases bO b u with v|v
       ·exact SB.own b (.inl v)
       ·exact .inr (by omega)
      ·exact SB.own b (.inr u)
    refine ag (λL=>?_) λL=>?_
    ·have T:e≠0:=by simpa using L
     rw[if_pos (by simp only;rw[<-he];exact T)] at er;rw[eB,er] at V;unfold So.last at V;rw[if_pos (by simp only;rw[<-he];exact T)] at V;simp only at V;rw[<-he] at V;have q:=V U _ M O a I p4 qI (λu=>absurd u T) d4 SI;rw[if_neg T] at q;exact q
    ·have T:e=0:=by simpa using L
     rw[if_neg (by simp only;rw[<-he,T];simp)] at er;refine rI.ld (c:=ak) (i:=5) (x:=a) rfl ?_;refine rI.ld (c:=ab .i64) (i:=3) (x:=t2.frames) rfl ?_;rw[ec,<-bn];refine⟨⟨by omega,by omega⟩,?_⟩;simp only[Ov];refine aj.st rI (i:=5) (by simp[ir]) rfl λI1 r1 m1 z1=>?_;have c5:kS I1 ⟨cE a.a a.c c 1,a.n - c,a.c - c⟩ (t2.side.drop c):=(qI.side.mod m1 λb d=>(b1 b d).1).cut (by show c<=t2.side.length;omega);refine r1.ld (c:=ak) (i:=5) (x:=⟨cE a.a a.c c 1,a.n - c,a.c - c⟩) rfl ?_;refine kS.push (x:=bV t2.name t2.next) c5 (by rw[PF];have:=Y.side;omega) λbs G oG mG gG=>?_;have an:∀b,ah (⟨cE a.a a.c c 1,a.n - c,a.c - c⟩:Sl) b->ah a b:=λb d=>Br d;have zG:=mG.size;have bb:∀b,ah bs b->ah a b\/B.size<=b:=λb d=>(gG b d).imp (an b) λu=>by omega
     have k5:¬ah bs k:=λq=>(bb k q).elim S λu=>by omega
     have rG:aj G k yY (ir p {t2.to (t2.next+1) with side:=t2.side.drop c} M ⟨cE a.a a.c c 1,a.n - c,a.c - c⟩):=r1.mod mG λq=>S (an k q);refine aj.st rG (i:=5) (by simp[ir]) rfl λJ rJ mJ zJ=>?_;have bC:Mod (λb=>b=k\/ah a b) I J:=((m1.mono λb _ q=>.inl q).trans' mG λb _ q=>.inr (an b q)).trans' mJ λb _ q=>.inl q;have ej:=bC.size;have b3:∀b,ah M b->¬(b=k\/ah a b):=λb d q=>q.elim (λu=>a1 (u▸d)) λu=>g.side.apart g.wait.out (by decide) b u d;have b5:∀x∈O,∀b,ah x b->¬(b=k\/ah a b):=λx hx b d q=>q.elim (λu=>g.jz x hx (u▸d)) λu=>by
      obtain⟨l,hl⟩:=g.wait.rowAt hx;exact g.side.apart hl (by decide) b u d
     have sJ:nu J k p {t2.to (t2.next+1) with side:=t2.side.drop c++[bV t2.name t2.next]} M O bs:=⟨rJ,qI.wait.mod bC b3 b5,oG.mod mJ λb d q=>k5 (q▸d),g.iF⟩;refine⟨f,⟨U,M,O,bs,_,(fX (t2.side.take c) m).1,xx+2*N+3000,yy+3*N+9000,p4.keep λb d a7=>bC.same b a7 λq=>?_,sJ,λb d q=>?_,⟨SI.mod.trans' bC λb d q=>?_,λb d=>?_⟩,b4,by omega,by omega,⟨Y.name,Y.wait,?_,λn hn=>?_,by show t2.next+1<100;omega,Y.frames⟩,?_,fB,?_,by omega,wB,vB,?_⟩,RI _⟩
     ·exact d4 b d (q.elim .inl λu=>.inr (.inr (.inr u)))
     ·rcases xY q bb with u|u
      ·exact d4 b d u
      ·have:=p4.lt b d;rcases q with v|v|v|v
       ·have:=g.lt b (.inl v);omega
       ·have:=g.lt b (.inr (.inl v));omega
       ·have:=g.lt b (.inr (.inr (.inl v)));omega
       ·rcases gG b v with w|w
        ·exact d4 b d (.inr (.inr (.inr (an b w))))
        ·omega
     ·have:X b\/cj k M O a b:=.inr (q.elim .inl λu=>.inr (.inr (.inr u)));exact(SB.own b this).resolve_right (by omega)
     ·rcases d with u|u
      ·exact SI.own b (.inl u)
      ·rcases xY u bb with v|v
       ·exact SI.own b (.inr v)
       ·exact .inr (by omega)
     ·show (t2.side.drop _++[_]).length<=1000;have:=Y.side;simp;omega
     ·rcases Ox.1 (show n∈t2.side.drop c++[bV t2.name t2.next] from hn) with u|u
      ·exact Y.sizes n (Q0 u)
      ·rw[OH] at u;subst u;exact bN
     ·show t2.next+1+(t2.side.drop _++[_]).length<=100;simp;omega
     ·show (t2.side.drop _++[_]).length<=f;simp;omega
     ·rw[eB,er]
  ·have a7:¬t2.frames<=(t2.side.length:Int):=by
    have:¬(a.n:Int)>=t2.frames:=by simpa using L
    omega
   have er:t2.rounds f s2=(s2,t2,0):=by
    cases f with
    |zero=>rfl
    |succ f=>exact if_neg a7
   rw[eB,er] at V;have a6:bJ (aW t2.width t2.side s2).2.1<=N:=by
    rw[wB];exact hle X B s2 xx yy _ pB bB (by omega) (by omega) (by omega) Y.sizes
   have ed:So.last (s2,t2,0)=((fX t2.side (cO s2 t2.side t2.name t2.width)).1,{t2 with side:=t2.side.drop t2.side.length},(cO s2 t2.side t2.name t2.width).2.1,(fX t2.side (cO s2 t2.side t2.name t2.width)).2):=by
    unfold So.last;rw[if_neg (by simp)];show t2.merge s2 t2.side.length t2.name=_;unfold So.merge;rw[List.take_length]
   rw[ed] at V;simp only at V;refine g.row.ld (c:=aw) (i:=0) (x:=aE p) rfl ?_;refine g.row.ld (c:=ak) (i:=5) (x:=a) rfl ?_;refine g.row.ld (c:=aH) (i:=1) (x:=t2.name) rfl ?_;refine g.row.ld (c:=ab .i64) (i:=2) (x:=t2.width) rfl ?_;have:0<=f*(2*N+3000):=OL _;have:0<=f*(3*N+9000):=OL _;have bl:∀b,ah a b->¬X b:=λb d q=>dB b q (.inr (.inr (.inr d)));have ek:=Y.side;refine pX pB cb (λA m=>(g.side.mod m bl).rd) Y.sizes (by have:=Y.name;omega) bB (by omega) (by omega) (by omega) a6 (by omega) (by omega) (by omega) λF3 E pE SE=>?_;have bM:=mO (to:=t2.name) (W:=t2.width) bB (by omega) (by omega) a6 pE.frames;generalize cO s2 t2.side t2.name t2.width=m at*;have Z:¬F3 k:=λq=>(SE.own k q).elim P λu=>by omega
   refine⟨λe I=>e=(fX t2.side m).2/\∃U,ao U I p dp (fX t2.side m).1/\Step X U B I,?_,?_⟩
   ·refine ag (λL=>?_) λL=>?_
    ·have T:m.2.2=0:=by simpa using L
     have ed:fX t2.side m=jk t2.side m.1:=if_neg (by rw[T];simp);rw[ed];have rE:=g.row.mod SE.mod P;refine rE.ld (c:=ak) (i:=5) (x:=a) rfl ?_;refine ya rE Z pE cb (λA m2=>((g.side.mod SE.mod bl).mod m2 λb d q=>(SE.own b q).elim (bl b d) λu=>by have:=g.side.lt b d;omega).rd) (by omega) bM (by omega) λU I p4 S4=>⟨rfl,U,p4,SE.trans S4⟩
    ·have T:m.2.2≠0:=by simpa using L
     have ed:fX t2.side m=(m.1,m.2.2):=if_pos T;rw[ed];exact⟨rfl,F3,pE,SE⟩
   ·rintro e I ⟨he,U,p4,S4⟩;rw[<-he] at V;have q:=V U t2 M O a I p4 (g.mod S4.mod λb d q=>dB b q d) (λ_=>vB) (λb d q=>(S4.own b d).elim (λu=>dB b u q) λu=>by have:=g.lt b q;omega) ⟨SB.mod.trans' S4.mod λb d q=>(SB.own b (.inl q)).resolve_right (by omega),λb d=>?_⟩
    ·refine ag (λL=>?_) λL=>?_
     ·have T:e≠0:=by simpa using L
      rw[if_neg T] at q;exact q
     ·have T:e=0:=by simpa using L
      rw[if_pos T] at q;rw[T] at q;exact q
    ·rcases d with u|u
     ·rcases S4.own b u with v|v
      ·exact SB.own b (.inl v)
      ·exact .inr (by omega)
     ·exact SB.own b (.inr u)
set_option maxRecDepth 100000 in
theorem Fq {K:(Int×Int)->aa->Prop}{x y N R:Nat}(h:nu H k p t sw rs ss)(hp:ao F H p dp s)(dis:∀b,F b->¬cj k sw rs ss b)(hz:vQ t)(hw:t.wait.length<=900)(S:t.next+t.side.length+2<=100)(X:3<=t.frames)(b:Bd s x y)(hR:t.side.length+2<=R)(Y:N<=1000000000)(Z:x+400010+R*(2*N+3000)<=600000000000)(hy:y+805000+R*(3*N+9000)<=39000000000)
  (hle:AM p dp t.width (t.side.length+1) N)
  (e:∀F' j G I J H',ao F' H' p dp (t.done s).1->nu H' k p j G I J->j.ready=(t.done s).2.1.ready->(t.done s).2.1.ready≠0->(∀b,F' b->¬cj k G I J b)->Step (λb=>F b\/cj k sw rs ss b) (λb=>F' b\/cj k G I J b) H H'->K (((t.done s).2.2.1:Int),(t.done s).2.2.2) H'):DV.sp (aE k) H K:=by
 refine DV.of ?_;unfold DV.vc;refine jm h.row ?_;unfold So.done at e;refine ag (λL=>?_) (λL=>?_)
 ·have M:t.ready≠0:=by simpa using L
  rw[if_pos M] at e;exact e F t sw rs ss H hp h rfl M dis (.refl _ _)
 have M:¬t.ready≠0:=by simpa using L
 rw[if_neg M] at e;have T:t.wrong=0:=by
  unfold So.ready at M;by_cases q:t.wrong=0
  ·exact q
  ·rw[if_pos q] at M;exact absurd q M
 have gw:=So.AK t s;refine Im h hp dis hz hw T S X b hR Y Z hy hle λV j a o c A pA C vA dA SA=>?_;unfold aE;simp only[al];unfold So.ends at e;have O:=C.jK;have P:=C.nU;have go:∀(B:aa) (d:So),d.wait=j.wait->d.side=j.side->aj B k yY (ir p d a c)->Mod (λb=>b=k) A B->B.size=A.size->nu B k p d a o c/\ao V B p dp (So.goes (t.first s)).1/\Step (λb=>F b\/cj k sw rs ss b) (λb=>V b\/cj k a o c b) H B:=λB d ew es U m z=>
  ⟨⟨U,by rw[ew];exact C.wait.mod m (λb D q=>O (q▸D)) λx Z b D q=>C.jz x Z (q▸D),by rw[es];exact C.side.mod m λb D q=>P (q▸D),by rw[ew];exact C.iF⟩,pA.keep λb D af=>m.same b af λq=>dA b D (.inl q),⟨SA.mod.trans' m λb D q=>(SA.own b (.inr (.inl q))).resolve_right (by omega),SA.own⟩⟩
 generalize So.goes (t.first s)=g at*;refine ag (λL=>?_) (λL=>?_)
 ·have E:g.2.2.2≠0:=by simpa using L
  rw[if_pos E] at e;refine aj.st C.row (i:=7) (by simp[ir]) rfl λB U mB zB=>?_;obtain⟨q0,q1,q2⟩:=go B {j with wrong:=g.2.2.2} rfl rfl U mB zB;have r1:({j with wrong:=g.2.2.2}:So).ready=g.2.2.2:=by unfold So.ready;exact if_pos E
  have r2:({g.2.1 with wrong:=g.2.2.2}:So).ready=g.2.2.2:=by unfold So.ready;exact if_pos E
  exact e V _ a o c B q1 q0 (r1.trans r2.symm) (by rw[r2];exact E) dA q2
 ·have E:g.2.2.2=0:=by simpa using L
  rw[if_neg (by rw[E];simp)] at e;rw[if_pos E];refine aj.st C.row (i:=8) (by simp[ir]) rfl λB U mB zB=>?_;obtain⟨q0,q1,q2⟩:=go B {j with closed:=true} rfl rfl U mB zB;have v1:=vA E;have r1:({j with closed:=true}:So).ready=2:=by unfold So.ready;rw[if_neg (by simp only;rw[v1];simp)];rfl
  have r2:({g.2.1 with closed:=true}:So).ready=2:=by unfold So.ready;rw[if_neg (by simp only;rw[gw,T];simp)];rfl
  exact e V _ a o c B q1 q0 (r1.trans r2.symm) (by rw[r2];decide) dA q2
end
abbrev LH:=Int×ByteArray×Int×Int×Int
section
variable {H A:aa}{script:Sl}{xs:List LH}{R:Bool->aa->Prop}
end
structure cv (V:aa)(Kp:Nat->Prop)(H0 A:aa)(X1 X2:Nat->Prop):Prop where
 ext:Ext H0 A
 n1:∀b,X1 b->H0.size<=b
 n2:∀b,X2 b->H0.size<=b
 dis:∀b,X1 b->¬X2 b
 kept:∀b,Kp b->b<A.size/\A[b]?=V[b]?/\¬X1 b/\¬X2 b
section
variable {V H0 A B:aa}{Kp X1 X2 X':Nat->Prop}
theorem cv.oS (h:cv V Kp H0 A X1 X2)(S:Step X1 X' A B)(e:∀b,X2 b->b<A.size):cv V Kp H0 B X' X2:=by
 have z:=h.ext.size;refine⟨⟨OE z S.mod.size,λb a _=>(S.mod.same b (by omega) λq=>by have:=h.n1 b q;omega).trans (h.ext.same b a id)⟩,λb a=>?_,h.n2,λb a q=>?_,λb a=>?_⟩
 ·rcases S.own b a with u|u
  ·exact h.n1 b u
  ·omega
 ·rcases S.own b a with u|u
  ·exact h.dis b u q
  ·have:=e b q;omega
 ·obtain⟨c,g,d,i⟩:=h.kept b a;exact⟨P3 c S.mod.size,(S.mod.same b c d).trans g,λq=>(S.own b q).elim d λu=>by omega,i⟩
theorem cv.lK (h:cv V Kp H0 A X1 X2)(S:Step X2 X' A B)(e:∀b,X1 b->b<A.size):cv V Kp H0 B X1 X':=by
 have z:=h.ext.size;refine⟨⟨OE z S.mod.size,λb a _=>(S.mod.same b (by omega) λq=>by have:=h.n2 b q;omega).trans (h.ext.same b a id)⟩,h.n1,λb a=>?_,λb a q=>?_,λb a=>?_⟩
 ·rcases S.own b a with u|u
  ·exact h.n2 b u
  ·omega
 ·rcases S.own b q with u|u
  ·exact h.dis b a u
  ·have:=e b a;omega
 ·obtain⟨c,g,i,d⟩:=h.kept b a;exact⟨P3 c S.mod.size,(S.mod.same b c d).trans g,i,λq=>(S.own b q).elim d λu=>by omega⟩
theorem cv.other {G:Nat->Prop}(h:cv V Kp H0 A X1 X2)(m:Mod G A B)(d:∀b,b<H0.size->¬G b)(hk:∀b,Kp b->¬G b):cv V Kp H0 B X1 X2:=
 ⟨⟨OE h.ext.size m.size,λb a _=>(m.same b (P3 a h.ext.size) (d b a)).trans (h.ext.same b a id)⟩,h.n1,h.n2,h.dis,λb a=>by
   obtain⟨c,e,g,i⟩:=h.kept b a;exact⟨P3 c m.size,(m.same b c (hk b a)).trans e,g,i⟩⟩
theorem cv.go (h:cv V Kp H0 A X1 X2)(e:Ext A B):cv V Kp H0 B X1 X2:=h.other e (λ_ _=>id) λ_ _=>id
theorem cv.sub {Y1 Y2:Nat->Prop}(h:cv V Kp H0 A X1 X2)(s1:∀b,Y1 b->X1 b)(s2:∀b,Y2 b->X2 b):cv V Kp H0 A Y1 Y2:=⟨h.ext,λb a=>h.n1 b (s1 b a),λb a=>h.n2 b (s2 b a),λb a q=>h.dis b (s1 b a) (s2 b q),λb a=>by
 obtain⟨c,d,e,g⟩:=h.kept b a;exact⟨c,d,λq=>e (s1 b q),λq=>g (s2 b q)⟩⟩
theorem cv.more {a:Nat->Prop}(h:cv V Kp H0 A X1 X2)(c:∀b,a b->Kp b\/b<A.size/\¬X1 b/\¬X2 b):cv A a H0 A X1 X2:=⟨h.ext,h.n1,h.n2,h.dis,λb d=>by
 rcases c b d with u|⟨u,v,w⟩
 ·obtain⟨e,_,g,i⟩:=h.kept b u;exact⟨e,rfl,g,i⟩
 ·exact⟨u,rfl,v,w⟩⟩
end
section
variable {H A:aa}{R:Bool->aa->Prop}
set_option maxHeartbeats 2000000 in
theorem DC {quota pool fr wd q keep:Int}{K:(Option Addr×Option Addr×Option Addr×Option Addr)->aa->Prop}(hg:Gl H)(hq:quota<=9223372036854775807)(hp:q<=9223372036854775807)
  (hK:∀B dp dm p m o z h j,j<12->cv H (λ_=>False) H B o z->au o B p dp (tV h (8+j))->ao z B m dm (tV h (8+j))->h.aB=0->K (aE dp,aE dm,aE p,aE m) B):Kh.sp quota pool fr wd q keep H K:=by
 refine Kh.of ?_;unfold Kh.vc;refine av λA z0 y I=>?_;obtain⟨E,J⟩:∃E,E=H.size:=⟨_,rfl⟩;rw[<-J] at y ⊢;refine⟨λB=>aj B E Ed #[(.int .i64 quota),(.int .i64 pool),(.int .i64 fr),(.int .i64 wd),(.int .i64 q),(.int .u64 keep)],y,?_⟩;refine y.ld (c:=ab .i64) (i:=0) (x:=quota) rfl ?_;refine Gt hq λL d H1 a1 M f1=>?_;have r1:=y.ext M;refine⟨r1,?_⟩;refine aj.dt (c:=ab .i64) (i:=0) (x:=quota) (cs:=λ_=>_) (λ_ q=>q) (λ_ _=>rfl) ?_;refine IQ hq λN n H2 a2 e2 f2=>?_;have r2:=r1.ext e2;have an:=aA y;have C:=I.size;have z1:=M.size;have z2:=e2.size;have D:bo L H2 d (ry quota):=a1.keep λb e a=>e2.same b a id;have l1:=a1.lt;refine⟨λ_ B=>∃h O G,bo O B d h/\cq G B n h/\cv A (λ_=>False) A B O G/\h.aB=0,?_,?_⟩
 ·have g0:cv A (λ_=>False) A H2 L N:=⟨M.trans e2,f1,λb e=>OE z1 (f2 b e),λb e P=>by have:=l1 b e;have:=f2 b P;omega,λ_ q=>q.elim⟩;refine r2.ld (c:=ab .i64) (i:=4) (x:=q) rfl ?_;refine ag (λS=>?_) (λS=>⟨_,L,N,D,a2,g0,rfl⟩);refine r2.ld (c:=ab .i64) (i:=4) (x:=q) rfl ?_;refine r2.ld (c:=ab .u64) (i:=5) (x:=keep) rfl ?_;refine Gz D hp λT A1 c1 U=>?_;have g1:=g0.oS U a2.lt;have k2:cq N A1 n (ry quota):=a2.keep λb e a=>U.mod.same b a λu=>g0.dis b u e;have r3:=r2.mod U.mod λu=>by have:=g0.n1 E u;omega
  refine r3.ld (c:=ab .i64) (i:=4) (x:=q) rfl ?_;refine r3.ld (c:=ab .u64) (i:=5) (x:=keep) rfl ?_;refine DB k2 hp λX A2 c2 S2=>?_;exact⟨_,T,X,c1.keep λb e a=>S2.mod.same b a λu=>g1.dis b e u,c2,g1.lK S2 c1.lt,by rw[Dk.tS];rfl⟩
 rintro _ B ⟨h,O,G,b1,b2,g,Y⟩;have gB:Gl B:=hg.mod (I.trans g.ext) id;have a6:=hg.lt;have rB:=y.ext g.ext;refine rB.ld (c:=ab .i64) (i:=1) (x:=pool) rfl ?_;refine yc (by omega) ?_;rw[if_neg (by omega)];obtain⟨j,hj⟩:∃j:Nat,pool.emod 12=(j:Int):=⟨(pool.emod 12).toNat,(VN (UF pool (by decide))).symm⟩;have af:(j:Int)<12:=hj▸U0 pool (by decide);rw[hj,wrap64 (by omega) (by omega)];have hm:(8:Int)+(j:Int)=((8+j:Nat):Int):=by omega
 rw[hm];refine tG gB b1 (λu=>by have:=g.n1 _ u;omega) (by omega) (by omega) λo p B1 h1 x1 w1=>?_;have Z:=b2.lt;have g2:cv A (λ_=>False) A B1 o G:=g.oS ⟨x1.mono λ_ _ u=>u.elim,w1⟩ Z;refine FE (b2.keep λb e a=>x1.same b a id) (by omega) (by omega) λz m B2 h2 x2 w2=>?_;have g3:cv A (λ_=>False) A B2 o z:=g2.lK ⟨x2.mono λ_ _ u=>u.elim,w2⟩ h1.lt;exact hK B2 d n p m o z h j (by omega) ⟨I.trans g3.ext,λb e=>OE C (g3.n1 b e),λb e=>OE C (g3.n2 b e),g3.dis,λ_ q=>q.elim⟩ (h1.ext x2) h2 Y
set_option maxHeartbeats 2000000 in
theorem CI {V H0:aa}{Kp:Nat->Prop}{dp dm p m:Nat}{F1 F2:Nat->Prop}{s:Pl}{K:Bool->aa->Prop}(h:cv V Kp H0 A F1 F2)(c1:au F1 A p dp s)(c2:ao F2 A m dm s)(hg:Gl H0)(a7:s.next<1099511627776)(hl:s.d.aB<68719476736)
  (hK:∀B,Ext H0 B->K true B):IK.sp (aE dp) (aE dm) (aE p) (aE m) A K:=by
 refine IK.of ?_;unfold IK.vc;have gA:Gl A:=hg.mod h.ext id;obtain⟨D1,P,i1,_⟩:=c1.cw gA;obtain⟨D2,a2,i2,_⟩:=c2.cw;obtain⟨ll,G,I,a8⟩:=c2.head;have U:=a2;obtain⟨fl,gs,cin,kp,g,bb⟩:=U;refine⟨λB=>aj B dm wY (de fl s.d.most s.d.quota s.d.ops s.d.next s.d.crash.isSome cin kp s.d.down)/\aj B m rP (dJ dm ll s),⟨g.head,G⟩,?_⟩;refine Lv P ⟨⟨g.head,G⟩,?_⟩;refine aV ⟨dm,0,none⟩ rfl ?_;refine aj.dt (c:=ab .i64) (i:=3) (x:=(s.d.ops:Int)) (cs:=λ_=>de fl s.d.most s.d.quota s.d.ops s.d.next s.d.crash.isSome cin kp s.d.down) (λB q=>q.1) (λ_ _=>rfl) ?_;refine aC (by simp) ?_;refine IY P ⟨⟨g.head,G⟩,?_⟩;refine aV ⟨dm,0,none⟩ rfl ?_;refine aj.dt (c:=ay) (i:=8) (x:=s.d.down) (cs:=λ_=>de fl s.d.most s.d.quota s.d.ops s.d.next s.d.crash.isSome cin kp s.d.down) (λB q=>q.1) (λ_ _=>rfl) ?_;refine aC (by simp) ?_;refine Ij P ⟨⟨g.head,G⟩,?_⟩;refine aV ⟨dm,0,none⟩ rfl ?_;refine aj.dt (c:=ab .i64) (i:=1) (x:=(s.d.most:Int)) (cs:=λ_=>de fl s.d.most s.d.quota s.d.ops s.d.next s.d.crash.isSome cin kp s.d.down) (λB q=>q.1) (λ_ _=>rfl) ?_;refine aC (by simp) ?_;refine yO c1 ⟨⟨g.head,G⟩,?_⟩;refine aV ⟨m,0,none⟩ rfl ?_;refine aj.dt (c:=ak) (i:=2) (x:=ll) (cs:=λ_=>dJ dm ll s) (λB q=>q.2) (λ_ _=>rfl) ?_;refine aC (by rw[I];simp) ?_;refine Ci c1 (by omega) λA1 S=>?_;refine yh (c2.ext S) (aC (by simp) ?_);have b1:=P.keep λb o d=>S.same b d id;have b2:=a2.keep λb o d=>S.same b d id;have g1:cv V Kp H0 A1 D1 D2:=(h.sub i1 i2).go S;refine Ax b1 (by omega) λJ B1 q1 S1=>?_;have g2:=g1.oS S1 b2.lt;have X:cq D2 B1 dm s.d:=b2.keep λb o d=>S1.mod.same b d λq=>g1.dis b q o;refine xq X (by omega) λY B2 Z S2=>?_;have g3:=g2.lK S2 q1.lt;have L:bo J B2 dp s.d.cU:=q1.keep λb o d=>S2.mod.same b d λq=>g2.dis b o q;have e2:=g3.ext;have bd:=s.d.we;generalize s.d.cU=t at*;have I:t.list.length<=4096:=by
  unfold Dk.list;split
  ·simp
  ·rw[(Po _ _).length_eq];simp;exact Z.wf.files
 refine Bc L λl B3 o3 m3 g3=>?_;refine Gm (Z.keep λb o d=>m3.same b d id) λl2 z o4 m4 g4=>?_;refine wO (o3.ext m4) o4 (by omega) ?_;refine aC rfl ?_;have m24:Ext B2 z:=m3.trans m4;have d1:bo J z dp t:=L.keep λb o d=>m24.same b d id;have d2:cq Y z dm t:=Z.keep λb o d=>m24.same b d id;have o5:az EN dy z l t.list:=o3.ext m4;have hn:=az.n o5 (by decide);have e5:Ext H0 z:=e2.trans m24;refine ar t.list.length (λk x B=>x=(k:Int)/\Ext z B) ⟨rfl,.refl _ _⟩ ?_;rintro k _ B6 next hk ⟨rfl,T⟩ C
 refine ag (λhc=>?_) (λhc=>hK B6 (e5.trans T));have M:k<t.list.length:=by rw[hn] at hc;simpa using hc
 have D:∀{B:aa} {K:ByteArray->Prop},Ext z B->K (cG t.list[k])->ae l.a λa=>(0<=(k:Int)/\(k:Int)<(l.n:Int))/\Go.Proofs.YtmkbhnholcaghaaGreatDoor.ld aH B (a.add ((k:Int).toNat*1)) K:=λe h=>rz (o5.ext e) M h;refine D T ?_;generalize cG t.list[k]=nm at*;refine nr (d2.keep λb o d=>T.same b d id) (by omega) λB7 e7=>?_;have hlen:=Dk.j7 d2.wf nm;refine ar ((t.len nm).1+1) (λj x B=>x=(j:Int)/\Ext z B) ⟨rfl,T.trans e7⟩ ?_;rintro j _ B8 af hj ⟨rfl,E⟩ y;refine ag (λN=>?_) (λN=>C M _ _ ⟨aD k (by omega),E⟩);have an:j<(t.len nm).1+1:=by simp at N;omega
 refine D E ?_;refine Bl (d1.keep λb o d=>E.same b d id) λr9 B9 o9 e9 g9=>?_;refine D (E.trans e9) ?_;refine Gd (d2.keep λb o d=>(E.trans e9).same b d id) (by omega) λbl bn a6 O g10=>?_;refine aC (by simp) ?_;refine kN (bW (o9.ext O)) ?_;refine kN a6 ?_;refine aC (by simp) ?_;exact y an _ _ ⟨aD j (by omega),(E.trans e9).trans O⟩
end
def AL:ByteArray:=O2 #[102]
theorem So.KY {t:So}{s:Pl}{l:List Int}{x y:Nat}(h:Bd s x y)(d:x<800000000000)(hw:t.wait.length<400000)(a:(t.add s l).1.fs.length<=4096):Bd (t.add s l).1 (x+400010) (y+805000):=by
 unfold So.add at a ⊢;split at a
 ·rename_i e;rw[if_pos e];exact h.mono (by omega) (by omega)
 ·rename_i e;rw[if_neg e];split at a
  ·rename_i b;rw[if_pos b];exact h.mono (by omega) (by omega)
  ·rename_i b;rw[if_neg b];split at a
   ·rename_i e2;rw[if_pos e2];exact h.mono (by omega) (by omega)
   ·rename_i e2;rw[if_neg e2];have c:=jN (t.wait++[l]);have hl:(t.wait++[l]).length<=400000:=by simp;omega
    exact(sx h (by show _+(eQ (jR (t.wait++[l]))).length<_;omega) a).mono (by show _+(eQ (jR (t.wait++[l]))).length+10<=_;omega) (by show _+2*(eQ (jR (t.wait++[l]))).length+5000<=_;omega)
theorem So.lr {t:So}:t.ready=0↔t.wrong=0/\t.closed=false:=by
 unfold So.ready;constructor
 ·intro h;by_cases q:t.wrong=0
  ·rw[if_neg (by rw[q];simp)] at h;refine⟨q,?_⟩;cases e:t.closed with
   |true=>rw[e] at h;simp at h
   |false=>rfl
  ·rw[if_pos q] at h;exact absurd h q
 ·rintro⟨h1,a⟩;rw[h1,a];rfl
theorem sj {x:Int}(h:aF x≠0):0<=x/\x<=16:=by
 rcases Decidable.em (x<0\/x>16) with q|q
 ·refine absurd ?_ h;unfold aF bz;rw[if_pos q];rfl
 ·omega
structure wZ (t:So)(w fr i:Nat):Prop where
 name:t.name.size<=100
 width:t.width=(w:Int)
 frames:t.frames=(fr:Int)
 cnt:t.side.length*(fr*x9 w)+t.wait.length<=i
 next:t.next=t.side.length
 sizes:∀n∈t.side,n.size<=9223372036854775807
 ready:t.ready=0
section
variable {t:So}{w fr i:Nat}
theorem wZ.iF (h:wZ t w fr i)(hw:w<=16)(a:3<=fr):9*t.side.length<=i/\t.wait.length<=i/\3*(t.side.length*x9 w)<=i/\x9 w<=504:=by
 obtain⟨b,r2,_,d⟩:=jc (OL w) hw;have c:=h.cnt;have h1:t.side.length*(3*x9 w)<=t.side.length*(fr*x9 w):=UM _ (OZ _ a);rw[Va] at h1;have e:t.side.length*3<=t.side.length*x9 w:=UM _ r2;omega
theorem wZ.Mj (h:wZ t w fr i)(hw:w<=16)(c:3<=fr)(d:fr<=100)(hi:i<=400):vQ t:=by
 obtain⟨a,b,_,_⟩:=h.iF hw c;refine⟨by have:=h.name;omega,by omega,by omega,h.sizes,by rw[h.next];omega,by rw[h.frames];omega⟩
theorem wZ.add (h:wZ t w fr i)(hw:w<=16)(b:3<=fr)(hi:i<=400)(s:Pl)(l:List Int):wZ (t.add s l).2.1 w fr (i+1)\/(t.add s l).2.1.ready≠0:=by
 obtain⟨d,r2,_,o⟩:=jc (OL w) hw;obtain⟨f1,_⟩:=h.iF hw b;have c:=h.cnt;obtain⟨g,a⟩:=So.lr.1 h.ready;unfold So.add;rw[if_neg (by rw[h.ready];simp)];split
 ·exact .inl ⟨h.name,h.width,h.frames,Nat.le_succ_of_le c,h.next,h.sizes,h.ready⟩
 ·split
  ·refine .inl ⟨h.name,h.width,h.frames,?_,h.next,h.sizes,So.lr.2 ⟨g,a⟩⟩;show t.side.length*(fr*x9 w)+(t.wait++[l]).length<=i+1;rw[OU,Ql];omega
  ·rename_i _ q;rw[h.frames,h.width,d] at q;have q:fr*x9 w<=t.wait.length+1:=by
    have:((fr*x9 w:Nat):Int)=(fr:Int)*(x9 w:Int):=by simp
    omega
   by_cases e:({t with wait:=t.wait++[l]}.aside s).2.2=0
   ·left;refine⟨h.name,h.width,h.frames,?_,?_,λn j=>?_,So.lr.2 ⟨e,a⟩⟩
    ·show (t.side++[_]).length*(fr*x9 w)+0<=i+1;rw[OU,Ql,Px];omega
    ·show t.next+1=(t.side++[_]).length;rw[OU,Ql,h.next]
    ·rcases Ox.1 (show n∈t.side++[bV t.name t.next] from j) with u|u
     ·exact h.sizes n u
     ·rw[OH] at u;subst u;have:=cN (n:=t.next) (by rw[h.next];omega);have:=h.name;rw[dU];omega
   ·exact .inr λq=>e (So.lr.1 q).1
theorem MG {S r a b T:Nat}(h1:S<=a)(c:S*r<=b)(e:r<=504)(g:a*b+3*b+1008<=T):(S+1)*(r*1048576)<=(b+504)*1048576/\(S+2)*(2*((S+1)*(r*1048576))+3000)<=2097152*T+3000*(a+2)/\(S+2)*(3*((S+1)*(r*1048576))+9000)<=3145728*T+9000*(a+2):=by
 have d:(S+1)*(r*1048576)=(S*r+r)*1048576:=by rw[<-WR,Px]
 have e2:(S+2)*(S*r+r)<=T:=by
  have q:S*(S*r)<=a*b:=Nat.mul_le_mul h1 c;rw[Nat.add_mul,V9];omega
 have h:(S+2)*((S*r+r)*1048576)<=T*1048576:=by
  rw[<-WR];exact OZ _ e2
 rw[d];refine⟨by omega,?_,?_⟩
 ·rw[V9,Va];omega
 ·rw[V9,Va];omega
def Ck (t:So)(X Y:Nat):Prop:=∃N,(t.side.length+1)*((aF t.width).toNat*1048576)<=N/\N<=1000000000/\(t.side.length+2)*(2*N+3000)<=X/\(t.side.length+2)*(3*N+9000)<=Y/\t.next+t.side.length+2<=100
theorem wZ.cost {a b T X Y:Nat}(c:wZ t w fr i)(hw:w<=16)(o:3<=fr)(J:i<=9*a+8)(L:i<=3*b+2)(q:a<=44)(g:b<=133)(d:a*b+3*b+1008<=T)(x:2097152*T+3000*(a+2)<=X)(y:3145728*T+9000*(a+2)<=Y):Ck t X Y:=by
 obtain⟨f1,f2,f3,f4⟩:=c.iF hw o;obtain⟨z,_⟩:=jc (OL w) hw;have h:=c.next;have j:=c.width;clear c;generalize x9 w=r at*;have e:(b+504)*1048576<=1000000000:=OE (OZ 1048576 (Nat.add_le_add_right g 504)) (by decide);have C:t.next+t.side.length+2<=100:=by clear d e;rw[h];omega
 have s1:t.side.length<=a:=by clear d e;omega
 have s2:t.side.length*r<=b:=by clear d e;omega
 obtain⟨D,E,G⟩:=MG (S:=t.side.length) (r:=r) (a:=a) (b:=b) s1 s2 f4 d;have I:(aF t.width).toNat=r:=by rw[j,z,Ov]
 unfold Ck;rw[I];exact⟨(t.side.length+1)*(r*1048576),Ot _,OE D e,OE E x,OE G y,C⟩
theorem wZ.BI (c:wZ t w fr i)(hw:w<=16)(d:3<=fr)(hi:i<=200):Ck t 5600000000 8400000000:=c.cost (a:=22) (b:=66) (T:=2658) hw d (by omega) (by omega) (by decide) (by decide) (by decide) (by decide) (by decide)
end
def gZ (A:aa)(d p k:Nat)(X:Nat->Prop)(s:Pl)(t:So):Prop:=∃F sw rs ss,X=(λb=>F b\/cj k sw rs ss b)/\au F A p d s/\qt A k p t sw rs ss/\∀b,F b->¬cj k sw rs ss b
def jM (A:aa)(d p k:Nat)(X:Nat->Prop)(s:Pl)(t:So):Prop:=∃F sw rs ss,X=(λb=>F b\/cj k sw rs ss b)/\ao F A p d s/\nu A k p t sw rs ss/\∀b,F b->¬cj k sw rs ss b
def kW (A:aa)(d p k:Nat)(X:Nat->Prop)(s:Pl)(t:So):Prop:=∃F sw ss,X=(λb=>F b\/b=k)/\au F A p d s/\aj A k wc (ir p t sw ss)/\¬F k
def su (A:aa)(d p k:Nat)(X:Nat->Prop)(s:Pl)(t:So):Prop:=∃F sw ss,X=(λb=>F b\/b=k)/\ao F A p d s/\aj A k yY (ir p t sw ss)/\¬F k
section
variable {A B:aa}{d p k:Nat}{X G:Nat->Prop}{s:Pl}{t:So}
theorem gZ.lt (h:gZ A d p k X s t):∀b,X b->b<A.size:=by
 obtain⟨F,sw,rs,ss,rfl,h1,a,_⟩:=h;exact λb c=>c.elim (h1.lt b) (a.lt b)
theorem jM.lt (h:jM A d p k X s t):∀b,X b->b<A.size:=by
 obtain⟨F,sw,rs,ss,rfl,h1,a,_⟩:=h;exact λb c=>c.elim (h1.lt b) (a.lt b)
theorem kW.lt (h:kW A d p k X s t):∀b,X b->b<A.size:=by
 obtain⟨F,sw,ss,rfl,h1,a,_⟩:=h;exact λb c=>c.elim (h1.lt b) λu=>u▸aA a
theorem gZ.mod (h:gZ A d p k X s t)(m:Mod G A B)(c:∀b,X b->¬G b):gZ B d p k X s t:=by
 obtain⟨F,sw,rs,ss,rfl,h1,e,g⟩:=h;exact⟨F,sw,rs,ss,rfl,h1.keep λb a hl=>m.same b hl (c b (.inl a)),e.mod m λb a=>c b (.inr a),g⟩
theorem jM.mod (h:jM A d p k X s t)(m:Mod G A B)(c:∀b,X b->¬G b):jM B d p k X s t:=by
 obtain⟨F,sw,rs,ss,rfl,h1,e,g⟩:=h;exact⟨F,sw,rs,ss,rfl,h1.keep λb a hl=>m.same b hl (c b (.inl a)),e.mod m λb a=>c b (.inr a),g⟩
theorem kW.mod (h:kW A d p k X s t)(m:Mod G A B)(a:∀b,X b->¬G b):kW B d p k X s t:=by
 obtain⟨F,sw,ss,rfl,h1,c,e⟩:=h;exact⟨F,sw,ss,rfl,h1.keep λb g hl=>m.same b hl (a b (.inl g)),c.mod m (a k (.inr rfl)),e⟩
theorem gZ.die (h:gZ A d p k X s t):∃Y,kW A d p k Y s t/\∀b,Y b->X b:=by
 obtain⟨F,sw,rs,ss,rfl,h1,a,c⟩:=h;exact⟨_,⟨F,sw,ss,rfl,h1,a.rd.row,λq=>c k q (.inl rfl)⟩,λb e=>e.imp id λu=>.inl u⟩
theorem jM.die (h:jM A d p k X s t):∃Y,su A d p k Y s t/\∀b,Y b->X b:=by
 obtain⟨F,sw,rs,ss,rfl,h1,a,c⟩:=h;exact⟨_,⟨F,sw,ss,rfl,h1,a.row,λq=>c k q (.inl rfl)⟩,λb e=>e.imp id λu=>.inl u⟩
variable {w fr i:Nat}{l:Sl}{ll:List Int}
theorem gZ.add {K:Int->aa->Prop}{x y:Nat}(h:gZ A d p k X s t)(z:Gl A)(C:¬X bh)(a:wZ t w fr i)(hw:w<=16)(j:3<=fr)(D:fr<=100)(hi:i<=400)(hl:Ints .u64 A l ll)(b:Bd s x y)(o:x<800000000000)(E:y<50000000000)
  (I:∀X' B,gZ B d p k X' (t.add s ll).1 (t.add s ll).2.1->Step X X' A B->Bd (t.add s ll).1 (x+400010) (y+805000)->K (t.add s ll).2.2 B):xv.sp (aE k) l A K:=by
 obtain⟨F,sw,rs,ss,rfl,h1,J,L⟩:=h;obtain⟨f1,f2,_⟩:=a.iF hw j;exact IT z (λq=>C (.inr q)) J h1 L (a.Mj hw j D hi) (by omega) (by rw[a.width];omega) hl b o E λF' c e g B p1 s1 d1 M=>I _ B ⟨F',c,e,g,rfl,p1,s1,d1⟩ M (So.KY b o (by omega) p1.frames)
theorem jM.add {K:Int->aa->Prop}{x y:Nat}(h:jM A d p k X s t)(a:wZ t w fr i)(hw:w<=16)(j:3<=fr)(o:fr<=100)(hi:i<=400)(hl:Ints .u64 A l ll)(b:Bd s x y)(q:x<800000000000)(z:y<50000000000)
  (C:∀X' B,jM B d p k X' (t.add s ll).1 (t.add s ll).2.1->Step X X' A B->K (t.add s ll).2.2 B):CV.sp (aE k) l A K:=by
 obtain⟨F,sw,rs,ss,rfl,h1,D,E⟩:=h;obtain⟨f1,f2,_⟩:=a.iF hw j;exact HH D h1 E (a.Mj hw j o hi) (by omega) (by rw[a.width];omega) hl b q z λF' c e g B p1 s1 d1 I=>C _ B ⟨F',c,e,g,rfl,p1,s1,d1⟩ I
theorem kW.add {K:Int->aa->Prop}(h:kW A d p k X s t)(a:t.ready≠0)(b:K t.ready A):xv.sp (aE k) l A K:=by
 obtain⟨F,sw,ss,rfl,h1,c,_⟩:=h;refine xv.of ?_;unfold xv.vc;exact kz c (aP (by simpa using a) b)
theorem su.add {K:Int->aa->Prop}(h:su A d p k X s t)(a:t.ready≠0)(b:K t.ready A):CV.sp (aE k) l A K:=by
 obtain⟨F,sw,ss,rfl,h1,c,_⟩:=h;refine CV.of ?_;unfold CV.vc;exact jm c (aP (by simpa using a) b)
theorem kW.done {K:(Int×Int)->aa->Prop}(h:kW A d p k X s t)(a:t.ready≠0)(b:K (0,t.ready) A):Dw.sp (aE k) A K:=by
 obtain⟨F,sw,ss,rfl,h1,c,_⟩:=h;refine Dw.of ?_;unfold Dw.vc;exact kz c (aP (by simpa using a) b)
theorem su.done {K:(Int×Int)->aa->Prop}(h:su A d p k X s t)(a:t.ready≠0)(b:K (0,t.ready) A):DV.sp (aE k) A K:=by
 obtain⟨F,sw,ss,rfl,h1,c,_⟩:=h;refine DV.of ?_;unfold DV.vc;exact jm c (aP (by simpa using a) b)
theorem gZ.done {K:(Int×Int)->aa->Prop}{x y a c:Nat}(h:gZ A d p k X s t)(C:Gl A)(D:¬X bh)(e:wZ t w fr i)(hw:w<=16)(o:3<=fr)(E:fr<=100)(hi:i<=400)(b:Bd s x y)(I:Ck t a c)(U:x+400010+a<=600000000000)(Y:y+805000+c<=39000000000)
  (J:∀X' B,kW B d p k X' (t.done s).1 (t.done s).2.1->Step X X' A B->Bd (t.done s).1 (x+400010+a) (y+805000+c)->K (((t.done s).2.2.1:Int),(t.done s).2.2.2) B):Dw.sp (aE k) A K:=by
 obtain⟨F,sw,rs,ss,rfl,h1,L,M⟩:=h;obtain⟨f1,f2,_⟩:=e.iF hw o;obtain⟨N,n1,n2,Z,n4,n5⟩:=I;refine Eu (N:=N) (R:=t.side.length+2) C (λq=>D (.inr q)) L h1 M (e.Mj hw o E hi) n5 (by rw[e.frames];omega) b (Ot _) n2 (by omega) (by omega) (λ_=>.inr (J3 (by omega) n1)) λF' g O j B p1 P d1 z S=>?_;exact J _ B ⟨F',g,j,rfl,p1,P,λq=>d1 k q (.inl rfl)⟩ ⟨z.mod,λb T=>z.own b (T.imp id .inl)⟩ (S.mono (by omega) (by omega))
theorem jM.done {K:(Int×Int)->aa->Prop}{x y j o:Nat}(h:jM A d p k X s t)(c:wZ t w fr i)(hw:w<=16)(z:3<=fr)(D:fr<=100)(hi:i<=400)(b:Bd s x y)(E:Ck t j o)(S:x+400010+j<=600000000000)(T:y+805000+o<=39000000000)
  (I:∀X' a B,su B d p k X' (t.done s).1 a->a.ready=(t.done s).2.1.ready->(t.done s).2.1.ready≠0->Step X X' A B->K (((t.done s).2.2.1:Int),(t.done s).2.2.2) B):DV.sp (aE k) A K:=by
 obtain⟨F,sw,rs,ss,rfl,h1,J,L⟩:=h;obtain⟨f1,f2,_⟩:=c.iF hw z;obtain⟨N,n1,n2,U,Y,n5⟩:=E;refine Fq (N:=N) (R:=t.side.length+2) J h1 L (c.Mj hw z D hi) (by omega) n5 (by rw[c.frames];omega) b (Ot _) n2 (by omega) (by omega) (KQ (by omega) n1) λF' a e M g B p1 s1 O e2 d1 C=>?_;exact I _ a B ⟨F',e,g,rfl,p1,s1.row,λq=>d1 k q (.inl rfl)⟩ O e2 ⟨C.mod,λb P=>C.own b (P.imp id .inl)⟩
end
def BS:Pl:=tV (ry 20) 8
def DH (l:List (List Int)):So:={GV AL 1 3 with wait:=l}
def MV:Pl:=(ie BS (bV AL 0) 1 [[1],[5]]).1
def y8:Pl×So×Nat×Int:=So.goes (MV,(DH [[5],[1],[5]]).iN,0)
def IA:RR:=(rnOpen y8.1 AL 1).2.1.getD default
def IH:Pl:=(rnOpen y8.1 AL 1).1
theorem Mf:eQ (jR [[5],[1],[5]])=[[1],[5]]:=by
 refine vT (tE _) (by simp[yw,uZ,aT]) λy=>?_;rw[mW];simp only[List.mem_cons,List.not_mem_nil,or_false];constructor
 ·rintro(h|h|h)<;>simp[h]
 ·rintro(h|h)<;>simp[h]
set_option maxRecDepth 100000 in
theorem M0:((ie BS (bV AL 0) 1 [[1],[5]]).2==0&&y8.2.2.2==0&&y8.2.2.1==2&&decide (0<=y8.1.next)&&(rnOpen y8.1 AL 1).2.1.isSome&&(rnOpen y8.1 AL 1).2.2==0&&(IA.next IH).2.2==([1],true,0)&&!(IA.next IH).1.d.down&&(IA.next IH).1.d.files.length==1&&decide (0<=IH.next)&&decide (IH.next<1000)&&decide (IH.d.aB<1000))=true:=by decide+kernel
theorem fW (l:List (List Int))(x:Int)(h:l.length<3):(DH l).add BS [x]=(BS,DH (l++[[x]]),0):=by
 unfold So.add;rw[if_neg (by show ¬(0:Int)≠0;decide),if_neg (by show ¬(1:Int)≠1;decide),if_pos]
 ·rfl
 ·show ((l.length+1:Nat):Int)<3*aF 1;rw[show aF 1=63 by decide];omega
theorem LD:(DH [[5],[1],[5]]).done BS=(y8.1,{y8.2.1 with closed:=true},2,0):=by
 have h:=M0;simp only[OB,beq_iff_eq,decide_eq_true_eq] at h;obtain⟨⟨⟨⟨⟨⟨⟨⟨⟨⟨⟨h1,a⟩,b⟩,_⟩,_⟩,_⟩,_⟩,_⟩,_⟩,_⟩,_⟩,_⟩:=h;have c:(DH [[5],[1],[5]]).first BS=(MV,(DH [[5],[1],[5]]).iN,0):=by
  unfold So.first;rw[if_pos (.inl (by show [[5],[1],[5]]≠[];simp))];show ((ie BS (bV AL 0) 1 (eQ (jR [[5],[1],[5]]))).1,(DH [[5],[1],[5]]).iN,(ie BS (bV AL 0) 1 (eQ (jR [[5],[1],[5]]))).2)=_;rw[Mf,h1];rfl
 unfold So.done;rw[if_neg (by show ¬(0:Int)≠0;decide),c];show So.ends y8=_;unfold So.ends;rw[if_neg (by rw[a];decide),b]
section
variable {H:aa}
set_option maxHeartbeats 1000000 in
theorem CB {K:Bool->aa->Prop}(g:Gl H)(hK:∀B,Ext H B->K true B):GY.sp H K:=by
 have ev:=M0;simp only[OB,beq_iff_eq,decide_eq_true_eq,Bool.not_eq_true'] at ev;obtain⟨⟨⟨⟨⟨⟨⟨⟨⟨⟨⟨_,_⟩,_⟩,v4⟩,v5⟩,v6⟩,v7⟩,v8⟩,v9⟩,v10⟩,v11⟩,v12⟩:=ev;refine GY.of ?_;unfold GY.vc;have a8:=g.lt;refine Gt (by decide) λF1 d H1 a1 y f1=>?_;refine tG (m:=8) (g.mod y id) a1 (λq=>by have:=f1 _ q;omega) (by decide) (by decide) λP p e M x2 w2=>?_;have z1:=y.size;have h:cv H (λ_=>False) H e P (λ_=>False):=⟨y.trans x2,λb a=>(w2 b a).elim (f1 b) λu=>by omega,λ_ q=>q.elim,λ_ _ q=>q,λ_ q=>q.elim⟩;have l2:=M.lt;refine xH M (λn1=>absurd (congrArg Un n1) (by rw[show (ig (tV (ry 20) 8) (O2 #[102]) 1 3).1.isSome=true by decide+kernel];simp)) λ_ _ N e3 s3=>?_;refine aC rfl (aC rfl ?_);have z2:=h.ext.size;have sO:∀b,cj e.size bc [] bc b->b=e.size:=by
  rintro b (u|u|⟨x,O,_⟩|u)
  ·exact u
  ·exact absurd u (aS b)
  ·cases O
  ·exact absurd u (aS b)
 have S3:gZ N d p e.size (λb=>P b\/cj e.size bc [] bc b) BS (DH []):=⟨P,bc,[],bc,rfl,M.ext e3,s3,λb a u=>by have:=sO b u;have:=l2 b a;omega⟩;have T:cv H (λ_=>False) H N (λb=>P b\/cj e.size bc [] bc b) (λ_=>False):=⟨h.ext.trans e3,λb a=>a.elim (h.n1 b) λu=>by have:=sO b u;omega,λ_ q=>q.elim,λ_ _ q=>q,λ_ q=>q.elim⟩;have b0:Bd BS 1 0:=⟨λf hf=>by simp[BS,tV] at hf,by decide,by decide,by decide⟩;have z:∀l:List (List Int),l.length<=3->wZ (DH l) 1 3 3:=λl hl=>⟨by show AL.size<=100;decide,rfl,rfl,by show 0*_+l.length<=3;omega,rfl,λn U=>(by cases U),rfl⟩
 -- a row
 have row:∀(l:List (List Int)) (x:Int) (A:aa) (X:Nat->Prop) (Y:Int->aa->Prop),l.length<3->cv H (λ_=>False) H A X (λ_=>False)->gZ A d p e.size X BS (DH l)->(∀X' B,cv H (λ_=>False) H B X' (λ_=>False)->gZ B d p e.size X' BS (DH (l++[[x]]))->Y 0 B)->aJ A #[(.int .u64 x)] iV λq Z=>xv.sp (aE e.size) (Sl.mk (some q) 1 1) Z Y:=λl x A X Y hl ap S af=>by
  refine u4 (k:=.u64) [x] λq B _ _ J eB=>?_;have E:=ap.go eB;refine(S.mod eB λ_ _ u=>u).add (g.mod E.ext id) (λq=>by have:=ap.n1 _ q;omega) (z l (by omega)) (by decide) (by decide) (by decide) (by decide) (J 1) b0 (by decide) (by decide) λX' C q1 S1 _=>?_;rw[fW l x hl] at q1 ⊢;exact af X' C (E.oS S1 λ_ u=>u.elim) q1
 refine row [] 5 N _ _ (by decide) T S3 λX4 Z an S4=>aC rfl ?_;refine row _ 1 Z _ _ (by decide) an S4 λX5 H5 a6 S5=>aC rfl ?_;refine row _ 5 H5 _ _ (by decide) a6 S5 λX6 H6 j S6=>aC rfl ?_;refine S6.done (g.mod j.ext id) (λq=>by have:=j.n1 _ q;omega) (z _ (by decide)) (by decide) (by decide) (by decide) (by decide) b0 ((z _ (by decide)).BI (by decide) (by decide) (by decide)) (by decide) (by decide) λX7 H7 q7 S7 b7=>?_;have ed:(DH ([]++[[5]]++[[1]]++[[5]])).done BS=(y8.1,{y8.2.1 with closed:=true},2,0):=LD;rw[ed] at q7 b7 ⊢;have n7:=b7.hi;have l7:=b7.aB;obtain⟨F7,bb,bd,rfl,p7,_,_⟩:=q7;have o:=(j.oS S7 λ_ u=>u.elim).sub (Y1:=F7) (Y2:=λ_=>False) (λb a=>.inl a) λ_ u=>u;have g7:=g.mod o.ext id;refine tg g7 p7 (n:=AL) (by decide) (by omega) (by omega) v4 (λF8 H8 _ _ L=>absurd v5 (by rw[L];simp)) λF8 H8 k r p8 S8 L z k1 k2=>?_;have er:r=IA:=by
  unfold IA;rw[L];rfl
 subst er;obtain⟨ok,rb,_,_,_⟩:=mN L;refine aC (by rw[v6];rfl) (aC rfl ?_);have c:=o.oS S8 λ_ u=>u.elim;have g8:=g.mod c.ext id;have z7:=o.ext.size;have rO:∀b,qS k bc [] b->b=k:=by
  rintro b (u|u|⟨x,O,_⟩)
  ·exact u
  ·exact absurd u (aS b)
  ·cases O
 refine yP (H0:=H8) (F0:=F8) (O0:=qS k bc []) g8 (λq=>by have:=c.n1 _ q;omega) (by omega) ⟨p8,z,λb a u=>k2 (rO b u▸a),.refl _ _,λb a=>.inl a,λb a=>.inl a⟩ ok (by rw[rb];decide) (by show IH.d.aB<_;omega) (by show IH.next<_;omega) (by show 0<=IH.next;exact v10) λF9 si rs C l hR hO a7=>?_;have hv:(IA.next (rnOpen y8.1 AL 1).1).2.2=([1],true,0):=v7;rw[hv] at hO ⊢;have J:Ints .u64 C l [1]:=hO.ints;have U:l.n=1:=J.len;refine aP (by simp[U]) ?_;refine J.ld (i:=0) (by decide) (by decide) λad _=>?_;refine aP rfl ?_;have eC:Ext H C:=⟨OE c.ext.size hR.mod.size,λb a _=>(hR.mod.same b (by have:=c.ext.size;omega) λu=>u.elim (λv=>by have:=c.n1 b v;omega) λv=>by omega).trans (c.ext.same b a id)⟩;obtain⟨D,hD,_,_⟩:=hR.pool.cw (g.mod eC id);refine Bc hD λl2 B o2 e2 _=>?_;have I:=az.n o2 (by decide);have y:(IA.next (rnOpen y8.1 AL 1).1).1.d.list.length=1:=by
  have d1:(IA.next (rnOpen y8.1 AL 1).1).1.d.down=false:=v8;have d2:(IA.next (rnOpen y8.1 AL 1).1).1.d.files.length=1:=v9;unfold Dk.list;rw[d1,if_neg (by simp),(Po _ _).length_eq,O7];exact d2
 rw[y] at I;rw[I];exact hK B (eC.trans e2)
end
def xj (V:aa)(Kp:Nat->Prop)(H0 A:aa)(d n p m a b w fr i x y:Nat):Prop:=∃X1 X2 s t,cv V Kp H0 A X1 X2/\gZ A d p a X1 s t/\jM A n m b X2 s t/\wZ t w fr i/\Bd s (x+400010*i) (y+805000*i)
def sS (V:aa)(Kp:Nat->Prop)(H0 A:aa)(d n p m b c x y:Nat):Prop:=∃X1 X2 s t a,cv V Kp H0 A X1 X2/\kW A d p b X1 s t/\su A n m c X2 s a/\t.ready≠0/\a.ready=t.ready/\Bd s x y
def eJ (V:aa)(Kp:Nat->Prop)(H0 A:aa)(d n p m x y:Nat):Prop:=∃a b s,cv V Kp H0 A a b/\au a A p d s/\ao b A m n s/\Bd s x y
section
variable {V H0 A:aa}{Kp:Nat->Prop}{d n p m k1 k2 w fr i x0 y0 X Y:Nat}{rows:Sl}{rl:List (List Int)}{R:Bool->aa->Prop}
theorem EK {K:Bool->aa->Prop}{o x:Nat}(h:xj V Kp H0 A d n p m k1 k2 w fr i x0 y0\/sS V Kp H0 A d n p m k1 k2 X Y)(M:Gl H0)(hw:w<=16)(N:3<=fr)(O:fr<=100)(hi:i<=400)(hc:∀t,wZ t w fr i->Ck t o x)
  (y:x0+400010*i+400010+o<=X/\x0+400010*i+400010+o<=600000000000) (z:y0+805000*i+805000+x<=Y/\y0+805000*i+805000+x<=39000000000)
  (P:∀B,sS V Kp H0 B d n p m k1 k2 X Y->K true B):Jy.sp (aE k1) (aE k2) A K:=by
 refine Jy.of ?_;unfold Jy.vc;have af:=M.lt;rcases h with ⟨X1,X2,s,t,ap,s1,s2,D,S⟩|⟨X1,X2,s,t,j,ap,s1,s2,c,e2,e3⟩
 ·have e:=hc t D;refine s1.done (M.mod ap.ext id) (λq=>by have:=ap.n1 _ q;omega) D hw N O hi S e y.2 z.2 λY1 B T U b1=>?_;have g:=ap.oS U s2.lt;have E:=s2.mod U.mod λb I q=>ap.dis b q I;refine E.done D hw N O hi S e y.2 z.2 λY2 j C q2 c e2 Z=>?_;have J:=g.lK Z T.lt;have L:=T.mod Z.mod λb I q=>g.dis b I q;have:∀a b:Int,((a==a)&&(b==b))=true:=λa b=>by simp
  rw[this];exact P C ⟨Y1,Y2,_,_,j,J,L,q2,e2,c,b1.mono y.1 z.1⟩
 ·refine s1.done c (s2.done (by rw[e2];exact c) ?_);have:(((0:Int)==(0:Int))&&(t.ready==j.ready))=true:=by rw[e2];simp
  rw[this];exact P A ⟨X1,X2,s,t,j,ap,s1,s2,c,e2,e3⟩
theorem sS.pool (h:sS V Kp H0 A d n p m k1 k2 X Y):eJ V Kp H0 A d n p m X Y:=by
 obtain⟨X1,X2,s,t,x,ap,⟨c,e,g,rfl,c1,_,_⟩,⟨j,o,q,rfl,c2,_,_⟩,_,_,b⟩:=h;exact⟨c,j,s,ap.sub (λb a=>.inl a) λb a=>.inl a,c1,c2,b⟩
theorem eJ.alike {K:Bool->aa->Prop}(h:eJ V Kp H0 A d n p m X Y)(a:Gl H0)(e:X<1000000000000)(g:Y<68000000000)(c:∀B,Ext H0 B->K true B):IK.sp (aE d) (aE n) (aE p) (aE m) A K:=by
 obtain⟨j,o,s,ap,c1,c2,b⟩:=h;have h1:=b.hi;have q:=b.aB;exact CI ap c1 c2 a (by omega) (by omega) c
theorem Ea {B C D:aa}{h j:Nat->Prop}{s:Pl}{nm:ByteArray}(ap:cv V Kp H0 B h j)(c1:au h B p d s)(c2:ao j B m n s)(o:Ext B C)(E:qt C B.size p (GV nm (w:Int) (fr:Int)) bc [] bc)(y:Ext C D)(L:nu D C.size m (GV nm (w:Int) (fr:Int)) bc [] bc)(z:nm.size<=100)(b:Bd s x0 y0):
  xj V Kp H0 D d n p m B.size C.size w fr 0 x0 y0:=by
 have T:=ap.ext.size;have U:=o.size;have I:=c1.lt;have J:=c2.lt;have c:∀k b,cj k bc [] bc b->b=k:=by
  rintro k b (u|u|⟨x,M,_⟩|u)
  ·exact u
  ·exact absurd u (aS b)
  ·cases M
  ·exact absurd u (aS b)
 have e:=(ap.go o).go y;refine⟨λb=>h b\/cj B.size bc [] bc b,λb=>j b\/cj C.size bc [] bc b,s,GV nm (w:Int) (fr:Int),⟨e.ext,λb a=>?_,λb a=>?_,λb a g=>?_,λb a=>?_⟩,⟨h,bc,[],bc,rfl,(c1.ext o).ext y,E.mod y λ_ _=>id,λb a u=>?_⟩,⟨j,bc,[],bc,rfl,(c2.ext o).ext y,L,λb a u=>?_⟩,⟨z,rfl,rfl,by simp[GV],rfl,λn z=>(by cases z),rfl⟩,b⟩
 ·rcases a with u|u
  ·exact ap.n1 b u
  ·have:=c _ b u;omega
 ·rcases a with u|u
  ·exact ap.n2 b u
  ·have:=c _ b u;omega
 ·rcases a with u|u
  ·rcases g with v|v
   ·exact ap.dis b u v
   ·have:=c _ b v;have:=I b u;omega
  ·have:=c _ b u;rcases g with v|v
   ·have:=J b v;omega
   ·have:=c _ b v;have:=aA E.rd.row;omega
 ·obtain⟨k1,_,N,O⟩:=ap.kept b a;obtain⟨P,S,_,_⟩:=e.kept b a;exact⟨P,S,λq=>q.elim N λu=>by have:=c _ b u;omega,λq=>q.elim O λu=>by have:=c _ b u;omega⟩
 ·have:=c _ b u;have:=I b a;omega
 ·have:=c _ b u;have:=J b a;omega
end
section
variable {V H0 A B:aa}{Kp Kq:Nat->Prop}{d n p m k1 k2 w fr i x y x0 y0 X Y:Nat}{R:Bool->aa->Prop}
theorem kS.same {s:Sl}{l:List ByteArray}(h:kS A s l)(hs:∀b,ah s b->B[b]?=A[b]?):kS B s l:=
 ⟨h.n,h.at_.imp id λ⟨g,o,cur,e,a,r⟩=>⟨g,o,cur,e,(hs g ⟨_,e,rfl⟩).trans a,r⟩⟩
theorem eJ.grow (h:eJ V Kp H0 A d n p m x y)(e:Ext A B)(a:∀b,Kq b->Kp b\/A.size<=b/\b<B.size):eJ B Kq H0 B d n p m x y:=by
 obtain⟨c,g,s,ap,c1,c2,b⟩:=h;exact⟨c,g,s,(ap.go e).more λb j=>(a b j).imp id λu=>⟨u.2,λq=>by have:=c1.lt b q;omega,λq=>by have:=c2.lt b q;omega⟩,c1.ext e,c2.ext e,b⟩
theorem eJ.ext (h:eJ V Kp H0 A d n p m x y):Ext H0 A:=by
 obtain⟨_,_,_,ap,_⟩:=h;exact ap.ext
theorem eJ.keep (h:eJ V Kp H0 A d n p m x y)(b:Nat)(a:Kp b):A[b]?=V[b]?:=by
 obtain⟨_,_,_,ap,_⟩:=h;exact(ap.kept b a).2.1
theorem eJ.K7 {names:Sl}{ns:List ByteArray}{to:ByteArray}{W:Int}{K:(Int×Int)->aa->Prop}(h:eJ V Kp H0 A d n p m x y)(U:Gl H0)(D:kS V names ns)(hk:∀b,ah names b->Kp b)(hs:∀n∈ns,n.size<=9223372036854775807)(hl:ns.length<=9)(o:to.size<=9223372036854775807)(hW:(aF W).toNat<=504)(hx:x<100000000000)(hy:y<45000000000)
  (hK:∀B v,Ext H0 B->(∀b,Kp b->B[b]?=V[b]?)->(∀(E:(Int×Int)->aa->Prop),(∀C,eJ V Kp H0 C d n p m (x+9512684472) (y+14269031208)->E v C)->Ey.sp (aE m) names to W B E)->K v B):Ha.sp (aE p) names to W A K:=by
 obtain⟨Z,I,s,ap,c1,c2,b⟩:=h;have af:=U.lt;have g:Gl A:=U.mod ap.ext id;have l9:9*((aF W).toNat*1048576)<=4756340736:=OE (UM 9 (OZ 1048576 hW)) (by decide);have J:bJ (aW W ns s).2.1<=4756340736:=J3 (p:=p) (dp:=d) (S:=9) (by decide) l9 Z A s x y ns g c1 b (by omega) (by omega) hl hs;have rd:∀B X1 X2,cv V Kp H0 B X1 X2->∀C,(Mod X1 B C\/Mod X2 B C)->bQ jX C names.a ns:=λB X1 X2 a C z=>by
  refine(D.same (B:=C) λb e=>?_).rd;obtain⟨j1,j2,j3,j4⟩:=a.kept b (hk b e);exact z.elim (λq=>(q.same b j1 j3).trans j2) λq=>(q.same b j1 j4).trans j2
 refine yg (N:=4756340736) g c1 D.n (λC z=>rd A Z I ap C (.inl z)) hs o b (by omega) (by omega) (by omega) J (by decide) (by omega) (by omega) λF' B L S1=>?_;have c:=ap.oS S1 c2.lt;have M:ao I B m n s:=c2.keep λb e j=>S1.mod.same b j λu=>ap.dis b u e;refine hK B _ c.ext (λb e=>(c.kept b e).2.1) λE O=>?_;refine pX (N:=4756340736) M D.n (λC z=>rd B F' I c C (.inr z)) hs o b (by omega) (by omega) (by omega) J (by decide) (by omega) (by omega) λP C q2 S2=>?_;have T:=c.lK S2 L.lt;exact O C ⟨F',P,_,T,L.keep (λb e j=>S2.mod.same b j λu=>c.dis b e u),q2,(mO b (by omega) (by omega) J L.frames).mono (by omega) (by omega)⟩
variable {rows:Sl}{rl:List (List Int)}
set_option maxHeartbeats 1000000 in
theorem Hv {K:aa->Prop}(h:xj V Kp H0 A d n p m k1 k2 w fr i x0 y0\/sS V Kp H0 A d n p m k1 k2 X Y)(hg:Gl H0)(hw:w<=16)(P:3<=fr)(hf:fr<=100)(hi:i<400)(hx:x0+400010*(i+1)<=X/\x0+400010*(i+1)<=700000000000)(hy:y0+805000*(i+1)<=Y/\y0+805000*(i+1)<=49000000000)(hr:Rows H0 rows rl){j:Nat}(hj:j<rl.length)
  (hK:∀B,xj V Kp H0 B d n p m k1 k2 w fr (i+1) x0 y0\/sS V Kp H0 B d n p m k1 k2 X Y->K B):
  ∃G:aa->Prop,G A/\ae rows.a λS=>(0<=(j:Int)/\(j:Int)<(rows.n:Int))/\ld ak A (S.add ((j:Int).toNat*1)) λ(z:Sl)=>xv.sp (aE k1) z A λ(T:Int) E=>G E/\ae rows.a λU=>(0<=(j:Int)/\(j:Int)<(rows.n:Int))/\dt ak G (U.add ((j:Int).toNat*1)) λ(I:Sl)=>CV.sp (aE k2) I E λ(Z:Int) J=>br (T !=Z) (R false J) (K J):=by
 obtain⟨ad,r,ea,hc,L⟩:=hr.at' j hj;have an:=hr.len;have g:(0<=(j:Int)/\(j:Int)<(rows.n:Int)):=⟨by omega,by omega⟩;have a1:=hg.lt;have O:Ext H0 A:=h.elim (λ⟨_,_,_,_,a,_⟩=>a.ext) λ⟨_,_,_,_,_,a,_⟩=>a.ext;have o:∀B,Ext H0 B->cI B (ad.add ((j:Int).toNat*1))=some (ak.enc r):=λB e=>by
  rw[Ov,Pq];exact Mod.cell e hc id
 refine⟨λB=>Ext H0 B,O,aV ad ea ⟨g,r,o A O,?_⟩⟩;rcases h with ⟨X1,X2,s,t,ap,s1,s2,h8,bd⟩|⟨X1,X2,s,t,t',ap,s1,s2,e1,e2,e3⟩
 ·refine s1.add (hg.mod ap.ext id) (λq=>by have:=ap.n1 _ q;omega) h8 hw P hf (by omega) (L.ext O) bd (by omega) (by omega) λY1 C q1 S1 bC=>?_;have c:=ap.oS S1 s2.lt;refine⟨c.ext,aV ad ea ⟨g,r,o,?_⟩⟩;have af:=s2.mod S1.mod λb hb q=>ap.dis b q hb;refine af.add h8 hw P hf (by omega) (L.ext c.ext) bd (by omega) (by omega) λY2 D q2 S2=>?_;have M:=c.lK S2 q1.lt;have N:=q1.mod S2.mod λb hb q=>c.dis b hb q;refine aC (by simp) (hK D ?_);rcases h8.add hw P (by omega) s (rl[j]'hj) with u|u
  ·exact .inl ⟨Y1,Y2,_,_,M,N,q2,u,bC.mono (by omega) (by omega)⟩
  ·obtain⟨Z1,v1,w1⟩:=N.die;obtain⟨Z2,v2,w2⟩:=q2.die;exact .inr ⟨Z1,Z2,_,_,_,M.sub w1 w2,v1,v2,u,rfl,bC.mono (by omega) (by omega)⟩
 ·refine s1.add e1 ⟨O,aV ad ea ⟨g,r,o,?_⟩⟩;refine s2.add (by rw[e2];exact e1) ?_;exact aC (by rw[e2];simp) (hK A (.inr ⟨X1,X2,s,t,t',ap,s1,s2,e1,e2,e3⟩))
end
section
variable {V H0 A B:aa}{Kp:Nat->Prop}{d n p m x y x' y':Nat}
theorem eJ.mono (h:eJ V Kp H0 A d n p m x y)(a:x<=x')(c:y<=y'):eJ V Kp H0 A d n p m x' y':=by
 obtain⟨e,g,s,ap,c1,c2,b⟩:=h;exact⟨e,g,s,ap,c1,c2,b.mono a c⟩
theorem aj.Lw {c:eM}{H:aa}{b:Nat}{t:TypeId}{cs:Array Value}(h:aj H b t cs){i:Nat}{x:c.α}(hi:cs[i]?=some (c.enc x)){K:c.α->Prop}(a:K x):Go.Proofs.YtmkbhnholcaghaaGreatDoor.ld c H (Addr.add ⟨b,0,none⟩ ((i:Int).toNat*1)) K:=by
 rw[Ov,Pq];exact h.ld hi a
theorem CF (x:Int):(aF x).toNat<=504:=by
 by_cases h:aF x=0
 ·rw[h];decide
 obtain⟨c,h1⟩:=sj h;obtain⟨w,rfl⟩:∃w:Nat,x=(w:Int):=⟨x.toNat,by omega⟩;obtain⟨a,_,_,b⟩:=jc (W:=w) (OL w) (by omega);rw[a,Ov];exact b
theorem MP:∀{j:Nat},j<4->∃nm:ByteArray,(#[(.string (O2 #[97])),(.string (O2 #[98])),(.string (O2 #[99])),(.string (O2 #[100]))]:Array Value)[j]?=some (aH.enc nm)/\nm.size<=100
 |0,_=>⟨O2 #[97],rfl,by decide⟩
 |1,_=>⟨O2 #[98],rfl,by decide⟩
 |2,_=>⟨O2 #[99],rfl,by decide⟩
 |3,_=>⟨O2 #[100],rfl,by decide⟩
 |j+4,h=>absurd h (by omega)
theorem M4:∀{j:Nat},j<2->∃nm:ByteArray,(#[(.string (O2 #[103])),(.string (O2 #[97]))]:Array Value)[j]?=some (aH.enc nm)/\nm.size<=100
 |0,_=>⟨O2 #[103],rfl,by decide⟩
 |1,_=>⟨O2 #[97],rfl,by decide⟩
 |j+2,h=>absurd h (by omega)
theorem K9 {a b c:Sl}{la lb lc:List (List Int)}(e:Rows H0 a la)(g:Rows H0 b lb)(o:Rows H0 c lc)(h1:la.length<=200)(q:lb.length<=200)(z:lc.length<=200):∀{j:Nat},j<3->∃rows rl,(#[a.v,b.v,c.v]:Array Value)[j]?=some (ak.enc rows)/\Rows H0 rows rl/\rl.length<=200
 |0,_=>⟨a,la,rfl,e,h1⟩
 |1,_=>⟨b,lb,rfl,g,q⟩
 |2,_=>⟨c,lc,rfl,o,z⟩
 |j+3,h=>absurd h (by omega)
theorem GD {s:Pl}{nm:ByteArray}{W fr:Int}(h:(ig s nm W fr).1=none):(ig s nm W fr).2≠0:=by
 unfold ig at h ⊢;split
 ·decide
 ·split
  ·decide
  ·rename_i u v;rw[if_neg u,if_neg v] at h;cases h
theorem Ae {s:Pl}{nm:ByteArray}{W fr:Int}{t:So}(h:(ig s nm W fr).1=some t):aF W≠0:=λe=>by
 unfold ig at h;rw[if_pos e] at h;cases h
set_option maxHeartbeats 4000000 in
theorem qR {H:aa}{quota pool frames width q keep:Int}{a b c which:Sl}{la lb lc:List (List Int)}{wl:List Int}{R:Bool->aa->Prop}(hg:Gl H)(hq:quota<=9223372036854775807)(hp:q<=9223372036854775807)(ha:Rows H a la)(Z:Rows H b lb)(o:Rows H c lc)(hw:Ints .i64 H which wl)
  (hK:∀B,Ext H B->R true B):KF.sp quota pool frames width q keep a b c which H R:=by
 refine KF.of ?_;unfold KF.vc;refine av λH0 z0 r0 e0=>?_;have b5:=ha.len;have b6:=Z.len;have b7:=o.len;have b9:=hw.len;refine ag (λ_=>hK H0 e0) λbl=>?_;obtain⟨l1,l2,l3,l4⟩:la.length<=200/\lb.length<=200/\lc.length<=200/\wl.length<=9:=by
  simp only[PZ,decide_eq_false_iff_not] at bl;omega
 have J:=hg.mod e0 id;have g:∀{s l},Rows H s l->Rows H0 s l:=λhr=>⟨hr.len,λi hi=>by
  obtain⟨ad,r,e,bn,bs⟩:=hr.at' i hi;exact⟨ad,r,e,Mod.cell e0 bn id,bs.ext e0⟩⟩
 have bx:=hw.ext e0;have bA:=g ha;have bB:=g Z;have bC:=g o;refine aj.c9 (x:=(quota,pool,frames,width,q,keep)) r0 rfl rfl ?_;refine DC J hq hp λB dp dm p m P1 P2 sd j hj ap c1 c2 bD=>?_;have L:∀B,Ext H0 B->GY.sp B λ(bM:Bool) H6=>R bM H6:=λB e=>CB (J.mod e id) λC e2=>hK C ((e0.trans e).trans e2);have pB:eJ H0 (λ_=>False) H0 B dp dm p m 1 0:=⟨P1,P2,_,ap,c1,c2,⟨λf hf=>by simp[tV] at hf,by show (0:Int)<=1;decide,by show (1:Int)<=_;omega,by show sd.aB<=_;rw[bD];omega⟩⟩;refine av λH3 z3 r3 e3=>?_;refine av λV z4 r4 e4=>?_;have a1:=r3.ext e4;obtain⟨T,a6⟩:∃T,T=B.size:=⟨_,rfl⟩;obtain⟨U,a7⟩:∃U,U=H3.size:=⟨_,rfl⟩;rw[<-a6] at a1;rw[<-a7] at r4;rw[<-a6,<-a7];have pV:eJ V (λx=>x=T\/x=U) H0 V dp dm p m (1+5700000000*0) (8600000000*0):=pB.grow (e3.trans e4) λx hx=>.inr (by omega);refine ar 3 (λk z A=>z=(k:Int)/\eJ V (λx=>x=T\/x=U) H0 A dp dm p m (1+5700000000*k) (8600000000*k)) ⟨rfl,pV⟩ ?_;rintro k _ A next hk ⟨rfl,hS⟩ af
 have ra:=(hS.keep T (.inl rfl)).trans a1;have rb:=(hS.keep U (.inr rfl)).trans r4;have eA:=hS.ext;have rA:=r0.ext eA;refine ag (λo=>?_) λo=>?_
 ·have M:k<3:=by have:(k:Int)<3:=of_decide_eq_true o;omega
  obtain⟨rows,rl,er,hr,hl⟩:=K9 bA bB bC l1 l2 l3 M;obtain⟨nm,en,a8⟩:=MP (j:=k) (by omega);refine⟨⟨by omega,by omega⟩,aj.Lw (c:=ak) (x:=rows) rb er ?_⟩;refine⟨⟨by omega,by omega⟩,aj.Lw (c:=aH) (x:=nm) ra en ?_⟩;refine rA.ld (c:=ab .i64) (i:=3) (x:=width) rfl ?_;obtain⟨F1,F2,s,bN,d1,d2,bd⟩:=hS;refine xH d1 (λn1=>?_) λn1 n2 C eC sC=>?_
  ·refine⟨⟨by omega,by omega⟩,aj.Lw (c:=aH) (x:=nm) ra en ?_⟩;refine rA.ld (c:=ab .i64) (i:=3) (x:=width) rfl ?_;refine ux d2 (λ_=>?_) λn3=>absurd n3 (by rw[n1];simp);refine aC (by simp) (aP (by simpa using GD n1) (L A eA))
  refine⟨⟨by omega,by omega⟩,aj.Lw (c:=aH) (x:=nm) (aj.ext ra eC) en ?_⟩;refine(rA.ext eC).ld (c:=ab .i64) (i:=3) (x:=width) rfl ?_;refine ux (d2.ext eC) (λn3=>absurd n3 (by rw[n1];simp)) λ_ _ D eD zD sD=>?_;refine aC (by simp) (aC rfl ?_);obtain⟨w0,cb⟩:=sj (Ae n1);obtain⟨w,rfl⟩:∃w:Nat,width=(w:Int):=⟨width.toNat,by omega⟩;have hw:w<=16:=by omega
  have live:=Ea (nm:=nm) (w:=w) (fr:=3) bN d1 d2 eC sC eD sD a8 bd;refine ar rl.length (λi z E=>z=(i:Int)/\(xj V (λx=>x=T\/x=U) H0 E dp dm p m A.size C.size w 3 i (1+5700000000*k) (8600000000*k)\/sS V (λx=>x=T\/x=U) H0 E dp dm p m A.size C.size (1+5700000000*(k+1)) (8600000000*(k+1)))) ⟨rfl,.inl live⟩ ?_;rintro i _ E bO hi ⟨rfl,hL⟩ N;refine ag (λo=>?_) λo=>?_
  ·have ck:=hr.len;have O:i<rl.length:=by have:(i:Int)<(rows.n:Int):=of_decide_eq_true o;omega
   refine Hv hL J hw (by decide) (by decide) (by omega) ⟨by omega,by omega⟩ ⟨by omega,by omega⟩ hr O λG hG=>?_;exact N O _ _ ⟨aD i (by omega),hG⟩
  ·refine EK hL J hw (by decide) (by decide) (by omega) (λt h=>h.BI hw (by decide) (by omega)) ⟨by omega,by omega⟩ ⟨by omega,by omega⟩ λG hG=>?_;exact aC rfl (af M _ _ ⟨aD k (by omega),hG.pool⟩)
 -- the names
 have b0:eJ V (λx=>x=T\/x=U) H0 A dp dm p m 17100000001 25800000000:=hS.mono (by omega) (by omega);refine ar wl.length (λi z B'=>z.2=(i:Int)/\Ext A B'/\∃ns,az jX dy B' z.1 ns/\ns.length=i/\(∀n∈ns,n.size<=9223372036854775807)/\∀b,ah z.1 b->A.size<=b) ⟨rfl,.refl _ _,[],az.nil _ _ _,rfl,λ_ h=>(by cases h),λb ⟨ad,e,_⟩=>(by cases e)⟩ ?_;rintro i ⟨an,_⟩ B' b1 hi ⟨rfl,eB,ns,oN,ln,hz,own⟩ P;have zB:=eB.size;refine ag (λo=>?_) λo=>?_
 ·have O:i<wl.length:=by have:(i:Int)<(which.n:Int):=of_decide_eq_true o;omega
  refine(bx.ext (eA.trans eB)).ld (i:=(i:Int)) (by omega) (by omega) λad _=>?_;refine yc (by decide) ?_;rw[if_neg (by decide)];generalize wl.getD (i:Int).toNat 0=u;obtain⟨j2,bb⟩:∃j:Nat,u.emod 4=(j:Int):=⟨(u.emod 4).toNat,(VN (UF u (by decide))).symm⟩;have cm:(j2:Int)<4:=bb▸U0 u (by decide);rw[bb];obtain⟨nm,en,a8⟩:=MP (j:=j2) (by omega);refine⟨⟨by omega,by omega⟩,aj.Lw (c:=aH) (x:=nm) (aj.ext ra eB) en ?_⟩;refine az.push (E:=jX) (x:=nm) Aj oN rfl (by omega) (by omega) λs' D oD gD _=>?_;refine P O _ _ ⟨aD i (by omega),⟨OE zB gD.1.size,λb Z _=>(gD.1.same b (P3 Z zB) λq=>by have:=own b q;omega).trans (eB.same b Z id)⟩,ns++[nm],oD,by simp[ln],λx hx=>?_,λb Z=>(gD.2 b Z).elim (own b) λq=>by omega⟩;rcases Ox.1 hx with h|h
  ·exact hz x h
  ·rw[OH.1 h];omega
 -- merged
 have lN:=(kS.of oN).lt;refine av λW zW rW eW=>?_;have b2:=eB.trans eW;have hN:kS W an ns:=kS.of (oN.ext eW);have pW:eJ W (λx=>x=B'.size\/ah an x) H0 W dp dm p m (17100000001+9512684472*0) (25800000000+14269031208*0):=b0.grow b2 λx hx=>.inr (hx.elim (λq=>by omega) λq=>by have:=own x q;have:=lN x q;omega);refine ar 2 (λk z C=>z=(k:Int)/\eJ W (λx=>x=B'.size\/ah an x) H0 C dp dm p m (17100000001+9512684472*k) (25800000000+14269031208*k)) ⟨rfl,pW⟩ ?_;rintro k2 _ C b3 cx ⟨rfl,hP⟩ S;have rg:=(hP.keep B'.size (.inl rfl)).trans rW;have rC:=r0.ext hP.ext;refine ag (λo=>?_) λo=>?_
 ·have M:k2<2:=by have:(k2:Int)<2:=of_decide_eq_true o;omega
  obtain⟨to,et,cy⟩:=M4 M;refine⟨⟨by omega,by omega⟩,aj.Lw (c:=aH) (x:=to) rg et ?_⟩;refine rC.ld (c:=ab .i64) (i:=3) (x:=width) rfl ?_;refine hP.K7 J hN (λb q=>.inr q) hz (by omega) (by omega) (CF width) (by omega) (by omega) λD v eD _ b4=>?_;refine(r0.ext eD).ld (c:=ab .i64) (i:=3) (x:=width) rfl ?_;refine b4 _ λE hE=>?_;refine aC (by simp) ?_;exact S M _ _ ⟨aD k2 (by omega),hE.mono (by omega) (by omega)⟩
 ·refine(hP.mono (x':=40000000000) (y':=60000000000) (by omega) (by omega)).alike J (by decide) (by decide) λI eI=>?_;exact aP rfl (L I eI)
end
end Go.Proofs.YtmkbhnholcaghaaGreatDoor
