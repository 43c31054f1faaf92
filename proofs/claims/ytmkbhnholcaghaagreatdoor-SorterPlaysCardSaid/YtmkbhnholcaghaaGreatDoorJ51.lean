/-
 Both disks at once: a call of each; what they tell.
-/
import Derived.Test.YtmkbhnholcaghaaGreatDoorJ34
import Derived.Test.YtmkbhnholcaghaaGreatDoorJ35
import Derived.Test.YtmkbhnholcaghaaGreatDoorJ38
import Derived.Test.YtmkbhnholcaghaaGreatDoorJ40
import Derived.Test.YtmkbhnholcaghaaGreatDoorJ43
import Derived.Test.YtmkbhnholcaghaaGreatDoorJ49
import Derived.Test.YtmkbhnholcaghaaGreatDoorJ50
open Array renaming length_toList->Ql
open Bool renaming and_eq_true->Oj,or_eq_false_iff->PW,and_eq_false_iff->TA
open ByteArray renaming mk->Pe,size_append->R0
open Classical renaming not_not->UP
open Go.Builtin renaming append_->Oa,lenOf->VY
open Go.IntKind renaming i64->N6,u64->OI,u8->O5
open Go.Proofs.Tryz renaming prog->N5
open Go.Value renaming int->On,string->PA
open Go.Value.slice renaming injEq->Ov
open Int renaming toNat_natCast->Od,tdiv->OX,tmod->Pq
open List renaming getElem?_eq_some_iff->N7,getElem?_eq_getElem->N8,mem_of_getElem?->N9,mem_append->Oe,getElem?_map->Oi,mem_cons_of_mem->Ou,mem_singleton->Ow,map_cons->Ox,eq_nil_of_length_eq_zero->Oy,mem_cons_self->OA,getElem?_append_left->OB,length_append->OG,length_cons->ON,map_append->OO,getElem_mem->OP,getElem?_set->OS,length_map->OT,length_take->OW,drop_eq_getElem_cons->OY,append_assoc->O3,mergeSort_perm->O6,getElem?_append_right->O9,getElem?_set_ne->Pd,sum_cons->Ph,getElem?_set_self->Pj,mem_of_mem_take->Pm,getD->Pn,length_drop->Pr,map_set->Pv,getElem?_drop->PE,length_singleton->P7,size_toArray->Qn,append_nil->Qs,mem_of_mem_drop->QN,getElem?_append->QO,map_nil->QR,drop_drop->Q1,drop_length->Rx,drop_take->Vn,take_left'->We
open Nat renaming le_refl->Ob,le_trans->Oo,zero_le->Oz,mul_le_mul_right->OL,lt_or_ge->OV,le_succ->OZ,mul_one->O7,succ_mul->Pf,lt_of_lt_of_le->P0,le_add_right->P6,lt_succ_self->Rv,add_zero->RB,mod_eq_of_lt->Sp,mod_lt->SZ,div_le_self->Tc,sub_zero->Tz,le_of_eq->Um,mul_comm->Uq,mul_left_comm->UR,mul_le_mul_left->Vz,mul_add->VV,mul_assoc->WC
open Ne renaming symm->PB
open Option renaming isSome->T9
open Option.some renaming inj->OE,injEq->O4
open UInt8 renaming toNat_inj->Qw
namespace Go.Proofs.YtmkbhnholcaghaaGreatDoor
open Go.MapKept
theorem wE {a b:Sl}{L:List (List UInt8)}{H:aa}{K:Bool->aa->Prop}(e:az EN dI H a L)(f:az EN dI H b L)(hl:L.length<4611686018427387904)(h:K true H):JU.sp a b H K:=by
 refine JU.of ?_;unfold JU.vc;have j:=e.n (by decide);have l:=f.n (by decide);refine aC (by simp;omega) ?_;refine ar L.length (λk i H1=>i=(k:Int)/\H1=H) ⟨rfl,rfl⟩ ?_;rintro k _ H1 next hk ⟨rfl,rfl⟩ c
 refine ah (λg=>?_) (λ_=>h);have d:k<L.length:=by rw[j] at g;simpa using g
 refine rf e d ?_;refine rf f d ?_;refine aC (by simp) (c d _ _ ⟨aD k (by omega),rfl⟩)
def MV (G:Nat->Prop)(H:aa)(d m:Nat)(s:Dk):Prop:=∃a c,bo a H d s/\cp c H m s/\(∀b,a b->¬c b)/\∀b,G b↔a b\/c b
section
variable {Q:Nat->Prop}{A B:aa}{p dp m dm:Nat}{s1 s2:Pl}
end
theorem ao.cv {F:Nat->Prop}{H:aa}{p dp:Nat}{s:Pl}(h:ao F H p dp s):∃D,cp D H dp s.d/\(∀b,D b->F b)/\∀a H' d,cp a H' dp d->Step D a H H'->∃F',ao F' H' p dp (s.bE d)/\Step F F' H H':=by
 obtain⟨ll,zs,D,g,e⟩:=h;refine⟨D,g.cv,λb f=>(e b).2 (.inl f),λa H' d c i=>?_⟩;obtain⟨j,k⟩:=g.jP c i;exact j.out e k
theorem ao.head {F:Nat->Prop}{H:aa}{p dp:Nat}{s:Pl}(h:ao F H p dp s):∃ll:Sl,aj H p ry (dH dp ll s)/\ll.n=s.fs.length/\F p:=by
 obtain⟨ll,zs,D,g,a⟩:=h;exact⟨ll,g.pool.head,g.pool.n,(a p).2 (.inr (.inl rfl))⟩
structure lU (H0:aa)(F0:Nat->Prop)(k p dp:Nat)(sw sl:Sl)(F:Nat->Prop)(A:aa)(s:Pl)(w:RW):Prop where
 pool:ao F A p dp s
 wr:qX A k p w sw sl
 dis:∀b,F b->¬dt k sw sl b
 mod:Mod (λb=>F0 b\/b=k) H0 A
 own:∀b,F b->F0 b\/H0.size<=b
theorem HU {H:aa}{W:Int}{n:Nat}{K:Sl->aa->Prop}(F:0<=W)(G:n<1099511627776)(k:∀out H',az EB fx H' out (eS W n)->Ext H H'->(∀b,ag out b->H.size<=b)->K out H'):Kg.sp W (n:Int) H K:=by
 refine Kg.of ?_;unfold Kg.vc;have f:O5.wrap W=((UInt8.ofNat W.toNat).toNat:Int):=by
  have:W=(W.toNat:Int):=by omega
  rw[this,oF];simp
 have c:OI.wrap (n:Int)=(n:Int):=Jx (by omega);rw[f,c];refine ax λH1 I l g=>?_;refine ax λJ z2 r2 e2=>?_;refine vg (xd r2) (by simp) λr t o d=>?_;have v:=Ey ((l.ext e2).ext d);have w:bP EB t r.a (cO (eL [(n:Int)])):=by
  unfold bP;rw[iH,j9 (kz _)];exact o.reads
 have h:r.n=(cO (eL [(n:Int)])).length:=by have:=o.1;rw[cd];simpa using this.symm
 have e:(cO (eL [(n:Int)])).length=8:=by rw[cd];simp[eL,eN]
 refine az.append jo (s:=Sl.mk (some ⟨H.size,0,none⟩) 1 1) (x:=r) v w h (by rw[e];simp) (by rw[e];simp) λz y C i _=>?_;have z3:=d.size;have a:∀b,ag (Sl.mk (some ⟨H.size,0,none⟩) 1 1) b->H.size<=b:=by
  rintro b ⟨ad,D,E⟩;cases D;subst E;exact Ob _
 refine k z y C ⟨by have:=((g.trans e2).trans d).size;have:=i.1.size;omega,λb j _=>(i.1.same b (by have:=((g.trans e2).trans d).size;omega) λu=>by have:=a b u;omega).trans (((g.trans e2).trans d).same b j id)⟩ λb j=>?_;rcases i.2 b j with q|q
 ·exact a b q
 ·omega
section
variable {H0:aa}{F0:Nat->Prop}{k p dp:Nat}{sw sl:Sl}{F:Nat->Prop}{A:aa}{s:Pl}{w:RW}
theorem lU.step {F':Nat->Prop}{c:aa}{s':Pl}(h:lU H0 F0 k p dp sw sl F A s w)(d:ao F' c p dp s')(S:Step F F' A c):lU H0 F0 k p dp sw sl F' c s' w:=by
 refine⟨d,h.wr.mod S.mod λb a q=>h.dis b q a,λb a q=>?_,h.mod.trans' S.mod λb a q=>?_,λb a=>?_⟩
 ·rcases S.own b a with r|r
  ·exact h.dis b r q
  ·have:=h.wr.lt b q;omega
 ·rcases h.own b q with r|r
  ·exact .inl r
  ·omega
 ·rcases S.own b a with r|r
  ·exact h.own b r
  ·right;have:=h.mod.size;omega
theorem lU.ext {a:aa}(h:lU H0 F0 k p dp sw sl F A s w)(e:Ext A a):lU H0 F0 k p dp sw sl F a s w:=h.step (h.pool.ext e) ⟨e.mod,λ_ q=>.inl q⟩
theorem lU.dj {c:aa}{w':RW}{a:Sl}(h:lU H0 F0 k p dp sw sl F A s w)(m:Mod (λb=>b=k) A c)(hw:qX c k p w' a sl)(hs:∀b,ag a b->ag sw b):lU H0 F0 k p dp a sl F c s w':=by
 refine⟨h.pool.keep λb d hl=>m.same b hl λq=>h.dis b d (.inl q),hw,λb d q=>h.dis b d (q.imp_right λr=>r.imp_left (hs b)),h.mod.trans' m λb _ q=>.inr q,h.own⟩
set_option maxHeartbeats 1000000 in
theorem u9 {H:aa}{K:(Int×Int)->aa->Prop}(h:qX H k p w sw sl)(hp:ao F H p dp s)(hd:∀b,F b->¬dt k sw sl b)
  (T:w.rows<1099511627776) (U:0<=w.b.width) (hn:w.b.name.size<=9223372036854775807) (a7:s.d.aB<68716900000) (bs:s.next<1099511620000) (h0:0<=s.next) (V:s.Fit)
  (bx:(w.out s).1.d.aB<68716950000) (bA:(w.out s).1.next<1099511620000)
  (W:∀h hd,(Pl.leave (((w.out s).1.bt w.b.name 0).1.set h 2 hd) h).1.d.aB<68717000000) (a8:(w.out s).1.Fit) (C:∀h hd,(Pl.leave (((w.out s).1.bt w.b.name 0).1.set h 2 hd) h).1.Fit)
  (v:∀F' n H',ao F' H' p dp (w.close s).1->qX H' k p (w.close s).2.1 n sl->(∀b,F' b->¬dt k n sl b)->Step (λb=>F b\/dt k sw sl b) (λb=>F' b\/dt k n sl b) H H'->K (((w.close s).2.2.1:Int),(w.close s).2.2.2) H'):G5.sp (aE k) H K:=by
 refine G5.of ?_;unfold G5.vc;simp only[al,aE];unfold RW.close at v;refine pT h.row ?_;have B0:lU H F k p dp sw sl F H s w:=⟨hp,h,hd,.refl _ _,λb q=>.inl q⟩
 -- the end of all
 have fin:∀(F':Nat->Prop) (n:Sl) (A:aa) (s':Pl) (w':RW),(∀b,ag n b->ag sw b)->lU H F k p dp n sl F' A s' w'->Step (λb=>F b\/dt k sw sl b) (λb=>F' b\/dt k n sl b) H A:=by
  intro F' n A s' w' hs B;refine⟨B.mod.mono λb _ q=>q.imp_right .inl,λb t=>?_⟩;rcases t with q|q|q|q
  ·rcases B.own b q with r|r
   ·exact .inl (.inl r)
   ·exact .inr r
  ·exact .inl (.inr (.inl q))
  ·exact .inl (.inr (.inr (.inl (hs b q))))
  ·exact .inl (.inr (.inr (.inr q)))
 by_cases P:w.b.ready≠0
 ·rw[if_pos P] at v;refine⟨λe A=>e=w.b.ready/\A=H,aC (by simpa using P) ⟨rfl,rfl⟩,?_⟩;rintro _ A ⟨rfl,rfl⟩;exact aP (by simpa using P) (v F sw A hp h hd (.refl _ _))
 rw[if_neg P] at v;obtain⟨M,bl⟩:=Rb.kZ P;refine⟨λe A=>e=(w.out s).2.2/\∃R f,(∀b,ag f b->ag sw b)/\lU H F k p dp f sl R A (w.out s).1 (w.out s).2.1,?_,?_⟩
 ·refine aP (by simpa using P) ?_;refine Bh h hp hd M hn (by omega) (by omega) h0 V λR f H1 p1 h1 g m1 o=>?_;refine⟨rfl,R,f,g,p1,h1,?_,m1,o⟩;rintro b t (q|q|q)
  ·rcases o b t with r|r
   ·exact hd b r (.inl q)
   ·have:=h.lt b (.inl q);omega
  ·rcases o b t with r|r
   ·exact hd b r (.inr (.inl (g b q)))
   ·have:=h.lt b (.inr (.inl (g b q)));omega
  ·rcases o b t with r|r
   ·exact hd b r (.inr (.inr q))
   ·have:=h.lt b (.inr (.inr q));omega
 rintro _ H1 ⟨rfl,R,f,g,X⟩;have p1:=X.pool;have h1:=X.wr;have Y:0<=(w.out s).1.next:=by have:=p1.wf.tick;omega
 refine ah (λl=>?_) (λl=>?_)
 ·have S:(w.out s).2.2≠0:=by simpa using l
  rw[if_pos S] at v;exact v R f H1 p1 h1 X.dis (fin R f H1 _ _ g X)
 have S:¬(w.out s).2.2≠0:=by simpa using l
 rw[if_neg S] at v;have bb:(w.out s).2.1.b=w.b/\(w.out s).2.1.rows=w.rows:=by
  unfold RW.out at S ⊢;split
  ·exact⟨rfl,rfl⟩
  ·rename_i hq;rw[if_neg hq] at S;refine⟨?_,rfl⟩;show w.b.cr _=_;unfold Rb.cr;rw[if_neg S]
 obtain⟨Z,af⟩:=bb;rw[<-Z] at hn W U M C;rw[<-af] at T;generalize bB:(w.out s).1=s1 at*;generalize bC:(w.out s).2.1=a at*;refine aj.ld (c:=av) (i:=0) (x:=aE p) h1.row (bG.get 0 _ rfl) ?_;refine aj.ld (c:=aK) (i:=1) (x:=a.b.name) h1.row (bG.get 1 _ rfl) ?_;refine xg p1 hn (by omega) (by omega) λF2 H2 p2 S2=>?_;have B2:=X.step p2 S2;have E:(s1.bt a.b.name 0).1.next<=s1.next+1:=s1.lv Y (by omega)
 have N:a.head s1=if (s1.bt a.b.name 0).2.2≠0 then ((s1.bt a.b.name 0).1,(s1.bt a.b.name 0).2.2) else
   if (Pl.leave ((s1.bt a.b.name 0).1.set (s1.bt a.b.name 0).2.1 2 (eS a.b.width a.rows)) (s1.bt a.b.name 0).2.1).2≠0 then Pl.leave ((s1.bt a.b.name 0).1.set (s1.bt a.b.name 0).2.1 2 (eS a.b.width a.rows)) (s1.bt a.b.name 0).2.1
   else (Pl.leave ((s1.bt a.b.name 0).1.set (s1.bt a.b.name 0).2.1 2 (eS a.b.width a.rows)) (s1.bt a.b.name 0).2.1).1.flush a.b.name:=rfl
 have bd:=(s1.bt a.b.name 0).1.jB (s1.bt a.b.name 0).2.1 2 (eS a.b.width a.rows);have an:=W (s1.bt a.b.name 0).2.1 (eS a.b.width a.rows);have a1:=C (s1.bt a.b.name 0).2.1 (eS a.b.width a.rows);generalize (s1.bt a.b.name 0).1=s2 at*;generalize (s1.bt a.b.name 0).2.1=hh at*;generalize (s1.bt a.b.name 0).2.2=e2 at*
 -- what stands behind each cut
 obtain⟨D,u⟩:∃D:Pl×Int,D=if e2≠0 then (s2,e2) else s2.set hh 2 (eS a.b.width a.rows):=⟨_,rfl⟩
 obtain⟨X1,O⟩:∃X1:Pl×Int,X1=if e2≠0 then (s2,e2) else Pl.leave (s2.set hh 2 (eS a.b.width a.rows)) hh:=⟨_,rfl⟩
 have G:X1=Pl.leave D hh:=by
  rw[O,u];by_cases q:e2≠0
  ·rw[if_pos q,if_pos q];exact(if_neg q).symm
  ·rw[if_neg q,if_neg q]
 have a6:a.head s1=if X1.2≠0 then X1 else X1.1.flush a.b.name:=by
  rw[N,O];by_cases q:e2≠0
  ·rw[if_pos q,if_pos q,if_pos q]
  ·rw[if_neg q,if_neg q]
 have bn:D.1.next<=s1.next+1:=by
  rw[u];by_cases q:e2≠0
  ·rw[if_pos q];exact E
  ·rw[if_neg q,bd];exact E
 have I:X1.2=0->X1.1.d.aB<68717000000/\X1.1.Fit:=by
  rw[O];by_cases q:e2≠0
  ·rw[if_pos q];intro r;exact absurd r q
  ·rw[if_neg q];intro _;exact⟨an,a1⟩
 refine⟨λe A=>e=D.2/\∃F',lU H F k p dp f sl F' A D.1 a,?_,?_⟩
 ·refine ah (λl=>?_) (λl=>?_)
  ·have q:¬e2≠0:=by simpa using l
   rw[if_neg q] at u;refine⟨λA=>bG A k Iw p a.b [f.v,.int .i64 (a.n:Int),sl.v,.int .i64 (a.rows:Int)],B2.wr.row,?_⟩;refine aj.dw (c:=av) (i:=0) (x:=aE p) (cs:=λ_=>_) (λ_ q=>q) (λ_ _=>bG.get 0 _ rfl) ?_;refine aj.ld (c:=ab .i64) (i:=2) (x:=a.b.width) B2.wr.row (bG.get 2 _ rfl) ?_;refine aj.dw (c:=ab .i64) (i:=8) (x:=(a.rows:Int)) (cs:=λ_=>_) (λ_ q=>q) (λ_ _=>bG.tail (j:=3) rfl) ?_;refine HU U T λz A3 oz x3 fz=>?_;have J:=B2.ext x3;refine⟨J.wr.row,?_⟩;refine xu (kd:=2) J.pool (by omega) (bV oz) (λad ha r=>by have:=p2.lt _ r;have:=fz _ ⟨ad,ha,rfl⟩;omega) λF4 H4 p4 S4=>?_;rw[u];exact⟨rfl,F4,J.step p4 S4⟩
  ·have q:e2≠0:=by simpa using l
   rw[if_pos q] at u;rw[u];exact⟨rfl,F2,B2⟩
 rintro _ A3 ⟨rfl,F3,J⟩;refine⟨λe A=>e=X1.2/\∃F',lU H F k p dp f sl F' A X1.1 a,?_,?_⟩
 ·refine ah (λl=>?_) (λl=>?_)
  ·have q:D.2=0:=by simpa using l
   refine aj.ld (c:=av) (i:=0) (x:=aE p) J.wr.row (bG.get 0 _ rfl) ?_;refine j8 J.pool (by omega) λF4 H4 p4 S4=>?_;have e:X1=D.1.aY hh:=by rw[G];exact if_pos q
   rw[e];exact⟨rfl,F4,J.step p4 S4⟩
  ·have q:¬D.2=0:=by simpa using l
   have e:X1=D:=by rw[G];exact if_neg q
   rw[e];exact⟨rfl,F3,J⟩
 rintro _ A4 ⟨rfl,F4,B4⟩;refine⟨λe A=>e=(a.head s1).2/\∃F',lU H F k p dp f sl F' A (a.head s1).1 a,?_,?_⟩
 ·refine ah (λl=>?_) (λl=>?_)
  ·have q:X1.2=0:=by simpa using l
   refine aj.ld (c:=av) (i:=0) (x:=aE p) B4.wr.row (bG.get 0 _ rfl) ?_;refine aj.ld (c:=aK) (i:=1) (x:=a.b.name) B4.wr.row (bG.get 1 _ rfl) ?_;refine zh B4.pool (I q).1 (I q).2 λL H5 p5 S5=>?_;have e:a.head s1=X1.1.flush a.b.name:=by rw[a6];exact if_neg (by simpa using q)
   rw[e];exact⟨rfl,L,B4.step p5 S5⟩
  ·have q:¬X1.2=0:=by simpa using l
   have e:a.head s1=X1:=by rw[a6];exact if_pos q
   rw[e];exact⟨rfl,F4,B4⟩
 rintro _ A5 ⟨rfl,L,y⟩;unfold RW.ends at v;refine ah (λl=>?_) (λl=>?_)
 ·have q:(a.head s1).2≠0:=by simpa using l
  rw[if_pos q] at v;refine qa y.wr.row M λA6 r6 m6 z6=>?_;have B6:lU H F k p dp f sl L A6 (a.head s1).1 {a with b:=a.b.cr (a.head s1).2}:=y.dj m6 ⟨r6,y.wr.wait.mod m6 λb t q=>y.wr.jG (q▸t),y.wr.last.mod m6 λb t q=>y.wr.yV (q▸t)⟩ λ_ q=>q;exact v L f A6 B6.pool B6.wr B6.dis (fin L f A6 _ _ g B6)
 ·have q:¬(a.head s1).2≠0:=by simpa using l
  rw[if_neg q] at v;refine aj.st y.wr.row (i:=4) (by simp[dq]) rfl λA7 r7 m7 z7=>?_;rw[xD] at r7;have B7:lU H F k p dp f sl L A7 (a.head s1).1 a.stop:=y.dj m7 ⟨r7,y.wr.wait.mod m7 λb t q=>y.wr.jG (q▸t),y.wr.last.mod m7 λb t q=>y.wr.yV (q▸t)⟩ λ_ q=>q;refine aj.ld (c:=ab .i64) (i:=8) (x:=(a.rows:Int)) B7.wr.row (bG.tail (j:=3) rfl) ?_;exact v L f A7 B7.pool B7.wr B7.dis (fin L f A7 _ _ g B7)
end
section
variable {F:Nat->Prop}{H:aa}{p dp:Nat}{s:Pl}{n:ByteArray}{W:Int}{K:(Option Addr×Int)->aa->Prop}
theorem xo (v:ao F H p dp s)(T:n.size<=9223372036854775807)(y:s.d.aB<68719460000)(U:s.next<1099511610000)(h0:0<=s.next)(g:s.Fit)
  (a:∀F' H',ao F' H' p dp (bj s n W).1->Step F F' H H'->(bj s n W).2.1=none->K (none,(bj s n W).2.2) H')
  (h:∀F' H' k w,ao F' H' p dp (bj s n W).1->Step F F' H H'->(bj s n W).2.1=some w->qX H' k p w bf bf->H.size<=k->¬F' k->K (aE k,(bj s n W).2.2) H'):Hm.sp (aE p) n W H K:=by
 refine Hm.of ?_;unfold Hm.vc;simp only[al,aE];refine aC rfl ?_;refine eY ?_;by_cases r:aH W=0
 ·have em:bj s n W=(s,none,60):=if_pos r;rw[em] at a;exact aP (by simpa using r) (a F H v (.refl _ _) rfl)
 refine aC (by simpa using r) ?_;obtain⟨ll,z,_,V⟩:=v.head;refine aj.ld (c:=av) (i:=0) (x:=aE dp) z rfl ?_;obtain⟨D,d1,_,d3⟩:=v.cv;refine Al d1 λX j d4 Y=>?_;obtain⟨C,p4,E⟩:=d3 X j _ d4 Y;have em:bj s n W=if (s.d.create n).2≠0 then (s.bE (s.d.create n).1,none,(s.d.create n).2)
   else if ((s.bE (s.d.create n).1).more n 0 []).2≠0 then (((s.bE (s.d.create n).1).more n 0 []).1,none,((s.bE (s.d.create n).1).more n 0 []).2)
   else (((s.bE (s.d.create n).1).more n 0 []).1,some (vS n W),0):=by unfold bj;rw[if_neg r]
 have G:(s.bE (s.d.create n).1).d.aB<68719470000:=by have:=s.d.lF n;show (s.d.create n).1.aB<_;omega
 have I:(s.bE (s.d.create n).1).Fit:=g.bE (s.d.j5 n);have Z:(s.bE (s.d.create n).1).next=s.next:=rfl
 generalize s.bE (s.d.create n).1=J at*;generalize (s.d.create n).2=L at*;refine ah (λe=>?_) (λe=>?_)
 ·have q:L≠0:=by simpa using e
  rw[if_pos q] at em;rw[em] at a;exact a C j p4 E rfl
 have q:¬L≠0:=by simpa using e
 rw[if_neg q] at em;refine ax λM z5 r5 N=>?_;have p5:=p4.ext N;have o:bG M j.size Iw p ⟨n,W,0,false⟩ [bf.v,.int .i64 ((0:Nat):Int),bf.v,.int .i64 ((0:Nat):Int)]:=r5;have f:¬C j.size:=λq=>by have:=p4.lt _ q;omega
 refine Br (kd:=0) (sl:=Sl.mk none 0 0) (l:=[]) o p5 f ⟨rfl,Reads.nil _ _⟩ (by intro ad q;cases q) T G (by omega) (by omega) I λO P R t=>?_;have S:Step F C H M:=E.trans ⟨Ext.mod N,λb q=>.inl q⟩;have r6:=o.mod t.mod f;have z4:=E.mod.size;refine ah (λe=>?_) (λe=>?_)
 ·have q:(J.more n 0 []).2≠0:=by simpa using e
  rw[if_pos q] at em;rw[em] at a;exact a O P R (S.trans t) rfl
 ·have q:¬(J.more n 0 []).2≠0:=by simpa using e
  rw[if_neg q] at em;rw[em] at h;refine h O P j.size (vS n W) R (S.trans t) rfl ⟨r6,az.nil _ _ _,aM.nil _ _ _ _⟩ z4 λq=>?_;rcases t.own _ q with u|u
  ·exact f u
  ·omega
end
def jR:Option Nat->Int
 |none=>0
 |some k=>(k:Int)+1
structure AN (H:aa)(k p:Nat)(r:RR)(si:Sl)(rs:List Sl):Prop where
 row:bG H k Lw p r.b [.int .i64 (r.rows:Int),.int .i64 (r.at_:Int),.int .i64 (jR r.page),si.v]
 ins:aO H 0 si rs r.ins
section
variable {H:aa}{k p:Nat}{r:RR}{si:Sl}{rs:List Sl}
theorem AN.lt (h:AN H k p r si rs):∀b,qJ k si rs b->b<H.size:=by
 rintro b (rfl|q|⟨x,a,q⟩)
 ·exact aA h.row
 ·exact(h.ins.block.1 b q).2
 ·exact(h.ins.block.2 x a b q).2
theorem AN.mod {G:Nat->Prop}{H':aa}(h:AN H k p r si rs)(m:Mod G H H')(a:∀b,qJ k si rs b->¬G b):AN H' k p r si rs:=
 ⟨h.row.mod m (a k (.inl rfl)),h.ins.mod m (λb c=>a b (.inr (.inl c))) λx d b c=>a b (.inr (.inr ⟨x,d,c⟩))⟩
theorem AN.CU (h:AN H k p r si rs):¬ag si k:=λq=>by
 obtain⟨cur,a⟩:=h.ins.out.obj k q;exact absurd (aF a h.row) (by decide)
theorem AN.jv (h:AN H k p r si rs):∀x∈rs,¬ag x k:=λx a q=>by
 obtain⟨l,hl⟩:=h.ins.rowAt a;obtain⟨cur,b⟩:=hl.obj k q;exact absurd (aF b h.row) (by decide)
end
structure kU (H0:aa)(F0 O0:Nat->Prop)(k p dp:Nat)(si:Sl)(rs:List Sl)(F:Nat->Prop)(A:aa)(s:Pl)(r:RR):Prop where
 pool:ao F A p dp s
 rd:AN A k p r si rs
 dis:∀b,F b->¬qJ k si rs b
 mod:Mod (λb=>F0 b\/b=k) H0 A
 own:∀b,F b->F0 b\/H0.size<=b
 own2:∀b,qJ k si rs b->O0 b\/H0.size<=b
section
variable {H0:aa}{F0 O0:Nat->Prop}{k p dp:Nat}{si:Sl}{rs:List Sl}{F:Nat->Prop}{A:aa}{s:Pl}{r:RR}
theorem kU.step {F':Nat->Prop}{c:aa}{s':Pl}(h:kU H0 F0 O0 k p dp si rs F A s r)(d:ao F' c p dp s')(S:Step F F' A c):kU H0 F0 O0 k p dp si rs F' c s' r:=by
 refine⟨d,h.rd.mod S.mod λb a q=>h.dis b q a,λb a q=>?_,h.mod.trans' S.mod λb a q=>?_,λb a=>?_,h.own2⟩
 ·rcases S.own b a with r|r
  ·exact h.dis b r q
  ·have:=h.rd.lt b q;omega
 ·rcases h.own b q with r|r
  ·exact .inl r
  ·omega
 ·rcases S.own b a with r|r
  ·exact h.own b r
  ·right;have:=h.mod.size;omega
theorem kU.ext {a:aa}(h:kU H0 F0 O0 k p dp si rs F A s r)(e:Ext A a):kU H0 F0 O0 k p dp si rs F a s r:=h.step (h.pool.ext e) ⟨Ext.mod e,λ_ q=>.inl q⟩
theorem kU.dj {e:aa}{r':RR}{a:Sl}{c:List Sl}(h:kU H0 F0 O0 k p dp si rs F A s r)(m:Mod (λb=>b=k) A e)(f:AN e k p r' a c)(hs:∀b,qJ k a c b->qJ k si rs b\/(H0.size<=b/\¬F b)):kU H0 F0 O0 k p dp a c F e s r':=by
 refine⟨h.pool.keep λb d hl=>m.same b hl λq=>h.dis b d (.inl q),f,λb d q=>?_,h.mod.trans' m λb _ q=>.inr q,h.own,λb q=>?_⟩
 ·rcases hs b q with u|u
  ·exact h.dis b d u
  ·exact u.2 d
 ·rcases hs b q with u|u
  ·exact h.own2 b u
  ·exact .inr u.1
theorem kU.cr {e:Int}{K:Int->aa->Prop}(h:kU H0 F0 O0 k p dp si rs F A s r)(hw:r.b.wrong=0)(f:∀a,kU H0 F0 O0 k p dp si rs F a s {r with b:=r.b.cr e}->A.size<=a.size->K e a):Cl.sp (aE k) e A K:=by
 refine qa h.rd.row hw λa r' d z'=>f a (h.dj d ⟨r',h.rd.ins.mod d (λb c q=>h.rd.CU (q▸c)) λx g b c q=>h.rd.jv x g (q▸c)⟩ λb q=>.inl q) (Um z'.symm)
set_option maxHeartbeats 1000000 in
theorem E4 {j:Nat}{K:Int->aa->Prop}(h:kU H0 F0 O0 k p dp si rs F A s r)(ok:r.Ok)(o:r.b.wrong=0)(hj:j*r.b.room<=r.rows)(a8:j<1099511627776)
  (hn:r.b.name.size<=9223372036854775807) (t:s.d.aB<68719470000) (P:s.next<1099511620000) (h0:0<=s.next)
  (d:∀F' R S T,kU H0 F0 O0 k p dp R S F' T (r.load s j).1 (r.load s j).2.1->A.size<=T.size->K (r.load s j).2.2 T):Jn.sp (aE k) (j:Int) A K:=by
 refine Jn.of ?_;unfold Jn.vc;simp only[al,aE];obtain⟨D,bb⟩:=cZ r.b;unfold RR.load at d;refine aj.ld (c:=ab .i64) (i:=7) (x:=jR r.page) h.rd.row (bG.tail (j:=2) rfl) ?_;rw[aD j (by omega)];have e1:((j+1:Nat):Int)=(j:Int)+1:=by omega
 by_cases M:r.page=some j
 ·rw[if_pos M] at d;refine aP (by rw[M];simp[jR]) ?_;exact d F si rs A h (Ob _)
 rw[if_neg M] at d;refine aC ?_ ?_
 ·cases e:r.page with
  |none=>simp only[jR,beq_eq_false_iff_ne,ne_eq];omega
  |some i=>
    have:i≠j:=λq=>M (by rw[e,q]);simp only[jR,beq_eq_false_iff_ne,ne_eq];omega
 refine aj.ld (c:=ab .i64) (i:=2) (x:=r.b.width) h.rd.row (bG.get 2 _ rfl) ?_;refine eY ?_;refine xR h.rd.row h.pool (λq=>h.dis k q (.inl rfl)) hn t P h0 λN A1 sl p1 E o1 f1 U _=>?_;rw[e1] at p1 o1 U ⊢;have G:=h.step p1 E;generalize (s.look r.b.name ((j:Int)+1)).1=s1 at*;generalize (s.look r.b.name ((j:Int)+1)).2.1=kd at*;generalize (s.look r.b.name ((j:Int)+1)).2.2.1=b at*;generalize (s.look r.b.name ((j:Int)+1)).2.2.2=e at*;refine ah (λa=>?_) (λa=>?_)
 ·have V:e≠0:=by simpa using a
  rw[if_pos V] at d;exact G.cr o λX v z2=>d N si rs X v (Oo E.mod.size z2)
 have V:¬e≠0:=by simpa using a
 rw[if_neg V] at d;refine aj.ld (c:=ab .i64) (i:=2) (x:=r.b.width) G.rd.row (bG.get 2 _ rfl) ?_;refine uS (b:=eH b) o1 (by rw[kC];omega) λC y X ro e2=>?_;have v:=G.ext e2;have f:r.fits j kd b=true↔(kd=1/\pM (eH b) r.b.width=0/\(jm (eH b) r.b.width).length=min r.b.room (r.rows - j*r.b.room)):=by
  unfold RR.fits pM;simp only[Oj,beq_iff_eq,decide_eq_true_eq];cases eG (eH b) r.b.width<;>simp
 refine ah (λa=>?_) (λa=>?_)
 ·have z:¬r.fits j kd b=true:=λq=>by
   obtain⟨q1,q2,_⟩:=f.1 q;rw[q2,q1] at a;simp at a
  rw[if_neg z] at d;exact v.cr o λO Y z3=>d N si rs O Y (by have:=E.mod.size;have:=e2.size;omega)
 have I:kd=1/\pM (eH b) r.b.width=0:=by
  simp only[PW,bne_eq_false_iff_eq] at a;refine⟨?_,a.2⟩;have:kd.toNat=1:=by omega
  exact Qw.1 this
 refine aj.ld (c:=ab .i64) (i:=5) (x:=(r.rows:Int)) v.rd.row (bG.tail (j:=0) rfl) ?_;have Z:(j:Int)*(r.b.room:Int)=((j*r.b.room:Nat):Int):=by simp
 have af:N6.wrap ((j:Int)*aH r.b.width)=((j*r.b.room:Nat):Int):=by
  rw[D,Z];have:=ok.rows;exact wrap64 (by omega) (by omega)
 have an:N6.wrap ((r.rows:Int) - ((j*r.b.room:Nat):Int))=((r.rows - j*r.b.room:Nat):Int):=by
  have:=ok.rows;rw[wrap64 (by omega) (by omega)];omega
 rw[af,an,D,ro.n];have J:(if ((r.rows - j*r.b.room:Nat):Int)<(r.b.room:Int) then ((r.rows - j*r.b.room:Nat):Int) else (r.b.room:Int))=((min r.b.room (r.rows - j*r.b.room):Nat):Int):=by
  split<;>omega
 rw[J];refine ah (λa=>?_) (λa=>?_)
 ·have z:¬r.fits j kd b=true:=λq=>by
   obtain⟨_,_,q3⟩:=f.1 q;rw[q3] at a;simp at a
  rw[if_neg z] at d;exact v.cr o λO Y z3=>d N si rs O Y (by have:=E.mod.size;have:=e2.size;omega)
 have a1:((jm (eH b) r.b.width).length:Int)=((min r.b.room (r.rows - j*r.b.room):Nat):Int):=by simpa only[bne_eq_false_iff_eq] using a
 have hf:r.fits j kd b=true:=f.2 ⟨I.1,I.2,Int.ofNat.inj a1⟩;rw[if_pos hf] at d;refine aj.st v.rd.row (i:=7) (by simp[dq]) rfl λO r3 m3 z3=>?_;refine aj.st r3 (i:=8) (by simp[dq]) rfl λA4 r4 m4 z4=>?_;have m24:=m3.trans m4;have a6:bG A4 k Lw p r.b [.int .i64 (r.rows:Int),.int .i64 (r.at_:Int),.int .i64 (jR (some j)),C.v]:=by
  have e:((dq p r.b++[.int .i64 (r.rows:Int),.int .i64 (r.at_:Int),.int .i64 (jR r.page),si.v]).toArray.setIfInBounds 7 (.int .i64 ((j:Int)+1))).setIfInBounds 8 C.v=(dq p r.b++[.int .i64 (r.rows:Int),.int .i64 (r.at_:Int),.int .i64 (jR (some j)),C.v]).toArray:=by
   simp[dq,jR]
  rw[e] at r4;exact r4
 have g:=ro.block;have bd:k<A1.size:=aA G.rd.row;have bl:=G.mod.size;have a7:aO X 0 C y (jm (eH b) r.b.width):=⟨ro.out.w5,ro.len,λi x l h1 h2=>(ro.row i x l h1 h2).w5,ro.apart⟩;have rn:AN A4 k p {r with page:=some j,ins:=jm (eH b) r.b.width} C y:=
  ⟨a6,a7.mod m24 (λb L q=>by have:=(g.1 b L).1;omega) λx hx b L q=>by have:=(g.2 x hx b L).1;omega⟩
 refine d N C y A4 (v.dj m24 rn λb L=>?_) (by have:=E.mod.size;have:=e2.size;have:=m24.size;omega);rcases L with q|q|⟨x,hx,q⟩
 ·exact .inl (.inl q)
 ·have:=(g.1 b q).1;exact .inr ⟨by omega,λu=>by have:=p1.lt b u;omega⟩
 ·have:=(g.2 x hx b q).1;exact .inr ⟨by omega,λu=>by have:=p1.lt b u;omega⟩
theorem Fy {K:(Sl×Bool×Int)->aa->Prop}(h:kU H0 F0 O0 k p dp si rs F A s r)(ok:r.Ok)
  (hn:r.b.name.size<=9223372036854775807) (y:s.d.aB<68719470000) (M:s.next<1099511620000) (h0:0<=s.next)
  (u:∀F' E G J l,kU H0 F0 O0 k p dp E G F' J (r.next s).1 (r.next s).2.1->Ints .u64 J l (r.next s).2.2.1->(∀b,ag l b->qJ k E G b/\b≠k)->A.size<=J.size->K (l,(r.next s).2.2.2.1,(r.next s).2.2.2.2) J):BR.sp (aE k) A K:=by
 refine BR.of ?_;unfold BR.vc;simp only[al,aE];obtain⟨N,af⟩:=cZ r.b;unfold RR.next at u;refine pT h.rd.row ?_;refine ah (λt=>?_) (λt=>?_)
 ·have L:r.b.ready≠0:=by simpa using t
  rw[if_pos L] at u;exact u F si rs A _ h ⟨rfl,Reads.nil _ _⟩ (λb q=>absurd q (aS b)) (Ob _)
 have L:¬r.b.ready≠0:=by simpa using t
 obtain⟨O,_⟩:=Rb.kZ L;rw[if_neg L] at u;refine aj.ld (c:=ab .i64) (i:=6) (x:=(r.at_:Int)) h.rd.row (bG.tail (j:=1) rfl) ?_;refine aj.ld (c:=ab .i64) (i:=5) (x:=(r.rows:Int)) h.rd.row (bG.tail (j:=0) rfl) ?_;have Z:=ok.at_;refine ah (λt=>?_) (λt=>?_)
 ·have e1:r.at_=r.rows:=by
   have:(r.at_:Int)>=(r.rows:Int):=by simpa using t
   omega
  rw[if_pos e1] at u;exact u F si rs A _ h ⟨rfl,Reads.nil _ _⟩ (λb q=>absurd q (aS b)) (Ob _)
 have an:r.at_<r.rows:=by
  have:¬(r.at_:Int)>=(r.rows:Int):=by simpa using t
  omega
 rw[if_neg (by omega)] at u;refine aj.ld (c:=ab .i64) (i:=2) (x:=r.b.width) h.rd.row (bG.get 2 _ rfl) ?_;refine eY ?_;refine aj.ld (c:=ab .i64) (i:=6) (x:=(r.at_:Int)) h.rd.row (bG.tail (j:=1) rfl) ?_;have P:=ok.room;have a1:=ok.rows;rw[N];refine⟨by omega,?_⟩;have hdiv:N6.wrap (OX (r.at_:Int) (r.b.room:Int))=((r.at_/r.b.room:Nat):Int):=by
  have h1:OX (r.at_:Int) (r.b.room:Int)=((r.at_/r.b.room:Nat):Int):=rfl;have h2:=Tc r.at_ r.b.room;rw[h1];generalize r.at_/r.b.room=q at h2 ⊢;exact wrap64 (by omega) (by omega)
 rw[hdiv];have a6:=Nat.div_mul_le_self r.at_ r.b.room;have a7:=Tc r.at_ r.b.room;refine E4 h ok O (by omega) (by omega) hn y M h0 λR d f A1 g hz=>?_;obtain⟨k1,k2,k3,k4,_,k6⟩:=RR.oN (s:=s) (j:=r.at_/r.b.room) ok;generalize (r.load s (r.at_/r.b.room)).1=s1 at*;generalize (r.load s (r.at_/r.b.room)).2.1=o at*;generalize (r.load s (r.at_/r.b.room)).2.2=e2 at*;refine ah (λt=>?_) (λt=>?_)
 ·have S:e2≠0:=by simpa using t
  rw[if_pos S] at u;exact u R d f A1 _ g ⟨rfl,Reads.nil _ _⟩ (λb q=>absurd q (aS b)) hz
 have S:¬e2≠0:=by simpa using t
 rw[if_neg S] at u;obtain⟨k7,k8⟩:=k6 (by omega);have hlen:=k1.page _ k8;rw[k7,k2] at hlen;have hm:=SZ r.at_ P;have a8:=Nat.div_add_mod r.at_ r.b.room;have bb:r.b.room*(r.at_/r.b.room)=r.at_/r.b.room*r.b.room:=Uq _ _;have z:r.at_%r.b.room<o.ins.length:=by rw[hlen];omega
 refine aj.ld (c:=ak) (i:=8) (x:=d) g.rd.row (bG.tail (j:=3) rfl) ?_;refine aj.ld (c:=ab .i64) (i:=6) (x:=(o.at_:Int)) g.rd.row (bG.tail (j:=1) rfl) ?_;rw[k3];refine⟨by omega,?_⟩;have I:Pq (r.at_:Int) (r.b.room:Int)=((r.at_%r.b.room:Nat):Int):=rfl;rw[I];have C:r.at_%r.b.room<f.length:=by rw[g.rd.ins.len];exact z
 have T:∀{K:Addr->Sl->Prop},(∀a,K a f[r.at_%r.b.room])->ae d.a λa=>(0<=((r.at_%r.b.room:Nat):Int)/\((r.at_%r.b.room:Nat):Int)<(d.n:Int))/\Go.Proofs.YtmkbhnholcaghaaGreatDoor.ld ak A1 (a.add (((r.at_%r.b.room:Nat):Int).toNat*1)) λx=>K a x:=λ{K} hk=>by
  obtain⟨ad,U,t⟩:=g.rd.ins.out.reads.at (i:=r.at_%r.b.room) (by simpa using C);refine aX ad U ⟨⟨by omega,by rw[g.rd.ins.n];omega⟩,f[r.at_%r.b.room],?_,hk ad⟩;rw[Od,O7,t,List.getElem_map]
 refine T λ_=>?_;have ol:=g.rd.ins.row _ _ _ (N8 C) (N8 z);refine aj.ld (c:=ab .i64) (i:=6) (x:=(o.at_:Int)) g.rd.row (bG.tail (j:=1) rfl) ?_;refine aj.st g.rd.row (i:=6) (by simp[dq]) rfl λV X m3 z3=>?_;rw[k3,aD r.at_ (by omega)] at X;have Y:bG V k Lw p o.b [.int .i64 (o.rows:Int),.int .i64 ((r.at_+1:Nat):Int),.int .i64 (jR o.page),d.v]:=by
  have e:(dq p o.b++[.int .i64 (o.rows:Int),.int .i64 (r.at_:Int),.int .i64 (jR o.page),d.v]).toArray.setIfInBounds 6 (.int .i64 ((r.at_+1:Nat):Int))=(dq p o.b++[.int .i64 (o.rows:Int),.int .i64 ((r.at_+1:Nat):Int),.int .i64 (jR o.page),d.v]).toArray:=by
   simp[dq]
  rw[e] at X;exact X
 have B3:kU H0 F0 O0 k p dp d f R V s1 {o with at_:=r.at_+1}:=g.dj m3 ⟨Y,g.rd.ins.mod m3 (λb D q=>g.rd.CU (q▸D)) λx hx b D q=>g.rd.jv x hx (q▸D)⟩ λb q=>.inl q;have v:f[r.at_%r.b.room]∈f:=OP C;refine u R d f V _ B3 ?_ (λb D=>⟨.inr (.inr ⟨_,v,D⟩),λq=>g.rd.jv _ v (q▸D)⟩) (by omega);have eg:o.ins.getD (r.at_%r.b.room) []=o.ins[r.at_%r.b.room]:=by rw[Pn,N8 z];rfl
 rw[eg];exact(aM.ints ol).mod m3 λad U q=>g.rd.jv _ v (q▸⟨ad,U,rfl⟩)
end
theorem CI {n room:Nat}{H:aa}{K:Int->aa->Prop}(a:0<room/\room<=504)(e:n<=528482304)(b:K (de n room:Int) H):Js.sp (n:Int) (room:Int) H K:=by
 refine Js.of ?_;unfold Js.vc;refine⟨by omega,?_⟩;have c:N6.wrap ((n:Int)+(room:Int))=((n+room:Nat):Int):=by rw[wrap64 (by omega) (by omega)];omega
 have e2:N6.wrap (((n+room:Nat):Int) - 1)=((n+room - 1:Nat):Int):=by rw[wrap64 (by omega) (by omega)];omega
 have d:OX ((n+room - 1:Nat):Int) (room:Int)=((de n room:Nat):Int):=rfl;rw[c,e2,d];have:=mO (n:=n) a.1;rw[wrap64 (by omega) (by omega)];exact b
section
variable {F:Nat->Prop}{H:aa}{p dp:Nat}{s:Pl}{n:ByteArray}{W:Int}{K:(Option Addr×Int)->aa->Prop}
set_option maxHeartbeats 1000000 in
theorem xJ (Z:ao F H p dp s)(hn:n.size<=9223372036854775807)(af:s.d.aB<68719460000)(an:s.next<1099511620000)(h0:0<=s.next)(C:(s.look n 0).1.d.aB<68719476736)
  (f:∀F' H',ao F' H' p dp (rnOpen s n W).1->Step F F' H H'->(rnOpen s n W).2.1=none->K (none,(rnOpen s n W).2.2) H')
  (l:∀F' H' k r,ao F' H' p dp (rnOpen s n W).1->Step F F' H H'->(rnOpen s n W).2.1=some r->AN H' k p r bf []->H.size<=k->¬F' k->K (aE k,(rnOpen s n W).2.2) H'):G7.sp (aE p) n W H K:=by
 refine G7.of ?_;unfold G7.vc;simp only[al,aE];refine aC rfl ?_;refine eY ?_;by_cases X:aH W=0
 ·have em:rnOpen s n W=(s,none,60):=if_pos X;rw[em] at f;exact aP (by simpa using X) (f F H Z (.refl _ _) rfl)
 refine aC (by simpa using X) ?_;refine ax λH3 z3 r3 e3=>?_;have p3:=Z.ext e3;have S3:Step F F H H3:=⟨Ext.mod e3,λb q=>.inl q⟩;have hk:¬F H.size:=λq=>by have:=Z.lt _ q;omega
 have b3:bG H3 H.size Lw p ⟨n,W,0,false⟩ [.int .i64 ((0:Nat):Int),.int .i64 ((0:Nat):Int),.int .i64 (jR none),bf.v]:=r3;refine xR (g:=0) (b:=⟨n,W,0,false⟩) b3 p3 hk hn (by omega) an h0 λv H4 sl p4 S4 y f4 a1 c4=>?_;have em:rnOpen s n W=if (s.look n 0).2.2.2≠0 then ((s.look n 0).1,none,(s.look n 0).2.2.2)
  else if ¬((s.look n 0).2.1=2/\(s.look n 0).2.2.1.length=9/\(((s.look n 0).2.2.1.getD 0 0).toNat:Int)=W) then ((s.look n 0).1,none,280)
  else if ((s.look n 0).1.d.len n).2≠0 then ((s.look n 0).1,none,((s.look n 0).1.d.len n).2)
  else if bY (eH ((s.look n 0).2.2.1.drop 1))<=528482304/\((s.look n 0).1.d.len n).1=1+de (bY (eH ((s.look n 0).2.2.1.drop 1))).toNat (aH W).toNat then
   ((s.look n 0).1,some ⟨⟨n,W,0,false⟩,(bY (eH ((s.look n 0).2.2.1.drop 1))).toNat,0,none,[]⟩,0)
  else ((s.look n 0).1,none,280):=by unfold rnOpen;rw[if_neg X]
 rw[em] at f l;simp only at p4 y a1 ⊢;generalize (s.look n 0).1=s4 at*;generalize (s.look n 0).2.1=kd at*;generalize (s.look n 0).2.2.1=b at*;generalize (s.look n 0).2.2.2=e at*;have Y:=S3.trans S4;have b4:=b3.mod S4.mod hk;have a6:=y.n;refine ah (λh=>?_) (λh=>?_)
 ·have e0:e≠0:=by simpa using h
  rw[if_pos e0] at f;exact f v H4 p4 Y rfl
 have e0:¬e≠0:=by simpa using h
 rw[if_neg e0] at f l;refine ah (λh=>?_) (λh=>?_)
 ·have o:¬(kd=2/\b.length=9/\((b.getD 0 0).toNat:Int)=W):=by
   rintro⟨q1,q2,_⟩;rw[a6,q2,q1] at h;simp at h
  rw[if_pos o] at f;exact f v H4 p4 Y rfl
 have a7:kd=2/\b.length=9:=by
  simp only[PW,bne_eq_false_iff_eq] at h;refine⟨Qw.1 (by have:=h.1;show kd.toNat=2;omega),by have:=h.2;omega⟩
 obtain⟨a8,bb⟩:=a7;refine dY y (i:=0) (by omega) rfl λad ha=>?_;have bd:N6.wrap ((b[0]'(by omega)).toNat:Int)=((b.getD 0 0).toNat:Int):=by
  have:b.getD 0 0=b[0]'(by omega):=by rw[Pn,N8 (by omega)];rfl
  have b1:=(b[0]'(by omega)).toNat_lt;rw[this,wrap64 (by omega) (by omega)]
 rw[bd];refine ah (λh=>?_) (λh=>?_)
 ·have o:¬(kd=2/\b.length=9/\((b.getD 0 0).toNat:Int)=W):=by
   rintro⟨_,_,q3⟩;rw[q3] at h;simp at h
  rw[if_pos o] at f;exact f v H4 p4 Y rfl
 have P:¬¬(kd=2/\b.length=9/\((b.getD 0 0).toNat:Int)=W):=λq=>q ⟨a8,bb,by simpa only[bne_eq_false_iff_eq] using h⟩;rw[if_neg P] at f l;refine⟨by omega,?_⟩;have hd:=y.drop c4 1;have bl:(eH (b.drop 1)).length=8:=by rw[kC,Pr];omega
 refine uS (b:=eH (b.drop 1)) hd (by omega) λsr rs H5 ro E=>?_;rw[wU bl] at ro;have p5:=p4.ext E;have T5:Step F v H H5:=Y.trans ⟨Ext.mod E,λb q=>.inl q⟩;have b5:=b4.ext E;obtain⟨ll,bn,_,b2⟩:=p5.head;refine aj.ld (c:=av) (i:=0) (x:=aE dp) bn rfl ?_;obtain⟨D,d1,_,_⟩:=p5.cv;refine mZ d1 C λz L=>?_;have R:=p5.ext L;have M:Step F v H z:=T5.trans ⟨Ext.mod L,λb q=>.inl q⟩;have b6:=b5.ext L;have bs:Rows z sr [[bY (eH (b.drop 1))]]:=(ro.mod L (λ_ _ u=>u) λ_ _ _ _ u=>u).rows;have hm:=Dk.jX d1.wf n;generalize (s4.d.len n).1=N at*;generalize (s4.d.len n).2=e5 at*;refine ah (λh=>?_) (λh=>?_)
 ·have L:e5≠0:=by simpa using h
  rw[if_pos L] at f;exact f v z R M rfl
 have bx:¬e5≠0:=by simpa using h
 rw[if_neg bx] at f l;have G:∀{K:Addr->Sl->Addr->Int->Prop},(∀a x c,K a x c (bY (eH (b.drop 1))))->ae sr.a λS=>(0<=(0:Int)/\(0:Int)<(sr.n:Int))/\ld ak z (S.add ((0:Int).toNat*1)) λ(I:Sl)=>ae I.a λT=>(0<=(0:Int)/\(0:Int)<(I.n:Int))/\ld (ab .u64) z (T.add ((0:Int).toNat*1)) λ(bA:Int)=>K S I T bA:=λ{K} hk=>by
  refine bs.ld (i:=0) (by simp) λbB x1 b7 bC=>?_;have U:Ints .u64 z x1 [bY (eH (b.drop 1))]:=bC;exact jy U (i:=0) (j:=0) rfl (by simp) λbD b9=>hk bB x1 bD
 have cb:=ir (eH (b.drop 1));generalize bY (eH (b.drop 1))=w at*;have J:=cZ ⟨n,W,0,false⟩;refine G λ_ _ _=>?_;refine ah (λh=>?_) (λh=>?_)
 ·have hw:¬w<=528482304:=by
   have:w>528482304:=by simpa using h
   omega
  rw[if_neg (λq=>hw q.1)] at f;exact f v z R M rfl
 ·have hw:w<=528482304:=by
   have:¬w>528482304:=by simpa using h
   omega
  refine G λ_ _ _=>?_;obtain⟨wn,rfl⟩:∃wn:Nat,w=(wn:Int):=⟨w.toNat,by omega⟩;rw[show N6.wrap (wn:Int)=(wn:Int) from wrap64 (by omega) (by omega)];have t:0<(Rb.room ⟨n,W,0,false⟩):=by
   have:=J.1;simp only at this;omega
  have bM:aH W=((aH W).toNat:Int):=J.1;rw[bM];refine CI ⟨t,J.2⟩ (by omega) ?_;have bO:=mO (n:=wn) t;have b0:Rb.room ⟨n,W,0,false⟩=(aH W).toNat:=rfl;rw[b0] at bO;have w2:N6.wrap (1+(de wn (aH W).toNat:Int))=((1+de wn (aH W).toNat:Nat):Int):=by
   rw[wrap64 (by omega) (by omega)];omega
  rw[w2];rw[Od] at f l;refine ah (λh=>?_) (λh=>?_)
  ·have e7:¬(((wn:Nat):Int)<=528482304/\N=1+de wn (aH W).toNat):=λq=>by
    rw[q.2] at h;simp at h
   rw[if_neg e7] at f;exact f v z R M rfl
  ·have e7:N=1+de wn (aH W).toNat:=by
    have:(N:Int)=((1+de wn (aH W).toNat:Nat):Int):=by simpa using h
    omega
   rw[if_pos ⟨hw,e7⟩] at l;refine G λ_ _ _=>?_;rw[show N6.wrap (wn:Int)=(wn:Int) from wrap64 (by omega) (by omega)];refine aj.st b6 (i:=5) (by simp[dq]) rfl λH7 r7 m7 z7=>?_;have V:¬v H.size:=λq=>by
    rcases S4.own _ q with u|u
    ·exact hk u
    ·omega
   have:=M.mod.size;refine l v H7 H.size ⟨⟨n,W,0,false⟩,wn,0,none,[]⟩ (R.keep λb O _=>m7.same b (R.lt b O) λq=>V (q▸O)) ⟨⟨by omega,λb O hn=>(m7.same b (by omega) λq=>by omega).trans (M.mod.same b O hn)⟩,λb O=>M.own b O⟩ rfl ⟨r7,aO.nil _ _⟩ (Ob _) V
end
section
variable {H0:aa}{F0 O0:Nat->Prop}{k p dp:Nat}{si:Sl}{rs:List Sl}{F:Nat->Prop}{A:aa}{s:Pl}{r:RR}{low:Sl}{ll:List Int}
end
structure pz (H0:aa)(F0:Nat->Prop)(col:Nat->Nat)(p dp:Nat)(F:Nat->Prop)(A:aa)(s:Pl)(xs:List ng)(l:Sl):Prop where
 pool:ao F A p dp s
 rds:∀(i:Nat) (x:ng),xs[i]?=some x->AN A x.k p x.r x.si x.srs
 oks:∀x∈xs,x.r.Ok/\x.r.b.name.size<=9223372036854775807
 list:az dL Mb A l (xs.map (·.k))
 cF:∀b,F b->col b=0/\(F0 b\/H0.size<=b)
 cR:∀(i:Nat) (x:ng),xs[i]?=some x->∀b,x.own b->col b=5+i/\H0.size<=b
 cL:∀b,ag l b->col b=4/\H0.size<=b
 mod:Mod F0 H0 A
section
variable {H0 A:aa}{F0 F:Nat->Prop}{col:Nat->Nat}{p dp:Nat}{s:Pl}{xs:List ng}{l:Sl}
theorem pz.step (h:pz H0 F0 col p dp F A s xs l):Step F0 F H0 A:=⟨h.mod,λb a=>(h.cF b a).2⟩
theorem pz.lt (h:pz H0 F0 col p dp F A s xs l){i:Nat}{x:ng}(a:xs[i]?=some x):∀b,x.own b->b<A.size:=(h.rds i x a).lt
theorem pz.rY {G:Nat->Prop}{F':Nat->Prop}{B:aa}{s':Pl}{col':Nat->Nat}(h:pz H0 F0 col p dp F A s xs l)(g:ao F' B p dp s')(m:Mod G A B)(e:∀b,b<A.size->G b->col b<4)(d:∀b,b<H0.size->G b->F0 b)
  (j:∀b,F' b->col' b=0/\(F0 b\/H0.size<=b)) (f:∀b,b<A.size->4<=col b->col' b=col b):pz H0 F0 col' p dp F' B s' xs l:=by
 refine⟨g,λi x c=>(h.rds i x c).mod m λb a q=>?_,h.oks,h.list.mod m λb a q=>?_,j,λi x c b a=>?_,λb a=>?_,h.mod.trans' m d⟩
 ·have:=e b (h.lt c b a) q;have:=(h.cR i x c b a).1;omega
 ·have:=e b (h.list.lt b a) q;have:=(h.cL b a).1;omega
 ·have:=h.cR i x c b a;rw[f b (h.lt c b a) (by omega)];exact this
 ·have:=h.cL b a;rw[f b (h.list.lt b a) (by omega)];exact this
theorem pz.next {K:(Sl×Bool×Int)->aa->Prop}{i:Nat}{x:ng}{u v:Nat}(h:pz H0 F0 col p dp F A s xs l)(C:xs[i]?=some x)(b:Bd s u v)(hu:u<1000000000000)(P:v<68719470000)
  (M:∀F' B col' G row,pz H0 F0 col' p dp F' B (x.r.next s).1 (xs.set i G) l->G.k=x.k->G.r=(x.r.next s).2.1->Ints .u64 B row (x.r.next s).2.2.1->(∀b,ag row b->G.own b/\b≠x.k)->(∀b,b<A.size->col' b=col b)->Mod (λb=>F b\/b=x.k) A B->
   K (row,(x.r.next s).2.2.2.1,(x.r.next s).2.2.2.2) B):BR.sp (aE x.k) A K:=by
 have I:=N9 C;obtain⟨ok,L⟩:=h.oks x I;have hi:=(N7.1 C).1;have dis:∀b,F b->¬qJ x.k x.si x.srs b:=λb a q=>by
  have:=(h.cF b a).1;have:=(h.cR i x C b q).1;omega
 have J:=b.lo;have N:=b.hi;have O:=b.aB;refine Fy (⟨h.pool,h.rds i x C,dis,.refl _ _,λ_ q=>.inl q,λ_ q=>.inl q⟩:kU A F (qJ x.k x.si x.srs) x.k p dp x.si x.srs F A s x.r) ok L (by omega) (by omega) J λF' D t B row g o f R=>?_;obtain⟨col',c1,c2⟩:=ie col A.size F' (qJ x.k D t) (λ_=>False) 0 (5+i) 3 g.dis (λb q r=>r) (λb q r=>r);have E:=RR.fX ok s;have z:=g.mod.size;have keep:∀(j:Nat) (y:ng),j≠i->xs[j]?=some y->∀b,y.own b->¬(F b\/b=x.k):=λj y S d b a q=>by
  have c:=(h.cR j y d b a).1;rcases q with q|q
  ·have:=(h.cF b q).1;omega
  ·have:=(h.cR i x C b (by subst q;exact .inl rfl)).1;omega
 refine M F' B col' ⟨x.k,(x.r.next s).2.1,D,t⟩ row ⟨g.pool,λj y d=>?_,λy d=>?_,?_,λb a=>?_,λj y d b a=>?_,λb a=>?_,?_⟩ rfl rfl o (λb a=>f b a) c1 g.mod
 ·by_cases q:j=i
  ·subst q;rw[Pj hi] at d;cases d;exact g.rd
  ·rw[Pd (PB q)] at d;exact(h.rds j y d).mod g.mod (keep j y q d)
 ·rcases List.mem_or_eq_of_mem_set d with q|q
  ·exact h.oks y q
  ·subst q;exact⟨E.1,by show (x.r.next s).2.1.b.name.size<=_;rw[E.2.1];exact L⟩
 ·have e:(xs.set i ⟨x.k,(x.r.next s).2.1,D,t⟩).map (·.k)=xs.map (·.k):=by
   rw[Pv];apply List.ext_getElem?;intro j;rw[OS];split
   ·rename_i q;subst q;rw[Oi,C];simp[hi]
   ·rfl
  rw[e];exact h.list.mod g.mod λb a q=>by
   have c:=(h.cL b a).1;rcases q with q|q
   ·have:=(h.cF b q).1;omega
   ·have:=(h.cR i x C b (by subst q;exact .inl rfl)).1;omega
 ·rcases g.own b a with q|q
  ·rw[c1 b (h.pool.lt b q)];exact h.cF b q
  ·exact⟨(c2 b q).1 a,.inr (by have:=h.mod.size;omega)⟩
 ·by_cases q:j=i
  ·subst q;rw[Pj hi] at d;cases d;rcases g.own2 b a with q|q
   ·rw[c1 b (h.lt C b q)];exact h.cR j x C b q
   ·exact⟨(c2 b q).2.1 a,by have:=h.mod.size;omega⟩
  ·rw[Pd (PB q)] at d;rw[c1 b (h.lt d b a)];exact h.cR j y d b a
 ·rw[c1 b (h.list.lt b a)];exact h.cL b a
 ·refine h.mod.trans' g.mod λb a q=>?_;rcases q with q|q
  ·exact(h.cF b q).2.resolve_right (by omega)
  ·have:=(h.cR i x C b (by subst q;exact .inl rfl)).2;omega
end
def GC:eJ Sl:=⟨1,λx=>[x.v],λ_=>rfl,λx u hu=>by simp at hu;subst hu;rfl⟩
def KX:eJ Bool:=⟨1,λx=>[.bool x],λ_=>rfl,λx u hu=>by simp at hu;subst hu;rfl⟩
theorem Mw:qZ N5 gh ez 1 24:=eK (by kernel_rfl)
theorem MA:qZ N5 K7 Le 1 1:=eK (by kernel_rfl)
theorem Mg:qZ N5 Lk Mb 1 8:=eK (by kernel_rfl)
structure uc (H0:aa)(F0:Nat->Prop)(col:Nat->Nat)(p dp:Nat)(F:Nat->Prop)(A:aa)(s:Pl)(xs:List ng)(l:Sl)(kw:Nat)(w:RW)(sw sl hsl:Sl)(hd:List Sl)(isl:Sl)(isb:List Bool)(hs:List (Option (List Int))):Prop where
 rds:pz H0 F0 col p dp F A s xs l
 wr:qX A kw p w sw sl
 cW:∀b,dt kw sw sl b->col b=2/\(F0 b\/H0.size<=b)
 hO:az GC ez A hsl hd
 iO:az KX Le A isl isb
 cH:∀b,(ag hsl b\/ag isl b)->col b=1/\H0.size<=b
 row:∀(i:Nat) (y:List Int),hs[i]?=some (some y)->∃r x,hd[i]?=some r/\xs[i]?=some x/\Ints .u64 A r y/\(∀b,ag r b->x.own b/\b≠x.k)/\y.length<=16
section
variable {H0 A B:aa}{F0 F F':Nat->Prop}{col col':Nat->Nat}{p dp:Nat}{s s':Pl}{xs:List ng}{l:Sl}{kw:Nat}{w:RW}{sw sl hsl isl:Sl}{hd:List Sl}{isb:List Bool}{hs:List (Option (List Int))}
theorem uc.MG (h:uc H0 F0 col p dp F A s xs l kw w sw sl hsl hd isl isb hs):∀b,dt kw sw sl b->b<A.size:=h.wr.lt
theorem uc.HG (h:uc H0 F0 col p dp F A s xs l kw w sw sl hsl hd isl isb hs){i:Nat}{x:ng}(a:xs[i]?=some x){b:Nat}(c:x.own b):col b=5+i/\b<A.size:=⟨(h.rds.cR i x a b c).1,h.rds.lt a b c⟩
set_option maxHeartbeats 1000000 in
theorem uc.add {K:Int->aa->Prop}{row:Sl}{y:List Int}{to:ByteArray}{c u v:Nat}(h:uc H0 F0 col p dp F A s xs l kw w sw sl hsl hd isl isb hs)(ok:lV w to c)(Y:c<1000000000000)(t:to.size<=9223372036854775807)(b:Bd s u v)(hu:u<1000000000000)(Z:v<68719460000)(hy:y.length<=16)
  (g:Ints .u64 A row y) (j:∀ad,row.a=some ad->¬dt kw sw sl ad.block)
  (I:∀F' B col' e f,uc H0 F0 col' p dp F' B (w.add s y).1 xs l kw (w.add s y).2.1 e f hsl hd isl isb hs->A.size<=B.size->K (w.add s y).2.2 B):AP.sp (aE kw) row A K:=by
 have dis:∀b,F b->¬dt kw sw sl b:=λb d q=>by
  have:=(h.rds.cF b d).1;have:=(h.cW b q).1;omega
 have z:=b.lo;have J:=b.hi;have L:=b.aB;have o1:=ok.wait;have o2:=ok.n;have o3:=ok.rows;refine BH h.wr h.rds.pool dis g (λad C _=>j ad C) (λ_=>by omega) (by omega) (by omega) (by omega) (by rw[ok.name];exact t) (by omega) (by omega) z b.fit λF' e f B M N O S=>?_;have o:∃col':Nat->Nat,(∀b,F' b->col' b=0)/\(∀b,dt kw e f b->col' b=2)/\∀b,¬F' b->¬dt kw e f b->col' b=col b:=by
  classical
  refine⟨λb=>if F' b then 0 else if dt kw e f b then 2 else col b,λb d=>if_pos d,λb d=>?_,λb h1 P=>?_⟩
  ·show (if F' b then _ else _)=_;rw[if_neg λq=>O b q d,if_pos d]
  ·show (if F' b then _ else _)=_;rw[if_neg h1,if_neg P]
 obtain⟨col',c1,c2,R⟩:=o;have z0:=h.rds.mod.size;have old:∀b,b<A.size->F' b\/dt kw e f b->col b=0\/col b=2:=λb d q=>by
  rcases (S.own b q).resolve_right (by omega) with u|u
  ·exact .inl (h.rds.cF b u).1
  ·exact .inr (h.cW b u).1
 have same:∀b,b<A.size->col b≠0->col b≠2->col' b=col b:=λb d n0 n2=>R b (λq=>by rcases old b d (.inl q) with u|u<;>omega) λq=>by rcases old b d (.inr q) with u|u<;>omega
 have base:∀b,F' b\/dt kw e f b->F0 b\/H0.size<=b:=λb q=>by
  rcases S.own b q with (u|u)|u
  ·exact(h.rds.cF b u).2
  ·exact(h.cW b u).2
  ·exact .inr (by omega)
 have D:∀b,b<A.size->(F b\/dt kw sw sl b)->col b=0\/col b=2:=λb _ q=>q.imp (λu=>(h.rds.cF b u).1) λu=>(h.cW b u).1;have E:∀b,(ag hsl b\/ag isl b)->¬(F b\/dt kw sw sl b):=λb d q=>by
  have a:=(h.cH b d).1;have lt:b<A.size:=d.elim (λu=>h.hO.lt b u) λu=>h.iO.lt b u;have:=D b lt q;omega
 refine I F' B col' e f ⟨h.rds.rY M S.mod (λb d q=>by have:=D b d q;omega) (λb d q=>?_) (λb d=>⟨c1 b d,base b (.inl d)⟩) (λb d q=>same b d (by omega) (by omega)),N,λb d=>⟨c2 b d,base b (.inr d)⟩,h.hO.mod S.mod λb d=>E b (.inl d),h.iO.mod S.mod λb d=>E b (.inr d),λb d=>?_,λi T hi=>?_⟩ S.mod.size
 ·rcases q with u|u
  ·exact(h.rds.cF b u).2.resolve_right (by omega)
  ·exact(h.cW b u).2.resolve_right (by omega)
 ·have a:=h.cH b d;have lt:b<A.size:=d.elim (λu=>h.hO.lt b u) λu=>h.iO.lt b u;rw[same b lt (by omega) (by omega)];exact a
 ·obtain⟨r,x,U,e2,V,G,X⟩:=h.row i T hi;exact⟨r,x,U,e2,V.mod S.mod λad C q=>by
   obtain⟨a1,a2⟩:=h.HG e2 (G _ ⟨ad,C,rfl⟩).1;have:=D _ a2 q;omega,G,X⟩
set_option maxHeartbeats 1000000 in
theorem uc.next {K:(Sl×Bool×Int)->aa->Prop}{i:Nat}{x:ng}{u v:Nat}(h:uc H0 F0 col p dp F A s xs l kw w sw sl hsl hd isl isb hs)(o:xs[i]?=some x)(b:Bd s u v)(hu:u<1000000000000)(E:v<68719470000)
  (G:∀F' B col' e row,uc H0 F0 col' p dp F' B (x.r.next s).1 (xs.set i e) l kw w sw sl hsl hd isl isb (hs.set i none)->e.r=(x.r.next s).2.1->Ints .u64 B row (x.r.next s).2.2.1->(∀b,ag row b->e.own b/\b≠e.k)->A.size<=B.size->K (row,(x.r.next s).2.2.2.1,(x.r.next s).2.2.2.2) B):BR.sp (aE x.k) A K:=by
 refine h.rds.next o b hu E λF' B col' e row I J L M t C f=>?_;have c:∀b,F b\/b=x.k->col b=0\/col b=5+i:=λb q=>by
  rcases q with q|q
  ·exact .inl (h.rds.cF b q).1
  ·exact .inr (h.rds.cR i x o b (by subst q;exact .inl rfl)).1
 have z:=f.size;refine G F' B col' e row ⟨I,h.wr.mod f λb a q=>?_,λb a=>?_,h.hO.mod f λb a q=>?_,h.iO.mod f λb a q=>?_,λb a=>?_,λj y g=>?_⟩ L M (λb a=>⟨(t b a).1,by rw[J];exact(t b a).2⟩) z
 ·have:=c b q;have:=(h.cW b a).1;omega
 ·rw[C b (h.MG b a)];exact h.cW b a
 ·have:=c b q;have:=(h.cH b (.inl a)).1;omega
 ·have:=c b q;have:=(h.cH b (.inr a)).1;omega
 ·have lt:b<A.size:=a.elim (λu=>h.hO.lt b u) λu=>h.iO.lt b u;rw[C b lt];exact h.cH b a
 ·by_cases d:j=i
  ·subst d;rw[OS] at g;simp at g
  ·rw[Pd (PB d)] at g;obtain⟨r,N,O,e2,P,D,R⟩:=h.row j y g;refine⟨r,N,O,by rw[Pd (PB d)];exact e2,P.mod f λad S q=>?_,D,R⟩;obtain⟨T,a2⟩:=h.HG e2 (D _ ⟨ad,S,rfl⟩).1;have:=c _ q;omega
theorem uc.kL {e f:Sl}{j:List Sl}{g:List Bool}{hs':List (Option (List Int))}(h:uc H0 F0 col p dp F A s xs l kw w sw sl hsl hd isl isb hs)(o:Mod (λb=>ag hsl b\/ag isl b) A B)(hO:az GC ez B e j)(iO:az KX Le B f g)(C:∀b,(ag e b\/ag f b)->(ag hsl b\/ag isl b)\/A.size<=b)
  (row:∀(i:Nat) (y:List Int),hs'[i]?=some (some y)->∃r x,j[i]?=some r/\xs[i]?=some x/\Ints .u64 A r y/\(∀b,ag r b->x.own b/\b≠x.k)/\y.length<=16):∃col',uc H0 F0 col' p dp F B s xs l kw w sw sl e j f g hs'/\∀b,b<A.size->col' b=col b:=by
 obtain⟨col',c1,c2⟩:=ie col A.size (λ_=>False) (λ_=>False) (λ_=>True) 1 1 1 (λ_ q=>q.elim) (λ_ q=>q.elim) λ_ q=>q.elim;have z:=h.rds.mod.size;have L:∀b,b<A.size->col b≠1->¬(ag hsl b\/ag isl b):=λb _ D q=>D (h.cH b q).1;refine⟨col',⟨h.rds.rY (h.rds.pool.keep λb d hl=>o.same b hl λq=>?_) o (λb d q=>by rw[(h.cH b q).1];decide) (λb d q=>by have:=(h.cH b q).2;omega) (λb q=>by rw[c1 b (h.rds.pool.lt b q)];exact h.rds.cF b q) (λb d _=>c1 b d),h.wr.mod o λb d q=>?_,λb d=>?_,hO,iO,λb d=>?_,λi y hi=>?_⟩,c1⟩
 ·have a:=(h.rds.cF b d).1;have c:=(h.cH b q).1;omega
 ·have:=(h.cW b d).1;have:=(h.cH b q).1;omega
 ·rw[c1 b (h.MG b d)];exact h.cW b d
 ·rcases C b d with u|u
  ·have lt:b<A.size:=u.elim (λv=>h.hO.lt b v) λv=>h.iO.lt b v;rw[c1 b lt];exact h.cH b u
  ·exact⟨(c2 b u).2.2 trivial,by omega⟩
 ·obtain⟨r,x,E,e2,G,t,I⟩:=row i y hi;refine⟨r,x,E,e2,G.mod o λad J q=>?_,t,I⟩;obtain⟨M,a2⟩:=h.HG e2 (t _ ⟨ad,J,rfl⟩).1;have:=(h.cH _ q).1;omega
end
structure dF (hs:List (Option (List Int)))(i:Nat)(b:Option (Nat×List Int)):Prop where
 nn:b=none->∀j,j<i->∀y,hs[j]?≠some (some y)
 sm:∀k x,b=some (k,x)->k<i/\hs[k]?=some (some x)/\∀j,j<i->∀y,hs[j]?=some (some y)->aT x y<=0/\(j<k->aT x y<0)
theorem dF.zero (hs:List (Option (List Int))):dF hs 0 none:=⟨λ_ j a=>by omega,λk x h=>by cases h⟩
theorem dF.skip {hs:List (Option (List Int))}{i:Nat}{b:Option (Nat×List Int)}(h:dF hs i b)(hi:∀y,hs[i]?≠some (some y)):dF hs (i+1) b:=by
 refine⟨λe j c y=>?_,λk x e=>?_⟩
 ·rcases OV j i with q|q
  ·exact h.nn e j q y
  ·have:j=i:=by omega
   subst this;exact hi y
 ·obtain⟨h1,d,f⟩:=h.sm k x e;refine⟨by omega,d,λj c y a=>?_⟩;rcases OV j i with q|q
  ·exact f j q y a
  ·have:j=i:=by omega
   subst this;exact absurd a (hi y)
theorem dF.first {hs:List (Option (List Int))}{i:Nat}{y:List Int}(h:dF hs i none)(b:hs[i]?=some (some y)):dF hs (i+1) (some (i,y)):=by
 refine⟨λe=>(by cases e),λk x e=>?_⟩;cases e;refine⟨by omega,b,λj c z a=>?_⟩;rcases OV j i with q|q
 ·exact absurd a (h.nn rfl j q z)
 ·have:j=i:=by omega
  subst this;rw[b] at a;cases a;exact⟨by rw[iu];decide,λu=>by omega⟩
theorem dF.less {hs:List (Option (List Int))}{i k:Nat}{x y:List Int}(h:dF hs i (some (k,x)))(b:hs[i]?=some (some y))(c:aT y x<0):dF hs (i+1) (some (i,y)):=by
 obtain⟨h1,g,d⟩:=h.sm k x rfl;refine⟨λe=>(by cases e),λo t e=>?_⟩;cases e;refine⟨by omega,b,λj v z a=>?_⟩;rcases OV j i with q|q
 ·have f:=(d j q z a).1;have:aT y z<0:=by
   rcases Int.lt_or_eq_of_le f with u|u
   ·exact eW c u
   ·rw[<-b8.1 u];exact c
  exact⟨by omega,λ_=>this⟩
 ·have:j=i:=by omega
  subst this;rw[b] at a;cases a;exact⟨by rw[iu];decide,λu=>by omega⟩
theorem dF.stay {hs:List (Option (List Int))}{i k:Nat}{x y:List Int}(h:dF hs i (some (k,x)))(b:hs[i]?=some (some y))(f:¬aT y x<0):dF hs (i+1) (some (k,x)):=by
 obtain⟨h1,c,d⟩:=h.sm k x rfl;refine⟨λe=>(by cases e),λg o e=>?_⟩;cases e;refine⟨by omega,c,λj t z a=>?_⟩;rcases OV j i with q|q
 ·exact d j q z a
 ·have:j=i:=by omega
  subst this;rw[b] at a;cases a;have:=bX y x;exact⟨by omega,λu=>by omega⟩
theorem dF.jS {hs:List (Option (List Int))}{b:Option (Nat×List Int)}(h:dF hs hs.length b):dK hs=b:=by
 cases e:dK hs with
 |none=>
   cases b with
   |none=>rfl
   |some q=>
     obtain⟨k,x⟩:=q;exact absurd (h.sm k x rfl).2.1 (jZ e k x)
 |some q=>
   obtain⟨k,x⟩:=q;obtain⟨d,e2⟩:=gn e;have hk:=(N7.1 d).1;cases b with
   |none=>exact absurd d (h.nn rfl k hk x)
   |some q=>
     obtain⟨f,g⟩:=q;obtain⟨h1,i,j⟩:=h.sm f g rfl;have a:=e2 f g i;have c:=j k hk x d;have sw:=bX x g;rcases Nat.lt_trichotomy k f with q|q|q
     ·have:=c.2 q;omega
     ·subst q;rw[d] at i;cases i;rfl
     ·have:=a.2 q;omega
section
variable {H0 H A B:aa}{F0 F F':Nat->Prop}{col col':Nat->Nat}{p dp:Nat}{s s':Pl}{xs:List ng}{l:Sl}{kw:Nat}{w:RW}{sw sl hsl isl:Sl}{hd:List Sl}{isb:List Bool}{hs:List (Option (List Int))}{names:Sl}{ns:List ByteArray}{to:ByteArray}{W:Int}
set_option maxHeartbeats 1000000 in
theorem CZ {x y:Nat}{h:(Option Addr×Int)->aa->Prop}{o:(Sl×Int)->aa->Prop}(hp:ao F H p dp s)(hn:names.n=ns.length)(R:∀A,Mod F H A->bP kS A names.a ns)(I:∀n∈ns,n.size<=9223372036854775807)(b:Bd s x y)(hl:ns.length<=1000000)(d:x<900000000000)(hy:y<60000000000)
  (J:(aV W ns s).2.2≠0->∀F' A a,ao F' A p dp (aV W ns s).1->Step F F' H A->h (a,(aV W ns s).2.2) A)
  (S:(aV W ns s).2.2=0->∀F' A col xs l i,pz H F col p dp F' A (aV W ns s).1 xs l->xs.map (·.r)=(aV W ns s).2.1->xs.length=ns.length->o (l,i) A):
  aw (Sl×Int) ((Sl.mk none 0 0),(0:Int)) H λnext z H1=>br (decide (z.2<(names.n:Int))) (ae names.a λa=>(0<=z.2/\z.2<(names.n:Int))/\Go.Proofs.YtmkbhnholcaghaaGreatDoor.ld aK H1 (a.add (z.2.toNat*1)) λ(x:ByteArray)=>G7.sp (aE p) x W H1 λ(r:(Option Addr×Int)) Z=>br (r.2!=(0:Int)) (h r Z) (aI Z #[(.pointer r.1)] Mb λT H3=>ba ak N5 (Oa #[Lk,Lk] Lk #[z.1.v,(.slice (some T) 1 1)]) H3 λ(l:Sl) H4=>next (l,N6.wrap (z.2+(1:Int))) H4)) (o z H1):=by
 refine ar ns.length (λi z A=>z.2=(i:Int)/\∃F' s' col xs,pz H F col p dp F' A s' xs z.1/\xs.length=i/\Bd s' (x+i) (y+i)/\
  aV W ns s=((aV W (ns.drop i) s').1,xs.map (·.r)++(aV W (ns.drop i) s').2.1,(aV W (ns.drop i) s').2.2)) ?_ ?_
 ·refine⟨rfl,F,s,λ_=>0,[],⟨hp,λi x d=>by simp at d,λx d=>(by cases d),az.nil _ _ _,λb e=>⟨rfl,.inl e⟩,λi x d=>by simp at d,λb e=>absurd e (aS b),.refl _ _⟩,rfl,b,?_⟩;simp
 rintro i ⟨l,j⟩ A next hi ⟨O,F',s',col,xs,g,L,M,he⟩ t
 simp only at O;subst O;simp only;refine ah (λU=>?_) (λU=>?_)
 ·have f:i<ns.length:=by
   have:(i:Int)<(names.n:Int):=by simpa using U
   omega
  rw[OY f] at he;have V:ns[i]?=some ns[i]:=N8 f;refine bP.one (E:=kS) (c:=aK) (R A g.mod) hn rfl V rfl ?_;have q1:=M.lo;have q2:=M.hi;have q3:=M.aB;have X:=M.open (n:=ns[i]) (W:=W) (by omega);have bl:=M.look (n:=ns[i]) (by omega) 0;have q4:=bl.aB;simp only[aV] at he;refine xJ g.pool (I _ (OP f)) (by omega) (by omega) q1 (by omega) (λP B p1 N D=>?_) (λP B k r p1 N D r1 k1 k2=>?_)
  ·have G:=oT.1 D;rw[D] at he;simp only[Qs] at he;refine aP (by simpa using G) ?_;rw[he] at J;exact J G P B none p1 (g.step.trans N)
  ·have G:(rnOpen s' ns[i] W).2.2=0:=oT.2 (by rw[D];simp);rw[D] at he;simp only at he;rw[G];refine aC rfl ?_;obtain⟨ok,rb,_⟩:=mr D;have z1:=N.mod.size;obtain⟨col',c1,c2⟩:=ie col A.size P (λb=>b=k) (λb=>B.size<=b) 0 (5+i) 4 (λb q r=>k2 (r▸q)) (λb q r=>by have:=p1.lt b q;omega) (λb q r=>by have:=r1.lt b (.inl q);omega);have h1:=g.rY (col':=col') p1 N.mod (λb e q=>by rw[(g.cF b q).1];decide) (λb e q=>(g.cF b q).2.resolve_right (by omega)) (λb q=>by
    rcases N.own b q with u|u
    ·rw[c1 b (g.pool.lt b u)];exact g.cF b u
    ·exact⟨(c2 b u).1 q,.inr (by have:=g.mod.size;omega)⟩) λb e _=>c1 b e
   refine az.push (E:=dL) (x:=k) Mg h1.list rfl (by simp;omega) (by simp;omega) λl' C o3 g3 _=>?_;rw[aD i (by omega)];have off:∀b,ag l b->col' b=4:=λb e=>(h1.cL b e).1;have kr:AN C k p r bf []:=r1.mod g3.1 λb e q=>by
    have hk:b=k:=by
     rcases e with u|u|⟨z,u,_⟩
     ·exact u
     ·exact absurd u (aS b)
     ·cases u
    have a:=h1.list.lt b q;have b4:=off b q;subst hk;have:=(c2 b k1).2.1 rfl;omega
   have hz:=h1.mod.size;refine t f (l',((i+1:Nat):Int)) C ⟨rfl,P,(rnOpen s' ns[i] W).1,col',xs++[⟨k,r,bf,[]⟩],⟨?_,λj x d=>?_,λx d=>?_,?_,λb e=>h1.cF b e,λj x d b e=>?_,λb e=>?_,?_⟩,?_,?_,?_⟩
   ·exact h1.pool.keep λb e f=>g3.1.same b f λq=>by have:=(h1.cF b e).1;have:=off b q;omega
   ·rw[QO] at d;split at d
    ·exact(h1.rds j x d).mod g3.1 λb e q=>by have:=(h1.cR j x d b e).1;have:=off b q;omega
    ·rename_i q;have:j - xs.length=0:=by have:=(N7.1 d).1;simp at this;omega
     rw[this] at d;simp at d;subst d;exact kr
   ·rcases Oe.1 d with q|q
    ·exact h1.oks x q
    ·rw[Ow] at q;subst q;exact⟨ok,by show r.b.name.size<=_;rw[rb];exact I _ (OP f)⟩
   ·rw[OO];exact o3
   ·rw[QO] at d;split at d
    ·exact h1.cR j x d b e
    ·rename_i q;have O:j - xs.length=0:=by have:=(N7.1 d).1;simp at this;omega
     rw[O] at d;simp at d;subst d;have hk:b=k:=by
      rcases e with u|u|⟨z,u,_⟩
      ·exact u
      ·exact absurd u (aS b)
      ·cases u
     subst hk;have:=(c2 b k1).2.1 rfl;refine⟨by omega,by have:=g.mod.size;omega⟩
   ·rcases g3.2 b e with q|q
    ·exact h1.cL b q
    ·exact⟨(c2 b (by omega)).2.2 q,by omega⟩
   ·exact h1.mod.trans' g3.1 λb e q=>by have:=(h1.cL b q).2;omega
   ·simp;exact L
   ·exact X.mono (by omega) (by omega)
   ·rw[he,OO];simp
 ·have Y:i=ns.length:=by
   have:¬(i:Int)<(names.n:Int):=by simpa using U
   omega
  subst Y;rw[Rx] at he;simp only[aV,Qs] at he;have G:(aV W ns s).2.2=0:=by rw[he]
  exact S G F' A col xs l _ (by rw[he];exact g) (by rw[he]) L
set_option maxHeartbeats 2000000 in
theorem Cz {u v:Nat}{I:(Sl×Bool×Int)->aa->Prop}{J:(Sl×Sl×Int)->aa->Prop}(h:uc H0 F0 col p dp F A s xs l kw w sw sl (Sl.mk none 0 0) [] (Sl.mk none 0 0) [] [])(b:Bd s u v)(hu:u<900000000000)(hv:v<60000000000)(hl:xs.length<=1000000)
  (a1:(bc (xs.map (·.r)) s).2.2.2≠0->∀F' B r k,ao F' B p dp (bc (xs.map (·.r)) s).1->Step F0 F' H0 B->I (r,k,(bc (xs.map (·.r)) s).2.2.2) B)
  (a6:(bc (xs.map (·.r)) s).2.2.2=0->∀F' B col' a hsl hd isl isb hs i,uc H0 F0 col' p dp F' B (bc (xs.map (·.r)) s).1 a l kw w sw sl hsl hd isl isb hs->a.map (·.r)=(bc (xs.map (·.r)) s).2.1->hs=(bc (xs.map (·.r)) s).2.2.1->isb=hs.map T9->hs.length=xs.length->hd.length=xs.length->a.length=xs.length->Bd (bc (xs.map (·.r)) s).1 (u+xs.length) (v+xs.length)->J (hsl,isl,i) B):
  aw (Sl×Sl×Int) ((Sl.mk none 0 0),(Sl.mk none 0 0),(0:Int)) A λg d H6=>br (decide (d.2.2<(l.n:Int))) (ae l.a λa7=>(0<=d.2.2/\d.2.2<(l.n:Int))/\Go.Proofs.YtmkbhnholcaghaaGreatDoor.ld av H6 (a7.add (d.2.2.toNat*1)) λ(a8:Option Addr)=>BR.sp a8 H6 λ(o:(Sl×Bool×Int)) H7=>br (o.2.2!=(0:Int)) (I o H7) (aI H7 #[o.1.v] ez λbb H8=>ba ak N5 (Oa #[gh,gh] gh #[d.1.v,(.slice (some bb) 1 1)]) H8 λ(kL:Sl) H9=>aI H9 #[(.bool o.2.1)] Le λbl bn=>ba ak N5 (Oa #[K7,K7] K7 #[d.2.1.v,(.slice (some bl) 1 1)]) bn λ(is:Sl) bs=>g (kL,is,N6.wrap (d.2.2+(1:Int))) bs)) (J d H6):=by
 have bx:l.n=xs.length:=by rw[az.n h.rds.list (by decide)];simp
 refine ar xs.length (λi z B=>z.2.2=(i:Int)/\i<=xs.length/\∃F' col' s' a hd isb hs,uc H0 F0 col' p dp F' B s' a l kw w sw sl z.1 hd z.2.1 isb hs/\Bd s' (u+i) (v+i)/\isb=hs.map T9/\hs.length=i/\hd.length=i/\a.length=xs.length/\a.drop i=xs.drop i/\
  bc (xs.map (·.r)) s=((bc ((xs.drop i).map (·.r)) s').1,(a.take i).map (·.r)++(bc ((xs.drop i).map (·.r)) s').2.1,hs++(bc ((xs.drop i).map (·.r)) s').2.2.1,(bc ((xs.drop i).map (·.r)) s').2.2.2))
  ⟨rfl,Oz _,F,col,s,xs,[],[],[],h,b,rfl,rfl,rfl,rfl,rfl,by simp⟩ ?_
 rintro i ⟨hsl,isl,zi⟩ B next hi ⟨P,b3,F',col',s',a,hd,isb,hs,R,bd,t,S,T,U,V,he⟩ M
 simp only at P R ⊢;subst P;refine ah (λhc=>?_) λhc=>?_
 ·have N:i<xs.length:=by have:(i:Int)<(l.n:Int):=of_decide_eq_true hc;omega
  have L:i<a.length:=by omega
  have hx:a[i]?=some a[i]:=N8 L;have bA:xs[i]=a[i]:=by
   have h1:=congrArg (λq=>q[0]?) V;simp only[PE,RB] at h1;rw[hx,N8 N] at h1;exact(OE h1).symm
  rw[OY N,Ox,bA] at he;simp only[bc] at he;refine bP.one (E:=dL) (c:=av) (y:=aE a[i].k) R.rds.list.rd (by rw[bx];simp;omega) rfl (i:=i) (x:=a[i].k) (by rw[Oi,hx];rfl) rfl ?_;have bB:=bd.next (r:=a[i].r) (by omega);refine R.next hx bd (by omega) (by omega) λF2 C b1 x' row e q2 q3 q4 q5=>?_;by_cases X:(a[i].r.next s').2.2.2.2=0
  ·rw[if_neg (by rw[X];simp)] at he;refine aC (by rw[X];rfl) ?_;rw[List.set_eq_of_length_le (l:=hs) (by omega)] at e;obtain⟨ok,_⟩:=R.rds.oks _ (OP L);have G:=RR.fX ok s';refine az.push (E:=GC) (x:=row) Mw e.hO rfl (by omega) (by omega) λY D oD Z _=>?_;have zD:=Z.1.size;have af:az KX Le D isl isb:=e.iO.mod Z.1 λb hb u=>e.iO.apart e.hO (by decide) b hb u;refine az.push (E:=KX) (x:=(a[i].r.next s').2.2.2.1) MA af rfl (by rw[t];simp;omega) (by rw[t];simp;omega) λb2 E oE gE _=>?_;have zE:=gE.1.size;have bC:az GC ez E Y (hd++[row]):=oD.mod gE.1 λb hb u=>by
    rcases Z.2 b hb with v|v
    ·exact e.iO.apart e.hO (by decide) b u v
    ·have:=af.lt b u;have b4:=e.iO.lt b u;omega
   have bD:Mod (λb=>ag hsl b\/ag isl b) C E:=(Z.1.mono λb _ u=>.inl u).trans' gE.1 λb _ u=>.inr u;obtain⟨an,q6,c3⟩:=e.kL (hs':=hs++[dO (a[i].r.next s').2.2.1 (a[i].r.next s').2.2.2.1]) bD bC oE (λb hb=>by
    rcases hb with u|u
    ·exact(Z.2 b u).imp .inl id
    ·exact(gE.2 b u).imp .inr λv=>by omega) λj y f=>by
    rcases OV j hs.length with v|v
    ·rw[OB v] at f;obtain⟨r,x,O,e2,e3,e4,e5⟩:=e.row j y f;exact⟨r,x,by rw[OB (by omega)];exact O,e2,e3,e4,e5⟩
    ·rw[O9 v] at f;have j0:j - hs.length=0:=by have:=(N7.1 f).1;simp at this;omega
     have bM:j=i:=by omega
     rw[j0] at f;simp only[List.getElem?_cons_zero,O4] at f;unfold dO at f;split at f
     ·rename_i bO;cases f;exact⟨row,x',by rw[O9 (by omega),show j - hd.length=0 by omega];rfl,by rw[bM,Pj (by omega)],q3,q4,(G.2.2.2.1 bO).2.2.2⟩
     ·cases f
   refine M N _ _ ⟨aD i (by omega),by omega,F2,an,_,a.set i x',hd++[row],isb++[(a[i].r.next s').2.2.2.1],hs++[dO (a[i].r.next s').2.2.1 (a[i].r.next s').2.2.2.1],q6,bB.mono (by omega) (by omega),?_,by simp[S],by simp[T],by simp[U],?_,?_⟩
   ·rw[t,OO];congr 1;unfold dO;cases (a[i].r.next s').2.2.2.1<;>rfl
   ·rw[List.drop_set_of_lt (by omega)];have:=congrArg (List.drop 1) V;rw[Q1,Q1] at this;exact this
   ·rw[he,List.take_succ_eq_append_getElem (by simp;omega),OO];simp only[List.getElem_set_self,Ox,QR,O3,List.singleton_append,List.cons_append,List.nil_append];rw[List.take_set_of_le (Ob i),q2]
  ·rw[if_pos X] at he;refine aP (by simpa using X) ?_;have O:(bc (xs.map (·.r)) s).2.2.2=(a[i].r.next s').2.2.2.2:=by rw[he]
   have e2:(bc (xs.map (·.r)) s).1=(a[i].r.next s').1:=by rw[he]
   rw[<-O];refine a1 (by rw[O];exact X) F2 C row _ (by rw[e2];exact e.rds.pool) e.rds.step
 ·have b0:i=xs.length:=by have:¬(i:Int)<(l.n:Int):=of_decide_eq_false hc;omega
  subst b0;rw[Rx] at he;simp only[QR,bc,Qs] at he;have O:(bc (xs.map (·.r)) s).1=s':=by rw[he]
  have e2:(bc (xs.map (·.r)) s).2.1=(a.take xs.length).map (·.r):=by rw[he]
  have e3:(bc (xs.map (·.r)) s).2.2.1=hs:=by rw[he]
  have e4:(bc (xs.map (·.r)) s).2.2.2=0:=by rw[he]
  refine a6 e4 F' B col' a hsl hd isl isb hs _ (by rw[O];exact R) (by rw[e2,List.take_of_length_le (by omega)]) e3.symm t S T U (by rw[O];exact bd)
theorem Eu {u:(Int×Int)->aa->Prop}(h:uc H0 F0 col p dp F A s xs l kw w sw sl hsl hd isl isb hs)(I:isb=hs.map T9)(hl:hs.length=xs.length)(an:hd.length=xs.length)(a1:xs.length<=1000000)
  (hK:∀z,(dK hs=none->z.1<0)->(∀k x,dK hs=some (k,x)->z.1=(k:Int)/\k<xs.length)->u z A):
  aw (Int×Int) ((-1:Int),(0:Int)) A λd a g=>br (decide (a.2<(l.n:Int))) (ae isl.a λM=>(0<=a.2/\a.2<(isl.n:Int))/\Go.Proofs.YtmkbhnholcaghaaGreatDoor.ld ay g (M.add (a.2.toNat*1)) λ(N:Bool)=>br (N==true) (br (decide (a.1<(0:Int))) (d (a.2,N6.wrap (a.2+(1:Int))) g) (ae hsl.a λO=>(0<=a.2/\a.2<(hsl.n:Int))/\Go.Proofs.YtmkbhnholcaghaaGreatDoor.ld ak g (O.add (a.2.toNat*1)) λ(P:Sl)=>ae hsl.a λR=>(0<=a.1/\a.1<(hsl.n:Int))/\Go.Proofs.YtmkbhnholcaghaaGreatDoor.ld ak g (R.add (a.1.toNat*1)) λ(S:Sl)=>Am.sp P S g λ(T:Int) J=>br (decide (T<(0:Int))) (d (a.2,N6.wrap (a.2+(1:Int))) J) (d (a.1,N6.wrap (a.2+(1:Int))) J))) (d (a.1,N6.wrap (a.2+(1:Int))) g)) (u a g):=by
 have a6:l.n=xs.length:=by rw[az.n h.rds.list (by decide)];simp
 have a7:isl.n=isb.length:=az.n h.iO (by decide);have a8:hsl.n=hd.length:=az.n h.hO (by decide);have af:isb.length=xs.length:=by rw[I,OT,hl]
 refine ar xs.length (λi z B=>A=B/\z.2=(i:Int)/\i<=xs.length/\∃b,dF hs i b/\(b=none->z.1<0)/\∀k x,b=some (k,x)->z.1=(k:Int)) ⟨rfl,rfl,Oz _,none,dF.zero hs,λ_=>by decide,λk x e=>by cases e⟩ ?_;rintro i ⟨zb,zi⟩ B next hi ⟨rfl,L,bb,b,v,j,o⟩ f
 simp only at L j o ⊢;subst L;refine ah (λU=>?_) λU=>?_
 ·have t:i<xs.length:=by have:(i:Int)<(l.n:Int):=of_decide_eq_true U;omega
  have C:i<hs.length:=by omega
  have G:=aD i (by omega);have V:isb[i]?=some (hs[i]).isSome:=by rw[I,Oi,N8 C];rfl
  refine bP.one (E:=KX) (c:=ay) (y:=(hs[i]).isSome) h.iO.rd (by omega) rfl (i:=i) (x:=(hs[i]).isSome) V rfl ?_;cases hh:hs[i] with
  |none=>
    refine aC rfl ?_;rw[G];exact f t _ _ ⟨rfl,rfl,by omega,b,v.skip (λy D=>(by rw[N8 C,hh] at D;cases D)),j,o⟩
  |some y=>
    have D:hs[i]?=some (some y):=by rw[N8 C,hh]
    refine aP rfl ?_;obtain⟨r,x,r1,r2,r3,r4,r5⟩:=h.row i y D;cases hb:b with
    |none=>
      subst hb;refine aP (decide_eq_true (j rfl)) ?_;rw[G];exact f t _ _ ⟨rfl,rfl,by omega,some (i,y),v.first D,λe=>(by cases e),λk x e=>by cases e;rfl⟩
    |some q=>
      obtain⟨k,x0⟩:=q;subst hb;have X:=o k x0 rfl;obtain⟨k1,k2,_⟩:=v.sm k x0 rfl;subst X;refine aC (decide_eq_false (by omega)) ?_;obtain⟨rk,xk,s1,s2,s3,s4,s5⟩:=h.row k x0 k2;refine bP.one (E:=GC) (c:=ak) (y:=r) h.hO.rd (by omega) rfl (i:=i) (x:=r) r1 rfl ?_;refine bP.one (E:=GC) (c:=ak) (y:=rk) h.hO.rd (by omega) rfl (i:=k) (x:=rk) s1 rfl ?_;refine jL r3 s3 (by omega) ?_;rw[G];refine ah (λY=>?_) λY=>?_
      ·exact f t _ _ ⟨rfl,rfl,by omega,some (i,y),v.less D (of_decide_eq_true Y),λe=>(by cases e),λk x e=>by cases e;rfl⟩
      ·exact f t _ _ ⟨rfl,rfl,by omega,some (k,x0),v.stay D (of_decide_eq_false Y),λe=>(by cases e),λk x e=>by cases e;rfl⟩
 ·have Z:i=xs.length:=by have:¬(i:Int)<(l.n:Int):=of_decide_eq_false U;omega
  subst Z;rw[<-hl] at v;have e:=v.jS;refine hK _ (λe0=>j (e.symm.trans e0)) λk x e0=>?_;have G:=e.symm.trans e0;have:=(v.sm k x G).1;exact⟨o k x G,by omega⟩
end
theorem az.st1 {α:Type}{E:eJ α}{e:TypeId}{H:aa}{s:Sl}{l:List α}{K:aa->Prop}(h:az E e H s l)(hs:E.size=1){i:Nat}{x y:α}{v:Value}(hi:l[i]?=some x)(c:jl v=true)(d:E.enc y=[v])
  (f:∀H',az E e H' s (l.set i y)->Mod (ag s) H H'->H'.size=H.size->K H'):ae s.a λa=>(0<=(i:Int)/\(i:Int)<(s.n:Int))/\Go.Proofs.YtmkbhnholcaghaaGreatDoor.st H (a.add ((i:Int).toNat*1)) v K:=by
 have hl:=(N7.1 hi).1;have g:=az.n h (by omega);obtain⟨ad,b⟩:=h.rd.addr (by omega) (by omega);refine aX ad b ⟨⟨by omega,by omega⟩,?_⟩;obtain⟨u,hu⟩:=List.length_eq_one_iff.1 ((E.len x).trans hs);have:=az.st h b (j:=0) (n:=(i:Int).toNat*1) hi (by omega) c (by rw[d,hu];rfl) (by rw[hs,Od]) f;rw[add_add] at this;exact this
structure tH (H0:aa)(F0:Nat->Prop)(p dp:Nat)(A:aa)(l hsl isl:Sl)(kw:Nat)(to:ByteArray)(f0 u v:Nat)(res:Pl×Nat×Int)(f:Nat):Prop where
 ex:∃col F s xs w sw sl hd isb hs,uc H0 F0 col p dp F A s xs l kw w sw sl hsl hd isl isb hs/\isb=hs.map T9/\hs.length=xs.length/\hd.length=xs.length/\xs.length<=1000000/\bN (xs.map (·.r))+fQ hs<f/\res=fY f s (xs.map (·.r)) hs w/\lV w to (f0 - f)/\Bd s (u+2*(f0 - f)) (v+3*(f0 - f))/\f<=f0
section
variable {H A:aa}{F:Nat->Prop}{p dp:Nat}{s:Pl}{names l hsl isl:Sl}{ns:List ByteArray}{to:ByteArray}{W:Int}{kw f0 f u v:Nat}{res:Pl×Nat×Int}
set_option maxHeartbeats 4000000 in
theorem Cq {K:(Int×Int)->aa->Prop}(a8:to.size<=9223372036854775807)(eD:f0<=20000000000)(hu:u+2*f0<990000000000)(hv:v+3*f0<68000000000)
  (h:tH H F p dp A l hsl isl kw to f0 u v res f)
  (hK:∀F' B,ao F' B p dp res.1->Step F F' H B->K ((res.2.1:Int),res.2.2) B):
  aw Unit () A λV _ cb=>aw (Int×Int) ((-1:Int),(0:Int)) cb λI g t=>br (decide (g.2<(l.n:Int))) (ae isl.a λck=>(0<=g.2/\g.2<(isl.n:Int))/\Go.Proofs.YtmkbhnholcaghaaGreatDoor.ld ay t (ck.add (g.2.toNat*1)) λ(cm:Bool)=>br (cm==true) (br (decide (g.1<(0:Int))) (I (g.2,N6.wrap (g.2+(1:Int))) t) (ae hsl.a λcx=>(0<=g.2/\g.2<(hsl.n:Int))/\Go.Proofs.YtmkbhnholcaghaaGreatDoor.ld ak t (cx.add (g.2.toNat*1)) λ(cy:Sl)=>ae hsl.a λcz=>(0<=g.1/\g.1<(hsl.n:Int))/\Go.Proofs.YtmkbhnholcaghaaGreatDoor.ld ak t (cz.add (g.1.toNat*1)) λ(cB:Sl)=>Am.sp cy cB t λ(c0:Int) bb=>br (decide (c0<(0:Int))) (I (g.2,N6.wrap (g.2+(1:Int))) bb) (I (g.1,N6.wrap (g.2+(1:Int))) bb))) (I (g.1,N6.wrap (g.2+(1:Int))) t)) (br (decide (g.1<(0:Int))) (G5.sp (aE kw) t λ(bl:(Int×Int)) c5=>K (bl.1,bl.2) c5) (cut Unit (λJ=>ae (aE kw) λdc=>Go.Proofs.YtmkbhnholcaghaaGreatDoor.ld (ab .i64) t (dc.add 8) λ(dk:Int)=>br (dk==(0:Int)) (ae hsl.a λdn=>(0<=g.1/\g.1<(hsl.n:Int))/\Go.Proofs.YtmkbhnholcaghaaGreatDoor.ld ak t (dn.add (g.1.toNat*1)) λ(dA:Sl)=>AP.sp (aE kw) dA t λ(e:Int) bn=>br (e !=(0:Int)) (K ((0:Int),e) bn) (J () bn)) (ae hsl.a λdB=>(0<=g.1/\g.1<(hsl.n:Int))/\Go.Proofs.YtmkbhnholcaghaaGreatDoor.ld ak t (dB.add (g.1.toNat*1)) λ(dD:Sl)=>ae (aE kw) λdT=>Go.Proofs.YtmkbhnholcaghaaGreatDoor.ld ak t (dT.add 7) λ(eb:Sl)=>Am.sp dD eb t λ(ec:Int) a1=>br (ec !=(0:Int)) (ae hsl.a λed=>(0<=g.1/\g.1<(hsl.n:Int))/\Go.Proofs.YtmkbhnholcaghaaGreatDoor.ld ak a1 (ed.add (g.1.toNat*1)) λ(ee:Sl)=>AP.sp (aE kw) ee a1 λ(bs:Int) bx=>br (bs !=(0:Int)) (K ((0:Int),bs) bx) (J () bx)) (J () a1))) λ(_:Unit) bA=>ae l.a λbB=>(0<=g.1/\g.1<(l.n:Int))/\Go.Proofs.YtmkbhnholcaghaaGreatDoor.ld av bA (bB.add (g.1.toNat*1)) λ(bC:Option Addr)=>BR.sp bC bA λ(X:(Sl×Bool×Int)) bD=>br (X.2.2!=(0:Int)) (K ((0:Int),X.2.2) bD) (ae hsl.a λbM=>(0<=g.1/\g.1<(hsl.n:Int))/\Go.Proofs.YtmkbhnholcaghaaGreatDoor.st bD (bM.add (g.1.toNat*1)) X.1.v λeg=>ae isl.a λbO=>(0<=g.1/\g.1<(isl.n:Int))/\Go.Proofs.YtmkbhnholcaghaaGreatDoor.st eg (bO.add (g.1.toNat*1)) (.bool X.2.1) λei=>V () ei))):=by
 refine⟨Nat,λf _ A=>tH H F p dp A l hsl isl kw to f0 u v res f,λf=>f,⟨f,h⟩,?_⟩;rintro f _ A ⟨col,F',s',xs,w,sw,sl,hd,isb,hs,G,a6,hlen,b2,b3,hf,an,hw,bd,eE⟩;cases f with
 |zero=>exact absurd hf (Nat.not_lt_zero _)
 |succ f=>
 refine Eu G a6 hlen b2 b3 λz b0 b1=>?_;obtain⟨zb,zi⟩:=z;simp only at b0 b1 ⊢;have ej:hsl.n=hd.length:=az.n G.hO (by decide);have eI:isl.n=isb.length:=az.n G.iO (by decide);have ek:l.n=xs.length:=by rw[az.n G.rds.list (by decide)];simp
 cases O:dK hs with
 |none=>
   refine aP (decide_eq_true (b0 O)) ?_;have er:res=((w.close s').1,(w.close s').2.2.1,(w.close s').2.2.2):=by
    rw[an];unfold fY;rw[O]
   rw[er] at hK;have T:=bd.lo;have q2:=bd.hi;have q3:=bd.aB;have o:=bd.out (w:=w) (by omega);have o1:=o.hi;have o2:=o.aB;refine u9 G.wr G.rds.pool (λb O q=>by have:=(G.rds.cF b O).1;have:=(G.cW b q).1;omega) (by have:=hw.rows;omega) hw.width.1 (by rw[hw.name];exact a8) (by omega) (by omega) T bd.fit (by omega) (by omega) (λz d=>by have:=(Bd.leave ((o.bt (n:=w.b.name) (by omega) 0).set z 2 d) z).aB;omega) o.fit (λz d=>(Bd.leave ((o.bt (n:=w.b.name) (by omega) 0).set z 2 d) z).fit) λM e7 C p2 w2 d2 S2=>?_;refine hK M C p2 ⟨G.rds.mod.trans' S2.mod λb O q=>?_,λb O=>?_⟩
   ·rcases q with r|r
    ·exact(G.rds.cF b r).2.resolve_right (by omega)
    ·exact(G.cW b r).2.resolve_right (by omega)
   ·rcases S2.own b (.inl O) with (r|r)|r
    ·exact(G.rds.cF b r).2
    ·exact(G.cW b r).2
    ·have:=G.rds.mod.size;exact .inr (by omega)
 |some q=>
   obtain⟨k,x⟩:=q;obtain⟨hz,hk⟩:=b1 k x O;subst hz;refine aC (decide_eq_false (by omega)) ?_;have b4:=(gn O).1;obtain⟨r,y,e1,e2,e3,e4,e5⟩:=G.row k x b4;have er:res=if (aQ s' w x).2.2≠0 then ((aQ s' w x).1,0,(aQ s' w x).2.2)
    else if (y.r.next (aQ s' w x).1).2.2.2.2≠0 then ((y.r.next (aQ s' w x).1).1,0,(y.r.next (aQ s' w x).1).2.2.2.2)
    else fY f (y.r.next (aQ s' w x).1).1 ((xs.map (·.r)).set k (y.r.next (aQ s' w x).1).2.1) (hs.set k (dO (y.r.next (aQ s' w x).1).2.2.1 (y.r.next (aQ s' w x).1).2.2.2.1)) (aQ s' w x).2.1:=by
    have en:(xs.map (·.r)).getD k default=y.r:=by rw[Pn,Oi,e2];rfl
    rw[an];show (match dK hs with|none=>_|some (i,x)=>_)=_;rw[O];simp only;rw[en]
   have a7:∀{C:aa} {K':Sl->Prop},az GC ez C hsl hd->K' r->ae hsl.a λa=>(0<=(k:Int)/\(k:Int)<(hsl.n:Int))/\Go.Proofs.YtmkbhnholcaghaaGreatDoor.ld ak C (a.add ((k:Int).toNat*1)) K':=λ{C K'} hC eo=>bP.one (E:=GC) (c:=ak) (y:=r) hC.rd ej rfl (i:=k) (x:=r) e1 rfl eo;refine⟨λ_ B=>(aQ s' w x).2.2=0/\∃L M P R,uc H F L p dp M B (aQ s' w x).1 xs l kw (aQ s' w x).2.1 P R hsl hd isl isb hs/\lV (aQ s' w x).2.1 to (f0 - f)/\Bd (aQ s' w x).1 (u+2*(f0 - (f+1))+1) (v+3*(f0 - (f+1))+2),?_,?_⟩
   ·have added:∀(Kb:Int->aa->Prop),(aQ s' w x)=w.add s' x->(∀B,(w.add s' x).2.2≠0->(∃M,ao M B p dp (w.add s' x).1/\Step F M H B)->Kb (w.add s' x).2.2 B)->
      (∀B,((aQ s' w x).2.2=0/\∃L M P R,uc H F L p dp M B (aQ s' w x).1 xs l kw (aQ s' w x).2.1 P R hsl hd isl isb hs/\lV (aQ s' w x).2.1 to (f0 - f)/\Bd (aQ s' w x).1 (u+2*(f0 - (f+1))+1) (v+3*(f0 - (f+1))+2))->(w.add s' x).2.2=0->Kb (w.add s' x).2.2 B)->AP.sp (aE kw) r A Kb:=by
     intro Kb U k1 k2;refine G.add hw (by omega) a8 bd (by omega) (by omega) e5 e3 (λad ha q=>by have:=(G.HG e2 (e4 _ ⟨ad,ha,rfl⟩).1).1;have:=(G.cW _ q).1;omega) λM B L P R hB zB=>?_;by_cases N:(w.add s' x).2.2=0
     ·have ra:=hw.add s' x;refine k2 B ?_ N;rw[U];exact⟨N,L,M,P,R,hB,ra.1.mono (by omega),bd.add (by omega) _⟩
     ·exact k1 B N ⟨M,hB.rds.pool,hB.rds.step⟩
    have bad:∀B,(aQ s' w x)=w.add s' x->(w.add s' x).2.2≠0->(∃M,ao M B p dp (w.add s' x).1/\Step F M H B)->K ((0:Int),(w.add s' x).2.2) B:=λB U N ⟨M,p2,S2⟩=>by
     have b5:=er;rw[U,if_pos N] at b5;rw[b5] at hK;exact hK M B p2 S2
    refine aX ⟨kw,0,none⟩ rfl ?_;refine aj.ld (c:=ab .i64) (i:=8) (x:=(w.rows:Int)) G.wr.row (bG.tail (j:=3) rfl) ?_;by_cases Y:w.rows=0
    ·have U:aQ s' w x=w.add s' x:=by unfold aQ;rw[if_pos (.inl Y)]
     refine aP (by rw[Y];rfl) ?_;refine a7 G.hO ?_;exact added _ U (λB N q=>aP (by simpa using N) (bad B U N q)) λB hJ N=>aC (by rw[N];rfl) hJ
    ·refine aC (by simpa using Y) ?_;refine a7 G.hO ?_;refine aX ⟨kw,0,none⟩ rfl ?_;refine aj.ld (c:=ak) (i:=7) (x:=sl) G.wr.row (bG.tail (j:=2) rfl) ?_;refine jL e3 G.wr.last.ints (by omega) ?_;by_cases S:aT x w.last=0
     ·have U:aQ s' w x=(s',w,0):=by unfold aQ;rw[if_neg (by rintro(q|q);exact Y q;exact q S)]
      refine aC (by rw[S];rfl) ?_;rw[U];exact⟨rfl,col,F',sw,sl,G,hw.mono (by omega),bd.mono (by omega) (by omega)⟩
     ·have U:aQ s' w x=w.add s' x:=by unfold aQ;rw[if_pos (.inr S)]
      refine aP (by simpa using S) ?_;refine a7 G.hO ?_;exact added _ U (λB N q=>aP (by simpa using N) (bad B U N q)) λB hJ N=>aC (by rw[N];rfl) hJ
   ·rintro _ B ⟨N,L,M,P,R,hB,ep,b6⟩;rw[if_neg (by rw[N];simp)] at er;generalize aQ s' w x=a at*;refine bP.one (E:=dL) (c:=av) (y:=aE y.k) hB.rds.list.rd (by rw[ek];simp) rfl (i:=k) (x:=y.k) (by rw[Oi,e2];rfl) rfl ?_;refine hB.next e2 b6 (by omega) (by omega) λF3 C eC y' row T q2 q3 q4 q5=>?_;by_cases e6:(y.r.next a.1).2.2.2.2=0
    ·rw[if_neg (by rw[e6];simp)] at er;refine aC (by rw[e6];rfl) ?_;have et:=b6.next (r:=y.r) (by omega);have b7:k<hd.length:=by omega
     have eu:k<isb.length:=by rw[a6,OT];omega
     have ev:k<hs.length:=by omega
     refine az.st1 (E:=GC) (y:=row) T.hO rfl (N8 b7) (by cases row;rfl) rfl λD oD mD zD=>?_;have ew:az KX Le D isl isb:=T.iO.mod mD λb O u=>T.iO.apart T.hO (by decide) b O u;refine az.st1 (E:=KX) (y:=(y.r.next a.1).2.2.2.1) ew rfl (N8 eu) rfl rfl λE oE mE zE=>?_;have ey:az GC ez E hsl (hd.set k row):=oD.mod mE λb O u=>T.iO.apart T.hO (by decide) b u O;have eA:Mod (λb=>ag hsl b\/ag isl b) C E:=(mD.mono λb _ u=>.inl u).trans' mE λb _ u=>.inr u;obtain⟨ok,_⟩:=hB.rds.oks y (N9 e2);have Z:=RR.fX ok a.1;obtain⟨b9,q6,c4⟩:=T.kL (hs':=hs.set k (dO (y.r.next a.1).2.2.1 (y.r.next a.1).2.2.2.1)) eA ey oE (λb O=>.inl O) λj yj hj=>by
      by_cases af:j=k
      ·subst af;rw[Pj ev] at hj;simp only[O4] at hj;unfold dO at hj;split at hj
       ·rename_i eB;cases hj;exact⟨row,y',Pj b7,Pj (by omega),q3,q4,(Z.2.2.2.1 eB).2.2.2⟩
       ·cases hj
      ·rw[Pd (PB af)] at hj;obtain⟨r',x',g1,g2,g3,g4,g5⟩:=T.row j yj (by rw[Pd (PB af)];exact hj);exact⟨r',x',by rw[Pd (PB af)];exact g1,g2,g3,g4,g5⟩
     have c1:=mP (rs:=xs.map (·.r)) (i:=k) (r:=y.r) (r':=y'.r) (by rw[Oi,e2];rfl);have c2:=me (i:=k) (b:=dO (y.r.next a.1).2.2.1 (y.r.next a.1).2.2.2.1) b4;have c3:=RR.ks ok a.1;rw[q2] at c1;simp only[Option.isSome_some,if_true] at c2;refine⟨f,⟨b9,F3,_,xs.set k y',a.2.1,P,R,hd.set k row,isb.set k (y.r.next a.1).2.2.2.1,hs.set k (dO (y.r.next a.1).2.2.1 (y.r.next a.1).2.2.2.1),q6,?_,by simp;exact hlen,by simp;exact b2,by simp;exact b3,?_,?_,ep,et.mono (by omega) (by omega),by omega⟩,Rv _⟩
     ·rw[a6,Pv];congr 1;unfold dO;cases (y.r.next a.1).2.2.2.1<;>rfl
     ·rw[Pv,q2];omega
     ·rw[er,Pv,q2]
    ·rw[if_pos e6] at er;rw[er] at hK;exact aP (by simpa using e6) (hK F3 C T.rds.pool T.rds.step)
set_option maxHeartbeats 2000000 in
theorem uQ {K:(Int×Int)->aa->Prop}{x y N:Nat}(hp:ao F H p dp s)(J:names.n=ns.length)(L:∀A,Mod F H A->bP kS A names.a ns)(M:∀n∈ns,n.size<=9223372036854775807)(o:to.size<=9223372036854775807)(b:Bd s x y)(hl:ns.length<=1000000)(hx:x<800000000000)(hy:y<50000000000)
  (hN:bN (aV W ns s).2.1<=N) (a1:N<=10000000000) (a6:x+2*N<900000000000) (a7:y+3*N<67000000000)
  (c:∀F' A,ao F' A p dp (cM s ns to W).1->Step F F' H A->K (((cM s ns to W).2.1:Int),(cM s ns to W).2.2) A):Hr.sp (aE p) names to W H K:=by
 refine Hr.of ?_;unfold Hr.vc;refine aC rfl ?_;unfold cM at c;by_cases e:ns=[]
 ·rw[if_pos e] at c;refine aP (by rw[J,e];rfl) ?_;exact c F H hp (.refl _ _)
 rw[if_neg e] at c;have O:names.n≠0:=by rw[J];exact λq=>e (Oy q)
 refine aC (by simpa using O) ?_;have t:=uH (W:=W) b hl (by omega);refine CZ (W:=W) hp J L M b hl (by omega) (by omega) (λP F1 A a p1 S1=>?_) (λP F1 A col xs l i g R hlen=>?_)
 ·rw[if_pos P] at c;exact c F1 A p1 S1
 rw[if_neg (by rw[P];simp)] at c;rw[<-R] at c hN;generalize (aV W ns s).1=s1 at*;have q1:=t.lo;have q2:=t.hi;have q3:=t.aB;have bM:=t.make (n:=to) (W:=W) (by omega);refine xo g.pool o (by omega) (by omega) q1 t.fit (λI B p2 z D=>?_) (λI B kw w p2 z D w2 k1 k2=>?_)
 ·have S:=gO.1 D;have em:lL (xs.map (·.r)) (bj s1 to W)=((bj s1 to W).1,0,(bj s1 to W).2.2):=by unfold lL;rw[D]
  rw[em] at c;exact aP (by simpa using S) (c I B p2 (g.step.trans z))
 obtain⟨S,hw,W0,T⟩:=gO.2 w D;subst hw;rw[uZ D] at c;generalize (bj s1 to W).1=s2 at*;rw[S];refine aC rfl ?_;have zR:=g.mod.size;have zS:=z.mod.size;have U:∀b,dt kw bf bf b->b=kw:=by
  rintro b (q|q|q)
  ·exact q
  ·exact absurd q (aS b)
  ·exact absurd q (aS b)
 obtain⟨h,c1,c2⟩:=ie col A.size I (λb=>b=kw) (λ_=>False) 0 2 1 (λb q r=>k2 (r▸q)) (λb q r=>r) (λb q r=>r);have V:=g.rY (col':=h) p2 z.mod (λb j q=>by rw[(g.cF b q).1];decide) (λb j q=>(g.cF b q).2.resolve_right (by omega)) (λb q=>by
  rcases z.own b q with r|r
  ·rw[c1 b (g.pool.lt b r)];exact g.cF b r
  ·exact⟨(c2 b r).1 q,.inr (by omega)⟩) λb j _=>c1 b j
 have hM:uc H F h p dp I B s2 xs l kw (vS to W) bf bf (Sl.mk none 0 0) [] (Sl.mk none 0 0) [] []:=by
  refine⟨V,w2,λb j=>?_,az.nil _ _ _,az.nil _ _ _,λb j=>?_,λi y hi=>by simp at hi⟩
  ·have:=U b j;subst this;exact⟨(c2 b k1).2.1 rfl,.inr (by omega)⟩
  ·exact absurd j λq=>q.elim (aS b) (aS b)
 have E:xs.length<=1000000:=by omega
 refine Cz hM bM (by omega) (by omega) E (λe2 X C r k p3 S3=>?_) λe2 X C G d hsl hd isl isb hs i Y h1 h2 h3 h4 h5 Z b3=>?_
 ·unfold zn at c;rw[if_pos e2] at c;exact c X C p3 S3
 ·unfold zn at c;rw[if_neg (by rw[e2];simp)] at c;have an:bN (d.map (·.r))+fQ hs<=bN (xs.map (·.r)):=by
   rw[h1,h2];exact ko λr R=>by
    obtain⟨y,hy,rfl⟩:=List.mem_map.1 R;exact(g.oks y hy).1
  rw[<-h1,<-h2] at c;have af:tH H F p dp C l hsl isl kw to (bN (d.map (·.r))+fQ hs+1) (x+2000002) (y+2000004) (fY (bN (d.map (·.r))+fQ hs+1) (bc (xs.map (·.r)) s2).1 (d.map (·.r)) hs (vS to W)) (bN (d.map (·.r))+fQ hs+1):=
   ⟨G,X,_,d,vS to W,bf,bf,hd,isb,hs,Y,h3,by rw[h4,Z],by rw[h5,Z],by rw[Z];exact E,Rv _,rfl,by rw[Nat.sub_self];exact wN to W0 T,b3.mono (by omega) (by omega),Ob _⟩
  exact Cq o (by omega) (by omega) (by omega) af c
end
section
variable {H:aa}{k p dp:Nat}{t:So}{sw ss:Sl}{rs:List Sl}{F:Nat->Prop}{s:Pl}
theorem Be {a:Option Addr}{c lo n e g b:Nat}(h:ag (Sl.mk (cA a c lo 1) n g) b):ag (Sl.mk a e c) b:=by
 obtain⟨ad,d,e2⟩:=h;have d:cA a c lo 1=some ad:=d;unfold cA at d;split at d
 ·exact⟨ad,d,e2⟩
 ·cases a with
  |none=>cases d
  |some a0=>
    simp at d;exact⟨a0,rfl,by rw[<-e2,<-d,dz]⟩
set_option maxHeartbeats 1000000 in
theorem ux {K:(Int×Int)->aa->Prop}{c x y N:Nat}{to:ByteArray}(hg:Gl H)(a7:¬cg k sw rs ss bh)(h:qg H k p t sw rs ss)(hp:au F H p dp s)(dis:∀b,F b->¬cg k sw rs ss b)(hz:vI t)(Y:to.size<=9223372036854775807)(hc:c<=t.side.length)(b:Bd s x y)(Z:x+2*N<700000000000)(hy:y+3*N<40000000000)
  (hN:bN (aV t.width (t.side.take c) s).2.1<=N) (a8:N<=1000000000)
  (hK:∀F' P H',au F' H' p dp (t.merge s c to).1->Ji H' k p (t.merge s c to).2.1 sw rs P->(∀b,ag P b->ag ss b)->Mod (λb=>F b\/b=k) H H'->(∀b,F' b->F b\/H.size<=b)->Bd (t.merge s c to).1 (x+2*N+3000) (y+3*N+9000)->K (((t.merge s c to).2.2.1:Int),(t.merge s c to).2.2.2) H'):HL.sp (aE k) (c:Int) to H K:=by
 refine HL.of ?_;unfold HL.vc;unfold aE;simp only[al];have U:=h.rd.n;have af:=hp.eM;refine h.rd.row.ld (c:=ak) (i:=5) (x:=ss) rfl ?_;refine⟨⟨by omega,by omega⟩,?_⟩;simp only[Od,Tz,Ba];refine h.rd.row.ld (c:=av) (i:=0) (x:=aE p) rfl ?_;refine h.rd.row.ld (c:=ab .i64) (i:=2) (x:=t.width) rfl ?_;have bb:=hz.side;have R:(t.side.take c).length=c:=by rw[OW];omega
 have nO:∀b,ag ss b->¬F b:=λb d q=>dis b q (.inr (.inr (.inr d)));have S:∀A,Mod F H A->bP kS A ss.a t.side:=λA m=>h.rd.names.keep λad V a=>m.same _ a λq=>nO _ ⟨ad,V,rfl⟩ q;refine Fx (names:=Sl.mk ss.a c ss.c) hg hp R.symm (λA m=>(S A m).take) (λn U=>hz.sizes n (Pm U)) Y b (by omega) (by omega) (by omega) hN (by omega) (by omega) (by omega) λF1 A p1 S1=>?_;have bM:=pt (to:=to) b (by omega) (by omega) hN p1.frames;unfold So.merge at hK;generalize cM s (t.side.take c) to t.width=m at*
 -- the side runs are dropped
 refine ar c (λi z B=>z.2=(i:Int)/\∃F' s',au F' B p dp s'/\Step F F' H B/\Bd s' (x+2*N+3000) (y+3*N+9000)/\fT (t.side.take c) m=(if z.1≠0 then (s',z.1) else jg ((t.side.take c).drop i) s')) ⟨rfl,F1,m.1,p1,S1,bM,rfl⟩ ?_;rintro i ⟨e,j⟩ B next hi ⟨hj,F2,s2,p2,D,b2,G⟩ g
 simp only at hj;subst hj;simp only at G ⊢;have vR:aj B k vT (im p t sw ss):=h.rd.row.mod D.mod λq=>dis k q (.inl rfl);have an:=hg.mod D.mod af;refine ah (λI=>?_) (λI=>?_)
 ·have a:i<c:=by
   have:(i:Int)<(c:Int):=by simpa using I
   omega
  have a1:(t.side.take c)[i]?=some ((t.side.take c)[i]'(by omega)):=N8 (by omega);have hd:(t.side.take c).drop i=(t.side.take c)[i]'(by omega)::(t.side.take c).drop (i+1):=OY (by omega);rw[hd] at G;refine bP.one (E:=kS) (c:=aK) (s:=Sl.mk ss.a c ss.c) (S B D.mod).take R.symm rfl a1 rfl ?_;rw[aD i (by omega)];refine ah (λJ=>?_) (λJ=>?_)
  ·have X:e=0:=by simpa using J
   rw[if_neg (by rw[X];simp)] at G;refine vR.ld (c:=av) (i:=0) (x:=aE p) rfl ?_;refine He an p2 λF3 C p3 S3=>?_;refine g a _ C ⟨rfl,F3,_,p3,D.trans S3,b2.cT,?_⟩;rw[G];rfl
  ·have X:e≠0:=by simpa using J
   rw[if_pos X] at G;refine g a _ B ⟨rfl,F2,s2,p2,D,b2,?_⟩;simp only;rw[if_pos X];exact G
 ·have a6:i=c:=by
   have:¬(i:Int)<(c:Int):=by simpa using I
   omega
  subst a6;have hd:(t.side.take i).drop i=[]:=List.drop_of_length_le (by omega);rw[hd] at G;have he:fT (t.side.take i) m=(s2,e):=by
   rw[G];by_cases q:e≠0
   ·rw[if_pos q]
   ·rw[if_neg q];simp only[jg];rw[UP.1 q]
  rw[he] at hK;refine vR.ld (c:=ak) (i:=5) (x:=ss) rfl ?_;refine⟨⟨by omega,by omega⟩,?_⟩;refine aj.st vR (i:=5) (by simp[im]) rfl λC rC mC zC=>?_;have L:Mod (λb=>F b\/b=k) H C:=(D.mod.mono λb _ q=>.inl q).trans' mC λb _ q=>.inr q;have T:¬F2 k:=λq=>(D.own k q).elim (λr=>dis k r (.inl rfl)) λr=>by have:=aA h.rd.row;omega
  have M:=h.nO;have O:=h.rd.jG;have o:∀b,cg k sw rs ss b->b≠k->¬(F b\/b=k):=λb d U q=>q.elim (λu=>dis b u d) U;refine hK F2 ⟨cA ss.a ss.c i 1,ss.n - i,ss.c - i⟩ C (p2.keep λb d a=>mC.same b a λq=>T (q▸d)) ⟨rC,?_,?_,⟨by show ss.n - i=(t.side.drop i).length;rw[Pr];omega,by show ss.n - i<=ss.c - i;omega⟩,h.rd.iD⟩ (λb d=>Be d) L D.own b2
  ·exact h.rd.wait.mod L (λb d=>o b (.inr (.inl d)) λq=>O (q▸d)) λx Z b d=>o b (.inr (.inr (.inl ⟨x,Z,d⟩))) λq=>h.rd.jv x Z (q▸d)
  ·have r1:bP kS C ss.a t.side:=h.rd.names.keep λad V a=>L.same _ a (o ad.block (.inr (.inr (.inr ⟨ad,V,rfl⟩))) λq=>M (q▸⟨ad,V,rfl⟩));exact r1.drop (E:=kS) (by omega)
end
theorem ai.pure {c:eO}{P:Program}{f:FuncId}{args:Array Value}{H:aa}{Q:Prop}(h:ai c P f args H λ_ _=>Q):Q:=by
 obtain⟨e,w',fr,⟨v,he,⟨x,_,q⟩,_⟩,_⟩:=h {(default:World) with heap:=H} rfl [];exact q
theorem wS {n room m:Nat}(a:0<room)(h:de n room<=m):n<=room*m:=by
 unfold de at h;rcases OV (room*m) n with q|q
 ·have h1:room*(m+1)<=n+room - 1:=by rw[Nat.mul_succ];omega
  have:=(Nat.le_div_iff_mul_le a).2 (by rw[Uq];exact h1);omega
 ·exact q
theorem qh {s:Pl}{n:ByteArray}{W:Int}{r:RR}(h:(rnOpen s n W).2.1=some r)(hw:(rnOpen s n W).1.d.WF):r.rows<=(aH W).toNat*1048576:=by
 obtain⟨a,b⟩:=cZ ⟨n,W,0,false⟩;simp only at a;unfold rnOpen at h hw;split at h
 ·cases h
 ·rename_i c;rw[if_neg c] at hw;split at h
  ·cases h
  ·rename_i h1;rw[if_neg h1] at hw;split at h
   ·cases h
   ·rename_i e;rw[if_neg e] at hw;split at h
    ·cases h
    ·rename_i g;rw[if_neg g] at hw;split at h
     ·rename_i i;rw[if_pos i] at hw;cases h;have:=Dk.jX hw n;simp only at this;exact wS (n:=(bY (eH ((s.look n 0).2.2.1.drop 1))).toNat) (m:=1048576) (by show 0<(aH W).toNat;omega) (by omega)
     ·cases h
section
variable {p dp:Nat}{W:Int}
theorem tf {x y:Nat}:∀{ns:List ByteArray} {s:Pl} {x y:Nat} {F:Nat->Prop} {A:aa},Gl A->au F A p dp s->Bd s x y->x+ns.length<900000000000->y+ns.length<60000000000->(∀n∈ns,n.size<=9223372036854775807)->bN (aV W ns s).2.1<=ns.length*((aH W).toNat*1048576)
 |[],s,x,y,F,A,_,_,_,_,_,_=>by simp[aV,bN]
 |n::ns,s,x,y,F,A,a,c,b,h,i,hs=>by
   rw[ON] at h i ⊢;have j:=b.lo;have z:=b.hi;have C:=b.aB;have ⟨F',B,g,o⟩:∃F' B,au F' B p dp (rnOpen s n W).1/\Gl B:=ai.pure (H:=A) (sV (W:=W) a c (hs n OA) (by omega) (by omega) j (λF' B p1 d _=>⟨F',B,p1,a.mod d.mod c.eM⟩) λF' B k r p1 d _ _ _ _=>⟨F',B,p1,a.mod d.mod c.eM⟩);simp only[aV];split
   ·simp[bN]
   ·rename_i r e;have h1:=qh e g.Mp;have q:=tf (x:=x) (y:=y) (ns:=ns) o g (b.open (n:=n) (W:=W) (by omega)) (by omega) (by omega) λm hm=>hs m (Ou _ hm);simp only[bN,Ox,Ph] at q ⊢;rw[Pf];omega
end
def sW (p dp:Nat)(W:Int)(S N:Nat):Prop:=∀(F:Nat->Prop) (A:aa) (s:Pl) (x y:Nat) (l:List ByteArray),Gl A->au F A p dp s->Bd s x y->x<800000000000->y<50000000000->l.length<=S->(∀n∈l,n.size<=9223372036854775807)->bN (aV W l s).2.1<=N
theorem LO {p dp S N:Nat}{W:Int}(d:S<=100000)(h:S*((aH W).toNat*1048576)<=N):sW p dp W S N:=λF A s x y l a c b e g hl hs=>
 Oo (Oo (tf (x:=x) (y:=y) a c b (by omega) (by omega) hs) (OL _ hl)) h
def So.jx (N:Nat):Nat->So->Pl->Prop
 |0,_,_=>True
 |f+1,t,s=>t.frames<=(t.side.length:Int)->bN (aV t.width (t.side.take (t.frames - 1).toNat) s).2.1<=N/\((t.round s).2.2.2=0->So.jx N f {(t.round s).2.1 with side:=t.side.drop (t.frames - 1).toNat++[bU t.name t.next]} (t.round s).1)
def So.DX (N:Nat)(r:Pl×So×Int):Prop:=r.2.2=0->bN (aV r.2.1.width (r.2.1.side.take r.2.1.side.length) r.1).2.1<=N
def So.DP (N:Nat)(r:Pl×So×Int):Prop:=r.2.2=0->r.2.1.jx N r.2.1.side.length r.1/\So.DX N (r.2.1.rounds r.2.1.side.length r.1)
section
variable {H:aa}{k p dp:Nat}{t:So}{sw ss:Sl}{rs:List Sl}{F:Nat->Prop}{s:Pl}
theorem yT {sl:Sl}{l:List ByteArray}{K:Sl->aa->Prop}(h:bP kS H sl.a l)(i:sl.n=l.length)(hl:l.length<=1000000)
  (g:∀s' H',az kS dI H' s' l->Ext H H'->(∀b,ag s' b->H.size<=b)->K s' H'):JQ.sp sl H K:=by
 refine JQ.of ?_;unfold JQ.vc;refine ah (λa=>?_) (λa=>?_)
 ·have:l=[]:=by
   cases l with
   |nil=>rfl
   |cons x r=>
     obtain⟨ad,j⟩:=h.addr (by decide) (by simp);rw[j] at a;cases a
  subst this;exact g _ H (az.nil _ _ _) (.refl _ _) (by rintro b ⟨ad,q,_⟩;cases q)
 ·refine ax λH1 s1 o m1=>?_;have y:az kS dI H1 (Sl.mk (some ⟨H.size,0,none⟩) 0 0) []:=⟨rfl,.inr ⟨H.size,0,#[],rfl,Oz _,o,Ob _,by unfold maxLen;omega,rfl,rfl⟩⟩;have h1:bP kS H1 sl.a l:=h.keep λad _ c=>m1.same _ c id;refine az.append (E:=kS) (s:=Sl.mk (some ⟨H.size,0,none⟩) 0 0) (x:=sl) (l:=[]) (r:=l) CH y h1 i (by simp;omega) (by simp;omega) λs' H' z g' _=>?_;refine g s' H' (by simpa using z) ⟨Oo m1.size g'.1.size,λb d _=>(g'.1.same b (by omega) (by rintro⟨ad,e,e2⟩;cases e;have:H.size=b:=e2;omega)).trans (m1.same b d id)⟩ λb d=>?_;rcases g'.2 b d with ⟨ad,e,e2⟩|q
  ·cases e;have:H.size=b:=e2;omega
  ·omega
theorem mW {a:Sl}{b:Nat}(h:cg k sw rs a b)(hs:∀b,ag a b->ag ss b):cg k sw rs ss b:=by
 rcases h with q|q|q|q
 ·exact .inl q
 ·exact .inr (.inl q)
 ·exact .inr (.inr (.inl q))
 ·exact .inr (.inr (.inr (hs b q)))
set_option maxRecDepth 100000 in
set_option maxHeartbeats 2000000 in
theorem KC {K:(Int×Int)->aa->Prop}{x y N R:Nat}(hg:Gl H)(a7:¬cg k sw rs ss bh)(h:qg H k p t sw rs ss)(hp:au F H p dp s)(dis:∀b,F b->¬cg k sw rs ss b)(hz:vI t)(c0:t.next+t.side.length+2<=100)(c3:3<=t.frames)(b:Bd s x y)(hR:t.side.length+2<=R)(c4:N<=1000000000)(hx:x+400010+R*(2*N+3000)<=600000000000)(hy:y+805000+R*(3*N+9000)<=39000000000)
  (hle:So.DP N (t.first s)\/sW p dp t.width (t.side.length+1) N)
  (U:∀F' g j d H',au F' H' p dp (So.goes (t.first s)).1->Ji H' k p (So.goes (t.first s)).2.1 g j d->(∀b,F' b->¬cg k g j d b)->Step (λb=>F b\/cg k sw rs ss b) (λb=>F' b\/cg k g j d b) H H'->Bd (So.goes (t.first s)).1 (x+400010+R*(2*N+3000)) (y+805000+R*(3*N+9000))->K (((So.goes (t.first s)).2.2.1:Int),(So.goes (t.first s)).2.2.2) H'):Jf.sp (aE k) H K:=by
 refine Jf.of ?_;unfold Jf.vc;unfold aE;simp only[al];have b3:=hg.lt;have bC:=h.rd.wait.n;refine⟨λ_ B=>(t.first s).2.2=0/\∃F' g j d,au F' B p dp (t.first s).1/\qg B k p (t.first s).2.1 g j d/\(∀b,F' b->¬cg k g j d b)/\Step (λb=>F b\/cg k sw rs ss b) (λb=>F' b\/cg k g j d b) H B/\Bd (t.first s).1 (x+400010) (y+805000)/\vI (t.first s).2.1/\(t.first s).2.1.next+(t.first s).2.1.side.length<=100/\(t.first s).2.1.frames=t.frames/\(t.first s).2.1.side.length<=t.side.length+1/\(t.first s).2.1.width=t.width,?_,?_⟩
 ·have aside:∀(Kb:Int->aa->Prop),(t.wait≠[]\/t.side=[])->(∀e B,e≠0->K (0,e) B->Kb e B)->(∀B,((t.first s).2.2=0/\∃F' g j d,au F' B p dp (t.first s).1/\qg B k p (t.first s).2.1 g j d/\(∀b,F' b->¬cg k g j d b)/\Step (λb=>F b\/cg k sw rs ss b) (λb=>F' b\/cg k g j d b) H B/\Bd (t.first s).1 (x+400010) (y+805000)/\vI (t.first s).2.1/\(t.first s).2.1.next+(t.first s).2.1.side.length<=100/\(t.first s).2.1.frames=t.frames/\(t.first s).2.1.side.length<=t.side.length+1/\(t.first s).2.1.width=t.width)->Kb 0 B)->
    DU.sp (some ⟨k,0,none⟩) H Kb:=λKb T k1 k2=>by
   have ef:t.first s=t.aside s:=if_pos T;rw[ef] at U k2;refine w6 hg a7 h hp dis hz b (by omega) (by omega) λF' d B pB O dB L=>?_;have c5:=jJ t.wait;have hw:=hz.wait;have bd:Bd (t.aside s).1 (x+400010) (y+805000):=(se b (by omega) pB.frames).mono (by omega) (by omega);by_cases X:(t.aside s).2.2=0
   ·rw[X];refine k2 B ⟨X,F',bf,[],d,pB,O,dB,L,bd,⟨hz.name,Oz _,?_,λn V=>?_,?_,hz.frames⟩,?_,rfl,?_,rfl⟩
    ·show (t.side++[_]).length<=1000;simp;omega
    ·rcases Oe.1 (show n∈t.side++[bU t.name t.next] from V) with u|u
     ·exact hz.sizes n u
     ·rw[Ow] at u;subst u;have:=cJ hz.next;have:=hz.name;rw[dR];omega
    ·show t.next+1<100;omega
    ·show t.next+1+(t.side++[_]).length<=100;simp;omega
    ·show (t.side++[_]).length<=t.side.length+1;simp
   ·unfold So.goes at U;rw[if_pos X] at U;exact k1 _ B X (U F' bf [] d B pB O.rd dB L (bd.mono (by omega) (by omega)))
  refine h.rd.row.ld (c:=ak) (i:=4) (x:=sw) rfl ?_;refine ah (λT=>?_) (λT=>?_)
  ·have hw:t.wait≠[]:=λq=>by rw[q] at bC;rw[bC] at T;simp at T
   exact aside _ (.inl hw) (λe B X q=>aP (by simpa using X) q) λB q=>aC rfl q
  ·have hw:t.wait=[]:=by
    have:¬(sw.n:Int)>0:=by simpa using T
    exact Oy (by omega)
   refine h.rd.row.ld (c:=ak) (i:=5) (x:=ss) rfl ?_;have V:=h.rd.n.1;refine ah (λT=>?_) (λT=>?_)
   ·have hs:t.side=[]:=by
     have:(ss.n:Int)=0:=by simpa using T
     exact Oy (by omega)
    exact aside _ (.inr hs) (λe B X q=>aP (by simpa using X) q) λB q=>aC rfl q
   ·have hs:t.side≠[]:=λq=>by rw[q] at V;rw[V] at T;simp at T
    have ef:t.first s=(s,t,0):=if_neg (by rintro(q|q);exact q hw;exact hs q);rw[ef];exact⟨rfl,F,sw,rs,ss,hp,h,dis,.refl _ _,b.mono (by omega) (by omega),hz,by show t.next+t.side.length<=100;omega,rfl,OZ _,rfl⟩
 ·rintro _ A ⟨X,F1,b4,b5,b6,pA,sA,dA,SA,bA,zA,nA,fA,lA,wA⟩;have Y:((t.first s).2.1.jx N (t.first s).2.1.side.length (t.first s).1/\So.DX N ((t.first s).2.1.rounds (t.first s).2.1.side.length (t.first s).1))\/sW p dp t.width (t.side.length+1) N:=hle.imp (λh=>h X) id;have eg:So.goes (t.first s)=So.last ((t.first s).2.1.rounds (t.first s).2.1.side.length (t.first s).1):=if_neg (by rw[X];simp);rw[eg] at U;generalize hl:(t.first s).2.1.side.length=f0 at*;have b7:(t.first s).2.1.side.length<=f0:=Um hl;have bM:f0+1<=R:=by omega
  generalize (t.first s).2.1=t1 at*;generalize (t.first s).1=s1 at*;have hmul:(f0+1)*(2*N+3000)<=R*(2*N+3000):=OL _ bM;have a8:(f0+1)*(3*N+9000)<=R*(3*N+9000):=OL _ bM;rw[Pf] at hmul a8;have bO:t1.jx N f0 s1\/sW p dp t.width (t.side.length+1) N:=Y.imp And.left id;refine⟨Nat,λf _ B=>∃F' g j d t' s' xx yy,au F' B p dp s'/\qg B k p t' g j d/\(∀b,F' b->¬cg k g j d b)/\Step (λb=>F b\/cg k sw rs ss b) (λb=>F' b\/cg k g j d b) H B/\Bd s' xx yy/\xx+f*(2*N+3000)<=x+400010+f0*(2*N+3000)/\yy+f*(3*N+9000)<=y+805000+f0*(3*N+9000)/\vI t'/\t'.next+t'.side.length<=100/\t'.frames=t.frames/\t'.side.length<=f/\f<=f0/\t'.width=t.width/\t1.rounds f0 s1=t'.rounds f s'/\(t'.jx N f s'\/sW p dp t.width (t.side.length+1) N),λf=>f,
   ⟨f0,F1,b4,b5,b6,t1,s1,x+400010,y+805000,pA,sA,dA,SA,bA,Ob _,Ob _,zA,by rw[hl];exact nA,fA,b7,Ob _,wA,rfl,bO⟩,?_⟩
  rintro f _ B ⟨F2,o,z,P,t2,s2,xx,yy,pB,O,dB,L,bB,bx,b9,J,nB,fB,lB,ff,wB,eB,b0⟩;have Z:Gl B:=hg.keep (L.mod.same _ b3 λq=>q.elim hp.eM a7);have af:¬cg k o z P bh:=λq=>by
   rcases L.own _ (.inr q) with u|u
   ·exact u.elim hp.eM a7
   ·omega
  have cb:=O.rd.n.1;refine O.rd.row.ld (c:=ak) (i:=5) (x:=P) rfl ?_;refine O.rd.row.ld (c:=ab .i64) (i:=3) (x:=t2.frames) rfl ?_;refine ah (λT=>?_) (λT=>?_)
  ·have bb:t2.frames<=(t2.side.length:Int):=by
    have:(P.n:Int)>=t2.frames:=by simpa using T
    omega
   cases f with
   |zero=>exact absurd lB (by omega)
   |succ f=>
   rw[Pf] at bx b9;have ck:bN (aV t2.width (t2.side.take (t2.frames - 1).toNat) s2).2.1<=N:=b0.elim (λh=>(h bb).1) λh=>by
    rw[wB];exact h F2 B s2 xx yy _ Z pB bB (by omega) (by omega) (by rw[OW];omega) λn V=>J.sizes n (Pm V)
   have cm:(t2.round s2).2.2.2=0->So.jx N f {(t2.round s2).2.1 with side:=t2.side.drop (t2.frames - 1).toNat++[bU t2.name t2.next]} (t2.round s2).1\/sW p dp t.width (t.side.length+1) N:=λe=>b0.imp (λh=>(h bb).2 e) id;have er:t2.rounds (f+1) s2=if (t2.round s2).2.2.2≠0 then ((t2.round s2).1,(t2.round s2).2.1,(t2.round s2).2.2.2) else So.rounds f {(t2.round s2).2.1 with side:=t2.side.drop (t2.frames - 1).toNat++[bU t2.name t2.next]} (t2.round s2).1:=if_pos bb
   have dc:t2.next<98:=by omega
   refine qF O.rd.row (by omega) J.name λC rC mC zC=>?_;have b1:¬F2 k:=λq=>dB k q (.inl rfl);have bl:=O.rd.jG;have bn:=O.nO;have sC:qg C k p (t2.to (t2.next+1)) o z P:=.mk' rC (O.rd.wait.mod mC (λb a q=>bl (q▸a)) λx hx b a q=>O.rd.jv x hx (q▸a)) (O.side.mod mC λb a q=>bn (q▸a)) O.rd.iD;have pC:au F2 C p dp s2:=pB.keep λb a an=>mC.same b an λq=>b1 (q▸a);have gC:Gl C:=Z.keep (mC.same _ Z.lt λq=>af (.inl q));refine rC.ld (c:=ab .i64) (i:=3) (x:=t2.frames) rfl ?_;have hf:=J.frames;have ec:N6.wrap (t2.frames - 1)=(((t2.frames - 1).toNat:Nat):Int):=by rw[wrap64 (by omega) (by omega)];omega
   rw[ec];have cx:vI (t2.to (t2.next+1)):=⟨J.name,J.wait,J.side,J.sizes,by show t2.next+1<100;omega,J.frames⟩;refine ux (t:=t2.to (t2.next+1)) (c:=(t2.frames - 1).toNat) gC af sC pC dB cx (by have:=cJ J.next;have:=J.name;rw[dR];omega) (by show (t2.frames - 1).toNat<=t2.side.length;omega) bB (by omega) (by omega) ck (by omega) λF3 M D pD sD oD mD wD bD=>?_;have em:(t2.to (t2.next+1)).merge s2 (t2.frames - 1).toNat (bU t2.name t2.next)=t2.round s2:=rfl;rw[em] at pD sD bD ⊢;have dk:=mC.size;have SD:Step (λb=>F2 b\/cg k o z P b) (λb=>F3 b\/cg k o z M b) B D:=by
    refine⟨(mC.mono λb _ q=>.inr (.inl q)).trans' mD λb _ q=>q.elim .inl λu=>.inr (.inl u),λb a=>?_⟩;rcases a with u|u
    ·rcases wD b u with v|v
     ·exact .inl (.inl v)
     ·exact .inr (by omega)
    ·exact .inl (.inr (mW u oD))
   have dD:∀b,F3 b->¬cg k o z M b:=λb a q=>by
    have q2:=mW q oD;rcases wD b a with v|v
    ·exact dB b v q2
    ·have:=sC.lt b q2;omega
   by_cases ee:(t2.round s2).2.2.2=0
   ·rw[if_neg (by rw[ee];simp)] at er;refine aC (by rw[ee];rfl) ?_;have e3:(t2.round s2).2.1={t2.to (t2.next+1) with side:=t2.side.drop (t2.frames - 1).toNat}:=rfl;have S:Ji D k p {t2.to (t2.next+1) with side:=t2.side.drop (t2.frames - 1).toNat} o z M:=sD;refine S.row.ld (c:=ak) (i:=5) (x:=M) rfl ?_;have hsl:=J.side;refine yT S.names S.n.1 (by show (t2.side.drop _).length<=_;rw[Pr];omega) λcy E oE eE fE=>?_;refine az.push (E:=kS) (x:=bU t2.name t2.next) CH oE rfl (by show (t2.side.drop _).length+1<=_;rw[Pr];omega) (by show ((t2.side.drop _).length+1)*_<=_;rw[Pr];omega) λa1 G oG gG _=>?_;have kD:=aA S.row;have k5:¬ag a1 k:=λq=>by
     rcases gG.2 k q with u|u
     ·have:=fE k u;omega
     ·have:=eE.size;omega
    have k4:¬ag cy k:=λq=>by have:=fE k q;omega
    have rG:aj G k vT (im p {t2.to (t2.next+1) with side:=t2.side.drop (t2.frames - 1).toNat} o M):=(S.row.ext eE).mod gG.1 k4;refine aj.st rG (i:=5) (by simp[im]) rfl λI rI mI zI=>?_;have zE:=eE.size;have zG:=gG.1.size;have bs:Mod (λb=>b=k) D I:=by
     refine⟨by have:=mI.size;omega,λb a V=>?_⟩;rw[mI.same b (by omega) V,gG.1.same b (by omega) (λq=>by have:=fE b q;omega),eE.same b a id]
    have a6:∀b,ag a1 b->D.size<=b:=λb a=>by
     rcases gG.2 b a with u|u
     ·exact fE b u
     ·omega
    have sI:qg I k p {(t2.round s2).2.1 with side:=t2.side.drop (t2.frames - 1).toNat++[bU t2.name t2.next]} o z a1:=by
     refine .mk' rI ?_ (oG.mod mI λb a q=>k5 (q▸a)) O.rd.iD;exact S.wait.mod bs (λb a q=>S.jG (q▸a)) λx hx b a q=>S.jv x hx (q▸a)
    have b2:¬F3 k:=λq=>dD k q (.inl rfl);have z3:=mD.size;refine⟨f,⟨F3,o,z,a1,_,(t2.round s2).1,xx+2*N+3000,yy+3*N+9000,pD.keep λb a an=>bs.same b an λq=>b2 (q▸a),sI,λb a q=>?_,?_,bD,by omega,by omega,⟨J.name,J.wait,?_,λn V=>?_,by show t2.next+1<100;omega,J.frames⟩,?_,fB,?_,by omega,wB,?_,cm ee⟩,Rv _⟩
    ·rcases q with u|u|u|u
     ·exact dD b a (.inl u)
     ·exact dD b a (.inr (.inl u))
     ·exact dD b a (.inr (.inr (.inl u)))
     ·have:=a6 b u;have:=pD.lt b a;omega
    ·have cz:=L.mod.size;refine⟨(L.mod.trans' SD.mod λb a q=>?_).trans' bs λb a q=>?_,λb a=>?_⟩
     ·rcases L.own b q with u|u
      ·exact u
      ·omega
     ·rcases L.own b (.inr (.inl q)) with u|u
      ·exact u
      ·omega
     ·have up:∀b,(F3 b\/cg k o z M b)->(F b\/cg k sw rs ss b)\/H.size<=b:=λb a=>by
       rcases SD.own b a with u|u
       ·exact L.own b u
       ·exact .inr (by omega)
      rcases a with u|u|u|u|u
      ·exact up b (.inl u)
      ·exact up b (.inr (.inl u))
      ·exact up b (.inr (.inr (.inl u)))
      ·exact up b (.inr (.inr (.inr (.inl u))))
      ·exact .inr (by have:=a6 b u;omega)
    ·show (t2.side.drop _++[_]).length<=1000;simp;omega
    ·rcases Oe.1 (show n∈t2.side.drop (t2.frames - 1).toNat++[bU t2.name t2.next] from V) with u|u
     ·exact J.sizes n (QN u)
     ·rw[Ow] at u;subst u;have:=cJ J.next;have:=J.name;rw[dR];omega
    ·show t2.next+1+(t2.side.drop _++[_]).length<=100;simp;omega
    ·show (t2.side.drop _++[_]).length<=f;simp;omega
    ·rw[eB,er]
   ·rw[if_pos ee] at er;rw[eB,er] at U;unfold So.last at U;rw[if_pos ee] at U;refine aP (by simpa using ee) (U F3 o z M D pD sD dD ⟨L.mod.trans' SD.mod λb a q=>(L.own b q).resolve_right (by omega),λb a=>?_⟩ (bD.mono (by omega) (by omega)));rcases SD.own b a with u|u
    ·exact L.own b u
    ·have:=L.mod.size;exact .inr (by omega)
  ·have an:¬t2.frames<=(t2.side.length:Int):=by
    have:¬(P.n:Int)>=t2.frames:=by simpa using T
    omega
   have er:t2.rounds f s2=(s2,t2,0):=by
    cases f with
    |zero=>rfl
    |succ f=>exact if_neg an
   rw[eB,er] at U Y;have cB:bN (aV t2.width (t2.side.take t2.side.length) s2).2.1<=N:=Y.elim (λh=>h.2 rfl) λh=>by
    rw[wB];exact h F2 B s2 xx yy _ Z pB bB (by omega) (by omega) (by rw[OW];omega) λn V=>J.sizes n (Pm V)
   unfold So.last at U;rw[if_neg (by simp)] at U;refine O.rd.row.ld (c:=ak) (i:=5) (x:=P) rfl ?_;refine O.rd.row.ld (c:=aK) (i:=1) (x:=t2.name) rfl ?_;rw[cb];have:0<=f*(2*N+3000):=Oz _;have:0<=f*(3*N+9000):=Oz _;refine ux (c:=t2.side.length) Z af O pB dB J (by have:=J.name;omega) (Ob _) bB (by omega) (by omega) cB (by omega) λF3 M D pD sD oD mD wD bD=>?_;have cz:=L.mod.size;refine U F3 o z M D pD sD (λb a q=>?_) ⟨L.mod.trans' mD λb a q=>?_,λb a=>?_⟩ (bD.mono (by omega) (by omega))
   ·have q2:=mW q oD;rcases wD b a with v|v
    ·exact dB b v q2
    ·have:=O.lt b q2;omega
   ·have:F2 b\/cg k o z P b:=q.elim .inl λu=>.inr (.inl u);exact(L.own b this).resolve_right (by omega)
   ·rcases a with u|u
    ·rcases wD b u with v|v
     ·exact L.own b (.inl v)
     ·exact .inr (by omega)
    ·exact L.own b (.inr (mW u oD))
set_option maxRecDepth 100000 in
theorem Ef {K:(Int×Int)->aa->Prop}{x y N R:Nat}(hg:Gl H)(G:¬cg k sw rs ss bh)(h:qg H k p t sw rs ss)(X:au F H p dp s)(dis:∀b,F b->¬cg k sw rs ss b)(hz:vI t)(C:t.next+t.side.length+2<=100)(I:3<=t.frames)(b:Bd s x y)(hR:t.side.length+2<=R)(J:N<=1000000000)(hx:x+400010+R*(2*N+3000)<=600000000000)(hy:y+805000+R*(3*N+9000)<=39000000000)
  (hle:t.ready=0->So.DP N (t.first s)\/sW p dp t.width (t.side.length+1) N)
  (a:∀F' c D d H',au F' H' p dp (t.done s).1->aj H' k vT (im p (t.done s).2.1 c d)->(∀b,F' b->¬cg k c D d b)->Step (λb=>F b\/cg k sw rs ss b) (λb=>F' b\/cg k c D d b) H H'->Bd (t.done s).1 (x+400010+R*(2*N+3000)) (y+805000+R*(3*N+9000))->K (((t.done s).2.2.1:Int),(t.done s).2.2.2) H'):Df.sp (aE k) H K:=by
 refine Df.of ?_;unfold Df.vc;refine ki h.rd.row ?_;unfold So.done at a;refine ah (λe=>?_) (λe=>?_)
 ·rw[if_pos (by simpa using e)] at a;exact a F sw rs ss H X h.rd.row dis (.refl _ _) (b.mono (Oo (P6 x 400010) (P6 _ _)) (Oo (P6 y 805000) (P6 _ _)))
 have Y:¬t.ready≠0:=by simpa using e
 rw[if_neg Y] at a;refine KC hg G h X dis hz C I b hR J hx hy (hle (UP.1 Y)) λE g j o A pA Z L M bA=>?_;unfold aE;simp only[al];unfold So.ends at a;have go:∀(B:aa),Mod (λb=>b=k) A B->B.size=A.size->au E B p dp (So.goes (t.first s)).1/\Step (λb=>F b\/cg k sw rs ss b) (λb=>E b\/cg k g j o b) H B:=λB m z=>
  ⟨pA.keep λb hb O=>m.same b O λq=>L b hb (.inl q),⟨M.mod.trans' m λb hb q=>(M.own b (.inr (.inl q))).resolve_right (by omega),M.own⟩⟩
 refine ah (λe=>?_) (λe=>?_)
 ·rw[if_pos (by simpa using e)] at a;refine aj.st Z.row (i:=7) (by simp[im]) rfl λB P S T=>?_;obtain⟨U,V⟩:=go B S T;exact a E g j o B U P L V bA
 ·rw[if_neg (by simpa using e)] at a;refine aj.st Z.row (i:=8) (by simp[im]) rfl λB P S T=>?_;obtain⟨U,V⟩:=go B S T;exact a E g j o B U P L V bA
end
theorem pU {P:Program}(w:World)(t ty e:TypeId)(i:TypeInfo)(z:P.underlying t=some (.slice e))(hi:P.info? e=some i)
  (g o b d:Nat) (cur:Array Value) (C:w.heap[g]?=some (.cells cur e (0,0)))
  (a:Addr) (m c:Nat) (news:List Value) (hl:news.length=m*i.size) (h:∀j u,news[j]?=some u->w.cell? (a.add j)=some u) (h1:∀u∈news,u.oneCell'=true)
  (q:b+m<=d) (x:o+b*i.size+news.length<=cur.size):
  (Oa #[t,t] ty #[.slice (some ⟨g,o,none⟩) b d,.slice (some a) m c]).run P w=
   .ok (.slice (some ⟨g,o,none⟩) (b+m) d) (w.setRow g (cur.toList.take (o+b*i.size)++news++cur.toList.drop (o+b*i.size+news.length)).toArray):=by
 have D:=run_firstCells_some (P:=P) w i.size m a m c news hl h;have y:=run_storeCells_at P g (o+b*i.size) e news 0 cur w C (by simpa using x) h1;simp only[RB] at y;simp[Oa,run_underlying z,sizeOf,typeInfo,hi,VY,q,D,Addr.add_lit,y]
structure nM (H:aa)(s:Sl)(l:List ByteArray):Prop where
 n:s.n=l.length
 at_:(s=⟨none,0,0⟩/\l=[])\/∃g o cur,s.a=some ⟨g,o,none⟩/\H[g]?=some (.cells cur dI (0,0))/\s.n<=s.c/\s.c<=maxLen/\o+s.c<=cur.size/\(cur.toList.drop o).take s.n=l.map PA
theorem j7 (l:List ByteArray):kS.all l=l.map PA:=by
 induction l with
 |nil=>rfl
 |cons a l b=>
   have:kS.all (a::l)=PA a::kS.all l:=rfl;rw[this,b];rfl
section
variable {H B:aa}{s:Sl}{l:List ByteArray}
theorem nM.nil (H:aa):nM H (Sl.mk none 0 0) []:=⟨rfl,.inl ⟨rfl,rfl⟩⟩
theorem nM.of (h:az kS dI H s l):nM H s l:=by
 have j:=az.n h (by decide);refine⟨j,?_⟩;have b:=h.2;rw[j7] at b;have o:kS.size=1:=rfl;rw[o] at b;rcases b with ⟨e,y⟩|⟨g,cap,cur,e,_,q,d,x,z,i⟩
 ·left;refine⟨?_,Oy (by omega)⟩;obtain⟨a,n,c⟩:=s;simp only[Sl.v,Ov] at e;obtain⟨rfl,rfl,rfl⟩:=e;rfl
 ·right;obtain⟨a,n,c⟩:=s;simp only[Sl.v,Ov] at e;obtain⟨rfl,_,rfl⟩:=e;simp only at d i ⊢;exact⟨g,0,cur,rfl,q,d,x,by omega,by rw[List.drop_zero];simpa using i⟩
theorem nM.cap (h:nM H s l):s.n<=s.c:=by
 rcases h.at_ with ⟨e,_⟩|⟨g,o,cur,_,_,a,_⟩
 ·rw[e];exact Ob _
 ·exact a
theorem nM.obj (h:nM H s l):∀b,ag s b->∃cur,H[b]?=some (.cells cur dI (0,0)):=by
 rintro b ⟨ad,a,rfl⟩;rcases h.at_ with ⟨e,_⟩|⟨g,o,cur,e,c,_⟩
 ·rw[e] at a;cases a
 ·rw[e] at a;cases a;exact⟨cur,c⟩
theorem nM.lt (h:nM H s l):∀b,ag s b->b<H.size:=λb a=>by
 obtain⟨cur,c⟩:=h.obj b a;exact(Array.getElem?_eq_some_iff.1 c).1
theorem nM.mod {G:Nat->Prop}(h:nM H s l)(m:Mod G H B)(a:∀b,ag s b->¬G b):nM B s l:=by
 refine⟨h.n,h.at_.imp id ?_⟩;rintro⟨g,o,cur,e,c,r⟩;have own:ag s g:=⟨_,e,rfl⟩;exact⟨g,o,cur,e,(m.same g (h.lt g own) (a g own)).trans c,r⟩
theorem nM.apart {base:Nat}{e:TypeId}{size:Nat}{s':Sl}{xs:List Value}(h:nM H s l)(k:aM H base e size s' xs)(a:dI≠e):∀b,ag s b->¬ag s' b:=λb h1 c=>by
 obtain⟨c1,d⟩:=h.obj b h1;obtain⟨c2,g⟩:=k.obj b c;exact a (aF d g)
theorem nM.rd (h:nM H s l):bP kS H s.a l:=by
 intro i v a;rw[j7] at a;rcases h.at_ with ⟨_,e⟩|⟨g,o,cur,e,b,d,j,q,c⟩
 ·rw[e] at a;simp at a
 ·refine⟨_,e,?_⟩;rw[add_lit];refine cq b ?_;rw[<-c,List.getElem?_take] at a;split at a
  ·rw[PE] at a;simpa using a
  ·cases a
theorem nM.cut (h:nM H s l){k:Nat}(hk:k<=l.length):nM H ⟨cA s.a s.c k 1,s.n - k,s.c - k⟩ (l.drop k):=by
 have i:=h.n;refine⟨by rw[Pr];show s.n - k=_;omega,?_⟩;rcases h.at_ with ⟨e,c⟩|⟨g,o,cur,e,b,x,y,z,d⟩
 ·subst c;have:k=0:=by simpa using hk
  subst this;left;rw[e];exact⟨rfl,rfl⟩
 ·right;have hd:∀j,(cur.toList.drop (o+j)).take (s.n - j)=(l.drop j).map PA:=λj=>by
   rw[<-Q1,<-Vn,d,List.map_drop]
  by_cases q:s.c=k
  ·have a:s.n - k=0:=by omega
   refine⟨g,o,cur,?_,b,by show s.n - k<=s.c - k;omega,by show s.c - k<=_;omega,by show o+(s.c - k)<=_;omega,?_⟩
   ·show cA s.a s.c k 1=_;unfold cA;rw[if_pos q];exact e
   ·show (cur.toList.drop o).take (s.n - k)=_;rw[<-hd k,a];rfl
  ·refine⟨g,o+k,cur,?_,b,by show s.n - k<=s.c - k;omega,by show s.c - k<=_;omega,by show o+k+(s.c - k)<=_;omega,hd k⟩;show cA s.a s.c k 1=_;unfold cA;rw[if_neg q,e];simp[add_lit]
theorem Ck {x:ByteArray}{p:Addr}{ty:TypeId}{K:Sl->aa->Prop}(h:nM H s l)(V:cK H p=some (.string x))(hl:l.length+1<=1000000)
  (N:∀s' B,nM B s' (l++[x])->Mod (ag s) H B->(∀b,ag s' b->ag s b\/H.size<=b)->K s' B):
  ba ak N5 (Oa #[dU,dU] ty #[s.v,.slice (some p) 1 1]) H K:=by
 rcases h.at_ with ⟨e,Z⟩|⟨g,o,cur,e,X,h3,h4,h5,h6⟩
 ·subst Z;subst e;refine az.append (E:=kS) (s:=Sl.mk none 0 0) (x:=⟨some p,1,1⟩) (l:=[]) (r:=[x]) CH (az.nil _ _ _) (λi v G=>?_) rfl (by simp) (by simp) λs' B o g _=>N s' B (.of o) g.1 g.2;cases i with
  |zero=>
    rw[j7] at G;simp at G;subst G;exact⟨p,rfl,by rw[add_zero'];exact V⟩
  |succ i=>rw[j7] at G;simp at G
 obtain⟨inf,z,Y,hi,hz,O,hs,R,_⟩:=CH;have y:=h.n;have hlen:(l.map PA).length=s.n:=by rw[OT];exact y.symm
 intro w hw;subst hw;obtain⟨sa,a,q⟩:=s;simp only[Sl.v] at*;subst e;have c:∀j u,[PA x][j]?=some u->w.cell? (p.add j)=some u:=λj u hu=>by
  cases j with
  |zero=>simp at hu;subst hu;rw[add_zero'];exact V
  |succ j=>simp at hu
 have h1:∀u∈[PA x],u.oneCell'=true:=λu hu=>by rw[Ow] at hu;subst hu;rfl
 by_cases d:a+1<=q
 ·have M:=pU (P:=N5) w dU ty dI inf Y hi g o a q cur X p 1 1 [PA x] (by rw[hs];rfl) c h1 d (by rw[hs];simp;omega);rw[hs,O7] at M;refine⟨_,_,M,⟨⟨some ⟨g,o,none⟩,a+1,q⟩,rfl,N _ _ ⟨by rw[OG];show a+1=_;rw[y];rfl,.inr ⟨g,o,_,rfl,setRow_heap w g cur _ dI _ X,d,h4,?_,?_⟩⟩ ⟨by simp[World.setRow],λb _ I=>setRow_other w g b _ (λC=>I ⟨_,rfl,C.symm⟩)⟩ (λb I=>.inl ?_)⟩,(.of_le rfl (Ob _))⟩
  ·simp only[Qn,OG,OW,Pr,Ql,P7];omega
  ·simp only;have af:(cur.toList.take (o+a)).length=o+a:=by rw[OW,Ql];omega
   rw[O3,List.drop_append_of_le_length (by omega),Vn,show o+a - o=a by omega,h6,OO,<-O3,We (by rw[OG,hlen];rfl)];rfl
  ·obtain⟨D,C,S⟩:=I;exact⟨D,C,S⟩
 ·have holds:∀j u,(l.map PA)[j]?=some u->w.cell? ((⟨g,o,none⟩:Addr).add j)=some u:=λj u hu=>by
   obtain⟨D,C,hc⟩:=h.rd j u (by rw[j7];exact hu);cases C;exact hc
  have T:a+1<=maxLen:=by unfold maxLen;omega
  have M:=run_append_grow (P:=N5) w dU ty dI inf z Y hi hz ⟨g,o,none⟩ a q (l.map PA) (by rw[hs,O7];exact hlen) holds p 1 1 [PA x] (by rw[hs];rfl) c (by omega) (by omega) (growslice_fits (by omega) (by rw[R];omega));have U:=grownCap_ge w (a+1) q dI;have J:grownCap w (a+1) q dI<=maxLen:=grownCap_le_maxLen w (a+1) q dI T;refine⟨_,_,M,⟨⟨some ⟨w.heap.size,0,none⟩,a+1,grownCap w (a+1) q dI⟩,rfl,N _ _ (.of ?_) (Mod.push _ _ _) (λb I=>.inr ?_)⟩,(.of_le rfl (OZ _))⟩
  ·have L:(kS.all (l++[x])).length=(a+1)*1:=by rw[j7,OT,OG,O7,y];rfl
   refine aM.fresh (size:=1) (Oz _) U J ?_ L ?_
   ·simp only[Array.size_append,Qn,size_zeroCells,O,hs,hlen,P7];omega
   ·rw[<-L,j7,OO];simp only[Array.toList_append];exact List.take_left
  ·obtain⟨D,C,S⟩:=I;cases C;have:w.heap.size=b:=S;omega
theorem nM.push {x:ByteArray}{ty:TypeId}{K:Sl->aa->Prop}(h:nM H s l)(hl:l.length+1<=1000000)(c:∀s' B,nM B s' (l++[x])->Mod (ag s) H B->(∀b,ag s' b->ag s b\/H.size<=b)->K s' B):
  aI H #[.string x] dI λp H1=>ba ak N5 (Oa #[dU,dU] ty #[s.v,.slice (some p) 1 1]) H1 K:=by
 refine ax λA g d a=>?_;refine Ck (h.mod a λ_ _=>id) (by
  have:=d.cell (i:=0) (v:=.string x) rfl;exact this) hl λs' B o m w=>c s' B o ((Ext.mod a).trans' m λb _ q=>q) λb e=>(w b e).imp id λq=>by omega
end
theorem eR.get {X:Nat->Prop}{A:aa}{s:Sl}{ls:List (List Int)}{l:List Int}(h:eR X A s ls){i:Nat}(hi:ls[i]?=some l){K:Sl->Prop}(d:∀r,Ints .u64 A r l->(∀ad,r.a=some ad->ad.block<A.size/\¬X ad.block)->K r):
  ae s.a λa=>(0<=(i:Int)/\(i:Int)<(s.n:Int))/\Go.Proofs.YtmkbhnholcaghaaGreatDoor.ld ak A (a.add ((i:Int).toNat*1)) K:=by
 have y:=h.n;obtain⟨rs,o,hlen,e⟩:=h.ex;have g:=(N7.1 hi).1;have b:i<rs.length:=by omega
 obtain⟨ad,j,q⟩:=o.reads.at (i:=i) (by rw[OT];exact b);obtain⟨x,c⟩:=e i rs[i] l (N8 b) hi;refine aX ad j ⟨⟨by omega,by omega⟩,rs[i],?_,d _ x λad h1=>⟨(c ad h1).1,(c ad h1).2.1⟩⟩;rw[Od,O7];simpa using q
theorem ao.frames {F:Nat->Prop}{H:aa}{p dp:Nat}{s:Pl}(h:ao F H p dp s):s.fs.length<=4096:=Oo h.wf.len h.wf.most.2
section
variable {A0:aa}{F:Nat->Prop}{p dp:Nat}{s:Pl}{name:ByteArray}{W:Int}{rows:Sl}{ls:List (List Int)}
set_option maxHeartbeats 1000000 in
theorem C4 {K:Int->aa->Prop}{x y:Nat}(hp:ao F A0 p dp s)(hr:eR F A0 rows ls)(hl:ls.length<=1000000)(X:∀l∈ls,l.length<=16)(Y:name.size<=9223372036854775807)(b:Bd s x y)(hx:x<800000000000)(hy:y<50000000000)
  (c:∀F' B,ao F' B p dp (ia s name W ls).1->Step F F' A0 B->K (ia s name W ls).2 B):JW.sp (aE p) name W rows A0 K:=by
 refine JW.of ?_;unfold JW.vc;have q1:=b.lo;have q2:=b.hi;have q3:=b.aB;have bM:=b.make (n:=name) (W:=W) (by omega);unfold ia at c;refine xo hp Y (by omega) (by omega) q1 b.fit (λZ B p2 U I=>?_) (λZ B kw w p2 U I w2 k1 k2=>?_)
 ·have V:=gO.1 I;rw[I] at c;refine ar 0 (λ_ z C=>z.1=(bj s name W).2.2/\C=B) ⟨rfl,rfl⟩ ?_;rintro i ⟨e,j⟩ C next hi ⟨he,rfl⟩ a
  simp only at he;subst he;refine aC (by rw[TA];right;simpa using V) (aC (by simpa using V) ?_);exact c Z C p2 U
 obtain⟨V,hw,W0,af⟩:=gO.2 w I;subst hw;rw[I] at c;simp only at c;generalize (bj s name W).1=s1 at*;rw[V];have a7:=hr.n;have J:∀b,dt kw bf bf b->b=kw:=by
  rintro b (q|q|q)
  ·exact q
  ·exact absurd q (aS b)
  ·exact absurd q (aS b)
 refine ar ls.length (λi z B=>(z.1≠0/\K z.1 B)\/(z.1=0/\z.2=(i:Int)/\∃F' s' w sw sl,ao F' B p dp s'/\qX B kw p w sw sl/\(∀b,F' b->¬dt kw sw sl b)/\(∀b,F' b\/dt kw sw sl b->F b\/A0.size<=b)/\Mod F A0 B/\Bd s' (x+1+i) (y+2+2*i)/\lV w name i/\
   kN ls s1 (vS name W)=kN (ls.drop i) s' w)) (.inr ⟨rfl,rfl,Z,s1,vS name W,bf,bf,p2,w2,λb L q=>k2 ((J b q)▸L),λb L=>?_,U.mod,bM,wN name W0 af,rfl⟩) ?_
 ·rcases L with q|q
  ·exact U.own b q
  ·have:=J b q;exact .inr (by omega)
 rintro i ⟨e,j⟩ B next hi hI a
 rcases hI with ⟨g,hk⟩|⟨g,hj,F',s',w,sw,sl,pB,wB,dB,M,N,E,G,D⟩
 ·exact aC (by rw[TA];right;simpa using g) (aC (by simpa using g) hk)
 simp only at g hj;subst g;subst hj;have u1:=E.lo;have u2:=E.hi;have u3:=E.aB;have c1:=G.wait;have c2:=G.n;have c3:=G.rows;refine ah (λO=>?_) (λO=>?_)
 ·have h:i<ls.length:=by
   rw[Oj] at O;have:(i:Int)<(rows.n:Int):=of_decide_eq_true O.1;omega
  have rX:=hr.step (X':=λb=>F' b\/dt kw sw sl b) ⟨N,M⟩;refine rX.get (N8 h) λr ri ro=>?_;rw[OY h] at D;simp only[kN] at D;have a8:=X _ (OP h);have an:=E.add (w:=w) (by omega) ls[i];have a1:=(G.add s' ls[i]).1;refine BH wB pB dB ri (λad ha _ q=>(ro ad ha).2 (.inr q)) (λ_=>by omega) (by omega) (by omega) (by omega) (by rw[G.name];exact Y) (by omega) (by omega) u1 E.fit λP R S C p3 w3 d3 T=>?_;have o3:∀b,P b\/dt kw R S b->F b\/A0.size<=b:=λb r=>by
   rcases T.own b r with u|u
   ·exact M b u
   ·have:=N.size;exact .inr (by omega)
  have m3:Mod F A0 C:=N.trans' T.mod λb L r=>(M b r).resolve_right (by omega);by_cases g:(w.add s' ls[i]).2.2=0
  ·rw[if_neg (by rw[g];simp)] at D;rw[g];exact a h _ C (.inr ⟨rfl,aD i (by omega),P,_,_,R,S,p3,w3,d3,o3,m3,an.mono (by omega) (by omega),a1,D⟩)
  ·rw[if_pos g] at D;rw[D] at c;unfold uO at c;rw[if_pos g] at c;exact a h _ C (.inl ⟨g,c P C p3 ⟨m3,λb r=>o3 b (.inl r)⟩⟩)
 ·have a6:i=ls.length:=by
   rw[TA] at O;have:¬(i:Int)<(rows.n:Int):=O.elim of_decide_eq_false λq=>by simp at q
   omega
  subst a6;rw[Rx] at D;simp only[kN] at D;rw[D] at c;unfold uO at c;rw[if_neg (by simp)] at c;have o:=E.out (w:=w) (by omega);have o1:=o.hi;have I:=o.aB;refine aP rfl ?_;refine u9 wB pB dB (by omega) G.width.1 (by rw[G.name];exact Y) (by omega) (by omega) u1 E.fit (by omega) (by omega) (λz d=>by have:=(Bd.leave ((o.bt (n:=w.b.name) (by omega) 0).set z 2 d) z).aB;omega) o.fit (λz d=>(Bd.leave ((o.bt (n:=w.b.name) (by omega) 0).set z 2 d) z).fit) λP bb C p3 w3 d3 T=>?_;refine c P C p3 ⟨N.trans' T.mod λb L r=>(M b r).resolve_right (by omega),λb r=>?_⟩;rcases T.own b (.inl r) with u|u
  ·exact M b u
  ·have:=N.size;exact .inr (by omega)
end
theorem BL:∀n:Nat,n<10->bytesOf [48+(n:Int)]=lW n:=by decide+kernel
theorem Ht:∀n:Nat,n<100->9<n->lW (n/10)++bytesOf [48+((n%10:Nat):Int)]=lW n:=by decide+kernel
theorem FV:∀k:Nat,k<10->O5.wrap (N6.wrap (48+(k:Int)))=48+(k:Int):=by decide+kernel
section
variable {H:aa}{k p dp:Nat}{t:So}{sw ss:Sl}{rs:List Sl}{F:Nat->Prop}{s:Pl}
theorem yJ {n:Nat}{K:ByteArray->aa->Prop}(g:n<100)(b:∀B,Ext H B->K (bytesOf [48+((n%10:Nat):Int)]) B):
  aI H #[(.int .u8 (O5.wrap (N6.wrap ((48:Int)+(Pq (n:Int) (10:Int))))))] fx λp H1=>vM H1 (some p) 1 λ(s:ByteArray)=>K s H1:=by
 have c:Pq (n:Int) 10=((n%10:Nat):Int):=by rw[Int.tmod_eq_emod_of_nonneg (by omega)];omega
 rw[c,FV _ (SZ _ (by decide))];refine uR (k:=.u8) [48+((n%10:Nat):Int)] λp B _ _ d e=>?_;exact KV (s:=Sl.mk (some p) 1 1) (d 1) (λx a=>by rw[Ow] at a;subst a;omega) (b B e)
theorem BZ {n:Nat}{K:ByteArray->aa->Prop}(b:n<100)(d:∀B,Ext H B->K (lW n) B):Gf.sp (n:Int) H K:=by
 refine Gf.of ?_;unfold Gf.vc;refine yJ b λB e=>?_;refine ah (λc=>?_) λc=>?_
 ·have a:9<n:=by have:(n:Int)>9:=of_decide_eq_true c;omega
  have g:N6.wrap (OX (n:Int) 10)=((n/10:Nat):Int):=by
   rw[Int.tdiv_eq_ediv_of_nonneg (by omega),wrap64 (by omega) (by omega)];omega
  rw[g];refine Gf.of ?_;unfold Gf.vc;refine yJ (by omega) λC h=>?_;refine aC (decide_eq_false (by omega)) ?_;rw[Sp (by omega:n/10<10),BL (n/10) (by omega)];have e2:=Ht n b a;have:=cJ b;refine⟨?_,?_⟩
  ·rw[<-e2,R0] at this;omega
  ·rw[e2];exact d C (e.trans h)
 ·have a:n<10:=by have:¬(n:Int)>9:=of_decide_eq_false c;omega
  rw[Sp a,BL n a];exact d B e
structure nf (H:aa)(k p:Nat)(t:So)(sw:Sl)(rs:List Sl)(ss:Sl):Prop where
 row:aj H k yN (im p t sw ss)
 wait:aO H 0 sw rs t.wait
 side:nM H ss t.side
 iD:∀l∈t.wait,l.length<=16
theorem nf.jG (h:nf H k p t sw rs ss):¬ag sw k:=λq=>by
 obtain⟨cur,a⟩:=h.wait.out.obj k q;exact absurd (aF a h.row) (by decide)
theorem nf.jv (h:nf H k p t sw rs ss):∀x∈rs,¬ag x k:=λx a q=>by
 obtain⟨l,hl⟩:=h.wait.rowAt a;obtain⟨cur,b⟩:=hl.obj k q;exact absurd (aF b h.row) (by decide)
theorem nf.nO (h:nf H k p t sw rs ss):¬ag ss k:=λq=>by
 obtain⟨cur,a⟩:=h.side.obj k q;exact absurd (aF a h.row) (by decide)
theorem nf.lt (h:nf H k p t sw rs ss):∀b,cg k sw rs ss b->b<H.size:=by
 rintro b (q|q|⟨x,a,q⟩|q)
 ·subst q;exact aA h.row
 ·exact(h.wait.block.1 b q).2
 ·exact(h.wait.block.2 x a b q).2
 ·exact h.side.lt b q
theorem nf.mod {G:Nat->Prop}{H':aa}(h:nf H k p t sw rs ss)(m:Mod G H H')(c:∀b,cg k sw rs ss b->¬G b):nf H' k p t sw rs ss:=
 ⟨h.row.mod m (c k (.inl rfl)),h.wait.mod m (λb a=>c b (.inr (.inl a))) λx d b a=>c b (.inr (.inr (.inl ⟨x,d,a⟩))),h.side.mod m λb a=>c b (.inr (.inr (.inr a))),h.iD⟩
theorem nf.ext {H':aa}(h:nf H k p t sw rs ss)(e:Ext H H'):nf H' k p t sw rs ss:=h.mod e λ_ _=>id
theorem ji {K:Int->aa->Prop}(h:aj H k yN (im p t sw ss))(a:K t.ready H):Hq.sp (aE k) H K:=by
 refine Hq.of ?_;unfold Hq.vc;unfold So.ready at a;unfold aE;simp only[al];refine h.ld (c:=ab .i64) (i:=7) (x:=t.wrong) rfl ?_;refine ah (λd=>?_) (λd=>?_)
 ·refine h.ld (c:=ab .i64) (i:=7) (x:=t.wrong) rfl ?_;rw[if_pos (by simpa using d)] at a;exact a
 ·rw[if_neg (by simpa using d)] at a;refine h.ld (c:=ay) (i:=8) (x:=t.closed) rfl ?_;cases b:t.closed with
  |true=>rw[b,if_pos rfl] at a;exact a
  |false=>rw[b,if_neg (by simp)] at a;exact a
theorem xb {K:ByteArray->aa->Prop}(h:aj H k yN (im p t sw ss))(d:t.next<100)(hs:t.name.size<=1000000)
  (o:∀H',aj H' k yN (im p (t.to (t.next+1)) sw ss)->Mod (λb=>b=k) H H'->K (bU t.name t.next) H'):Io.sp (aE k) H K:=by
 refine Io.of ?_;unfold Io.vc;unfold aE;simp only[al];refine h.ld (c:=ab .i64) (i:=6) (x:=(t.next:Int)) rfl ?_;rw[aD t.next (by omega)];refine aj.st h (i:=6) (by simp[im]) rfl λH1 y m1 C=>?_;have a:aj H1 k yN (im p (t.to (t.next+1)) sw ss):=y;have h1:KU.size=1:=rfl;refine⟨λA=>aj A k yN (im p (t.to (t.next+1)) sw ss),a,?_⟩;refine aj.dw (c:=aK) (i:=1) (x:=t.name) (cs:=λ_=>_) (λ_ q=>q) (λ_ _=>rfl) ?_;have z:t.name.size+(Pe #[126]).size<=1000001:=by show t.name.size+1<=_;omega
 refine⟨by omega,?_⟩;refine a.ld (c:=ab .i64) (i:=6) (x:=((t.next+1:Nat):Int)) rfl ?_;have e:N6.wrap (((t.next+1:Nat):Int) - 1)=(t.next:Int):=by rw[wrap64 (by omega) (by omega)];omega
 rw[e];refine BZ d λB g=>?_;have j:=a.ext g;refine⟨j,?_,o B j (m1.trans (g.mono λ_ _ q=>q.elim))⟩;have:=cJ d;rw[R0];omega
end
section
variable {H:aa}{k p dp:Nat}{t:So}{sw ss:Sl}{rs:List Sl}{F:Nat->Prop}{s:Pl}
theorem Ex {K:Int->Prop}(h:ao F H p dp s)(b:K (s.most:Int)):ae (aE p) λa=>Go.Proofs.YtmkbhnholcaghaaGreatDoor.ld (ab .i64) H (a.add 1) K:=by
 obtain⟨ll,zs,D,g,d⟩:=h;refine aX ⟨p,0,none⟩ rfl ?_;exact g.pool.head.ld (c:=ab .i64) (i:=1) (x:=(s.most:Int)) rfl b
theorem ug {n:ByteArray}{W fr:Int}{K:(Option Addr×Int)->aa->Prop}(g:ao F H p dp s)
  (a:(iQ s n W fr).1=none->K (none,(iQ s n W fr).2) H) (c:(iQ s n W fr).1=some (GM n W fr)->(iQ s n W fr).2=0->∀H',Ext H H'->H.size<H'.size->nf H' H.size p (GM n W fr) bf [] bf->K (aE H.size,0) H'):Jo.sp (aE p) n W fr H K:=by
 refine Jo.of ?_;unfold Jo.vc;unfold iQ at a c;refine aC rfl ?_;refine eY ?_;refine ah (λb=>?_) (λb=>?_)
 ·have h1:aH W=0:=by simpa using b
  rw[if_pos h1] at a;exact a rfl
 have h1:aH W≠0:=by simpa using b
 rw[if_neg h1] at a c;refine ah (λb=>?_) (λb=>?_)
 ·have d:fr<3:=by simpa using b
  rw[if_pos (.inl d)] at a;exact a rfl
 have d:¬fr<3:=by simpa using b
 refine Ex g ?_;refine ah (λb=>?_) (λb=>?_)
 ·have e:fr>s.most:=by simpa using b
  rw[if_pos (.inr e)] at a;exact a rfl
 have e:¬fr>s.most:=by simpa using b
 rw[if_neg (λq=>q.elim d e)] at c;refine ax λH1 j h i=>?_;exact c rfl rfl H1 i (by omega) ⟨h,aO.nil _ _,nM.nil _,λl hl=>(by cases hl)⟩
set_option maxHeartbeats 1000000 in
theorem vk {K:Int->aa->Prop}{x y:Nat}(h:nf H k p t sw rs ss)(hp:ao F H p dp s)(dis:∀b,F b->¬cg k sw rs ss b)(M:vI t)(hw:t.wait.length<=900)(b:Bd s x y)(z:x<800000000000)(hy:y<50000000000)
  (hK:∀F' d H',ao F' H' p dp (t.aside s).1->nf H' k p {t.iK with wrong:=if (t.aside s).2.2=0 then t.wrong else (t.aside s).2.2} bf [] d->(∀b,F' b->¬cg k bf [] d b)->Step (λb=>F b\/cg k sw rs ss b) (λb=>F' b\/cg k bf [] d b) H H'->K (t.aside s).2.2 H'):Gg.sp (aE k) H K:=by
 refine Gg.of ?_;unfold Gg.vc;refine xb h.row M.next M.name λA U R=>?_;unfold aE;simp only[al];have J:=h.jG;have e:=h.nO;have hk:=aA h.row;have zA:=R.size;refine⟨λC=>aj C k yN (im p (t.to (t.next+1)) sw ss),U,?_⟩;refine aj.dw (c:=av) (i:=0) (x:=aE p) (cs:=λ_=>_) (λ_ q=>q) (λ_ _=>rfl) ?_;refine aj.dw (c:=ab .i64) (i:=2) (x:=t.width) (cs:=λ_=>_) (λ_ q=>q) (λ_ _=>rfl) ?_;refine U.ld (c:=ak) (i:=4) (x:=sw) rfl ?_;have wA:aO A 0 sw rs t.wait:=h.wait.mod R (λb a q=>J (q▸a)) λx z b a q=>h.jv x z (q▸a);have pA:ao F A p dp s:=hp.keep λb a hl=>R.same b hl λq=>dis b a (.inl q);refine Ai (X:=F) wA.rows hw (λl hl=>by have:=h.iD l hl;omega) (λb a=>pA.lt b a) λout B rp S ob=>?_;have rB:=U.ext S;have zB:=S.size;refine⟨rB,?_⟩;have a1:=jJ t.wait;refine C4 (pA.ext S) rp (by omega) (λl hl=>h.iD l (mN.1 hl)) (by have:=cJ M.next;have:=M.name;rw[dR];omega) b z hy λF' C pC L=>?_;have zC:=L.mod.size;have o:¬F k:=λq=>dis k q (.inl rfl);refine aj.st (rB.mod L.mod o) (i:=4) (by simp[im]) rfl λD rD mD zD=>?_;refine rD.ld (c:=ak) (i:=5) (x:=ss) rfl ?_;have j:Mod (λb=>F b\/b=k) H D:=(((R.mono λb _ q=>.inr q).trans' S λb _ q=>q.elim).trans' L.mod λb _ q=>.inl q).trans' mD λb _ q=>.inr q;have sD:nM D ss t.side:=h.side.mod j λb a q=>q.elim (λu=>dis b u (.inr (.inr (.inr a)))) λu=>e (u▸a);refine nM.push (x:=bU t.name t.next) sD (by have:=M.side;omega) λd E oE T V=>?_;have g:¬ag d k:=λq=>by
  rcases V k q with r|r
  ·exact e r
  ·have:=j.size;omega
 refine aj.st (rD.mod T e) (i:=5) (by simp[im]) rfl λG rG Y zG=>?_;have N:aj G k yN (im p t.iK bf d):=rG;have a6:=j.size;have zE:=T.size;have O:∀b,F' b->¬cg k bf [] d b:=by
  rintro b a (q|q|⟨x,z,_⟩|q)
  ·subst q;rcases L.own _ a with r|r
   ·exact o r
   ·omega
  ·exact aS b q
  ·cases z
  ·have bl:=pC.lt b a;rcases V b q with r|r
   ·have:=h.side.lt b r;rcases L.own b a with u|u
    ·exact dis b u (.inr (.inr (.inr r)))
    ·omega
   ·omega
 have Z:Mod (λb=>F b\/cg k sw rs ss b) H G:=((j.mono λb _ q=>q.imp id .inl).trans' T λb _ q=>.inr (.inr (.inr (.inr q)))).trans' Y λb _ q=>.inr (.inl q);have fin:∀(wr:Int) (I:aa),wr=(if (t.aside s).2.2=0 then t.wrong else (t.aside s).2.2)->Mod (λb=>b=k) G I->aj I k yN (im p {t.iK with wrong:=wr} bf d)->K (t.aside s).2.2 I:=λwr I af P rI=>by
  have an:Mod (λb=>cg k sw rs ss b) C I:=(((mD.mono λb _ q=>.inl q).trans' T λb _ q=>.inr (.inr (.inr q))).trans' Y λb _ q=>.inl q).trans' P λb _ q=>.inl q;subst af;refine hK F' d I (pC.keep λb a hl=>an.same b hl λq=>?_) ⟨rI,aO.nil _ _,(oE.mod Y λb a q=>g (q▸a)).mod P λb a q=>g (q▸a),λl hl=>(by cases hl)⟩ O ⟨Z.trans' P λb _ q=>.inr (.inl q),λb a=>?_⟩
  ·have:=h.lt b q;rcases L.own b a with u|u
   ·exact dis b u q
   ·omega
  ·rcases a with u|u|u|⟨x,z,_⟩|u
   ·exact(L.own b u).imp .inl λv=>by omega
   ·exact .inl (.inr (.inl u))
   ·exact absurd u (aS b)
   ·cases z
   ·exact(V b u).imp (λv=>.inr (.inr (.inr (.inr v)))) λv=>by omega
 have e2:(ia s (bU t.name t.next) t.width (eP (jN t.wait))).2=(t.aside s).2.2:=rfl;rw[e2];refine ah (λhc=>?_) λhc=>?_
 ·have e0:(t.aside s).2.2≠0:=by simpa using hc
  refine aj.st N (i:=7) (by simp[im]) rfl λI rI P zI=>?_;exact fin (t.aside s).2.2 I (by rw[if_neg e0]) P rI
 ·have e0:(t.aside s).2.2=0:=by simpa using hc
  exact fin t.wrong G (by rw[if_pos e0]) (.refl _ _) N
set_option maxHeartbeats 1000000 in
theorem Hz {K:Int->aa->Prop}{l:Sl}{ll:List Int}{x y:Nat}(h:nf H k p t sw rs ss)(U:ao F H p dp s)(dis:∀b,F b->¬cg k sw rs ss b)(R:vI t)(a8:t.wait.length<800)(hW:t.width<=16)(hl:Ints .u64 H l ll)(b:Bd s x y)(o:x<800000000000)(hy:y<50000000000)
  (j:∀F' N O P H',ao F' H' p dp (t.add s ll).1->nf H' k p (t.add s ll).2.1 N O P->(∀b,F' b->¬cg k N O P b)->Step (λb=>F b\/cg k sw rs ss b) (λb=>F' b\/cg k N O P b) H H'->K (t.add s ll).2.2 H'):CF.sp (aE k) l H K:=by
 refine CF.of ?_;unfold CF.vc;unfold So.add at j;refine ji h.row ?_;unfold aE;simp only[al];refine ah (λz=>?_) (λz=>?_)
 ·rw[if_pos (by simpa using z)] at j;exact j F sw rs ss H U h dis (.refl _ _)
 have e:¬t.ready≠0:=by simpa using z
 rw[if_neg e] at j;have V:t.wrong=0:=by
  unfold So.ready at e;by_cases q:t.wrong=0
  ·exact q
  ·rw[if_pos q] at e;exact absurd q e
 refine h.row.ld (c:=ab .i64) (i:=2) (x:=t.width) rfl ?_;have S:=hl.len;refine ah (λz=>?_) (λz=>?_)
 ·have X:(ll.length:Int)≠t.width:=by rw[<-S];simpa using z
  rw[if_pos X] at j;exact j F sw rs ss H U h dis (.refl _ _)
 have X:¬(ll.length:Int)≠t.width:=by rw[<-S];simpa using z
 rw[if_neg X] at j;have Y:ll.length<=16:=by omega
 refine oc.append (base:=0) (s:=Sl.mk none 0 0) (x:=l) (xs:=[]) (ws:=ll.map (On .u64)) (aM.nil _ _ _ _) (by simp;omega) hl.reads (nc _ _) (by simp only;omega) (by simp only;omega) (Oz _) λr A n3 Z mA T _=>?_;have eA:Ext H A:=mA.ext (by rintro b ⟨ad,h,_⟩;cases h);have Z:aM A 0 gS 1 r (ll.map (On .u64)):=Z;have T:∀b,ag r b->H.size<=b:=λb a=>(T b a).resolve_left (aS b);have G:=h.ext eA;have hk:=aA h.row;have bb:=h.wait.n;refine G.row.ld (c:=ak) (i:=4) (x:=sw) rfl ?_;refine aO.Gd (base:=0) G.wait Z (λx o b a af=>?_) (by omega) (Oz _) λs' B n1 o1 m1 g1=>?_
 ·have:=T b a;have:=(h.wait.block.2 x o b af).2;omega
 have E:=G.jG;have zA:=eA.size;have I:¬ag s' k:=λq=>by
  rcases g1 k q with r|r
  ·exact E r
  ·omega
 refine aj.st (G.row.mod m1 E) (i:=4) (by simp[im]) rfl λC rC mC zC=>?_;obtain⟨t1,d⟩:∃t1:So,t1={t with wait:=t.wait++[ll]}:=⟨_,rfl⟩;rw[<-d] at j;have J:aj C k yN (im p t1 s' ss):=by rw[d];exact rC
 have iI:∀x∈rs++[r],¬ag x k:=λx o q=>by
  rcases Oe.1 o with u|u
  ·exact G.jv x u q
  ·rw[Ow] at u;subst u;have:=T k q;omega
 have hC:nf C k p t1 s' (rs++[r]) ss:=by
  refine⟨J,?_,?_,?_⟩
  ·rw[d];exact o1.mod mC (λb a q=>I (q▸a)) λx o b a q=>iI x o (q▸a)
  ·rw[d];exact(G.side.mod m1 λb a q=>G.side.apart G.wait.out (by decide) b a q).mod mC λb a q=>G.nO (q▸a)
  ·rw[d];intro x o;rcases Oe.1 o with u|u
   ·exact h.iD x u
   ·rw[Ow] at u;subst u;exact Y
 have z1:=m1.size;have L:Mod (λb=>b=k\/ag sw b) H C:=((Ext.mod eA).trans' m1 λb _ q=>.inr q).trans' mC λb _ q=>.inl q;have g:∀b,cg k s' (rs++[r]) ss b->cg k sw rs ss b\/H.size<=b:=by
  rintro b (q|q|⟨x,o,q⟩|q)
  ·exact .inl (.inl q)
  ·rcases g1 b q with u|u
   ·exact .inl (.inr (.inl u))
   ·exact .inr (by omega)
  ·rcases Oe.1 o with u|u
   ·exact .inl (.inr (.inr (.inl ⟨x,u,q⟩)))
   ·rw[Ow] at u;subst u;exact .inr (T b q)
  ·exact .inl (.inr (.inr (.inr q)))
 have M:∀b,F b->¬cg k s' (rs++[r]) ss b:=λb a q=>by
  rcases g b q with u|u
  ·exact dis b a u
  ·have:=U.lt b a;omega
 have pC:ao F C p dp s:=U.keep λb a an=>L.same b an λq=>dis b a (q.imp_right .inl);refine⟨λA=>aj A k yN (im p t1 s' ss),J,?_⟩;refine aj.dw (c:=ak) (i:=4) (x:=s') (cs:=λ_=>_) (λ_ q=>q) (λ_ _=>rfl) ?_;refine aj.dw (c:=ab .i64) (i:=3) (x:=t.frames) (cs:=λ_=>_) (λ_ q=>q) (λ_ _=>by rw[d];rfl) ?_;refine J.ld (c:=ab .i64) (i:=2) (x:=t.width) (by rw[d];rfl) ?_;refine eY ⟨J,?_⟩;obtain⟨a1,bd⟩:=cZ ⟨t.name,t.width,0,false⟩;simp only at a1;have hf:=R.frames;have p1:t.frames*aH t.width<=1000000*504:=Int.mul_le_mul hf.2 (by omega) (by omega) (by decide);have p0:0<=t.frames*aH t.width:=Int.mul_nonneg hf.1 (by omega);rw[wrap64 (by omega) (by omega)];have zH:=L.size;refine ah (λz=>?_) (λz=>?_)
 ·have e2:((t.wait.length+1:Nat):Int)<t.frames*aH t.width:=by
   have:(s'.n:Int)<t.frames*aH t.width:=by simpa using z
   omega
  rw[if_pos e2] at j;refine j F s' (rs++[r]) ss C pC hC M ⟨L.mono λb _ q=>.inr (q.imp_right .inl),λb a=>?_⟩;rcases a with u|u
  ·exact .inl (.inl u)
  ·exact(g b u).imp .inr id
 ·have e2:¬((t.wait.length+1:Nat):Int)<t.frames*aH t.width:=by
   have:¬(s'.n:Int)<t.frames*aH t.width:=by simpa using z
   omega
  rw[if_neg e2] at j;have a6:vI t1:=by rw[d];exact⟨R.name,by simp;omega,R.side,R.sizes,R.next,R.frames⟩
  refine vk hC pC M a6 (by rw[d];simp;omega) b o hy λF2 a7 D pD hD dD SD=>?_;have ew:(if (t1.aside s).2.2=0 then t1.wrong else (t1.aside s).2.2)=(t1.aside s).2.2:=by
   split
   ·rename_i q;rw[q,d];exact V
   ·rfl
  rw[ew] at hD;refine j F2 bf [] a7 D pD hD dD ⟨(L.mono λb _ q=>.inr (q.imp_right .inl)).trans' SD.mod λb a q=>q.imp_right λu=>(g b u).resolve_right (by omega),λb a=>?_⟩;rcases SD.own b a with (u|u)|u
  ·exact .inl (.inl u)
  ·exact(g b u).imp .inr id
  ·exact .inr (by omega)
theorem xU {names:Sl}{ns:List ByteArray}{x y:Nat}{K:Int->aa->Prop}(P:aj H k yN (im p t sw ss))(hk:¬F k)(R:ao F H p dp s)(S:names.n=ns.length)(D:∀A,Mod F H A->bP kS A names.a ns)(hl:ns.length<=1000000)(b:Bd s x y)(U:y<60000000000)
  (o:∀F' H',ao F' H' p dp (jg ns s).1->Step F F' H H'->K (jg ns s).2 H'):Iz.sp (aE k) names H K:=by
 refine Iz.of ?_;unfold Iz.vc;refine ar ns.length (λi z B=>z=(i:Int)/\∃F' s',ao F' B p dp s'/\Step F F' H B/\Bd s' x y/\jg ns s=jg (ns.drop i) s') ⟨rfl,F,s,R,.refl _ _,b,rfl⟩ ?_;rintro i z B next hi ⟨rfl,T,s2,p2,j,L,a⟩ d
 have vR:=P.mod j.mod hk;refine ah (λg=>?_) (λg=>?_)
 ·have h:i<ns.length:=by
   have:(i:Int)<(names.n:Int):=by simpa using g
   omega
  rw[OY h] at a;simp only[jg] at a;unfold aE;simp only[al];refine vR.ld (c:=av) (i:=0) (x:=aE p) rfl ?_;have q:=bP.one (E:=kS) (c:=aK) (s:=names) (D B j.mod) S rfl (N8 h) rfl (K:=λG=>G6.sp (aE p) G B λ(e:Int) M=>br (e !=(0:Int)) (K e M) (next (N6.wrap ((i:Int)+(1:Int))) M)) (by
   refine Dc p2 (by have:=L.aB;omega) λN C p3 O=>?_;refine ah (λg=>?_) λg=>?_
   ·have I:(s2.cT ns[i]).2≠0:=by simpa using g
    rw[if_pos I] at a;rw[a] at o;exact o N C p3 (j.trans O)
   ·have I:¬(s2.cT ns[i]).2≠0:=by simpa using g
    rw[if_neg I] at a;rw[aD i (by omega)];exact d h _ C ⟨rfl,N,_,p3,j.trans O,L.cT,a⟩)
  simpa only[al] using q
 ·have J:i=ns.length:=by
   have:¬(i:Int)<(names.n:Int):=by simpa using g
   omega
  subst J;rw[Rx] at a;simp only[jg] at a;rw[a] at o;exact o T B p2 j
end
theorem ao.Mp {F:Nat->Prop}{H:aa}{p dp:Nat}{s:Pl}(h:ao F H p dp s):s.d.WF:=by
 obtain⟨ll,zs,D,g,a⟩:=h;exact g.cv.wf
section
variable {p dp:Nat}{W:Int}
theorem qB:∀{ns:List ByteArray} {s:Pl} {x y:Nat} {F:Nat->Prop} {A:aa},ao F A p dp s->Bd s x y->x+ns.length<900000000000->y+ns.length<60000000000->(∀n∈ns,n.size<=9223372036854775807)->bN (aV W ns s).2.1<=ns.length*((aH W).toNat*1048576)
 |[],s,x,y,F,A,_,_,_,_,_=>by simp[aV,bN]
 |n::ns,s,x,y,F,A,c,b,d,g,hs=>by
   rw[ON] at d g ⊢;have h:=b.lo;have o:=b.hi;have q:=b.aB;have z:=(b.look (n:=n) (by omega) 0).aB;have ⟨F',B,a⟩:∃F' B,ao F' B p dp (rnOpen s n W).1:=ai.pure (H:=A) (xJ (W:=W) c (hs n OA) (by omega) (by omega) h (by omega) (λF' B p1 i _=>⟨F',B,p1⟩) λF' B k r p1 i _ _ _ _=>⟨F',B,p1⟩);simp only[aV];split
   ·simp[bN]
   ·rename_i r e;have h1:=qh e a.Mp;have j:=qB (x:=x+1) (y:=y+1) (ns:=ns) a (b.open (n:=n) (W:=W) (by omega)) (by omega) (by omega) λm hm=>hs m (Ou _ hm);simp only[bN,Ox,Ph] at j ⊢;rw[Pf];omega
end
def Ay (p dp:Nat)(W:Int)(S N:Nat):Prop:=∀(F:Nat->Prop) (A:aa) (s:Pl) (x y:Nat) (l:List ByteArray),ao F A p dp s->Bd s x y->x<800000000000->y<50000000000->l.length<=S->(∀n∈l,n.size<=9223372036854775807)->bN (aV W l s).2.1<=N
theorem KI {p dp S N:Nat}{W:Int}(c:S<=100000)(h:S*((aH W).toNat*1048576)<=N):Ay p dp W S N:=λF A s x y l a b d e hl hs=>
 Oo (Oo (qB (x:=x) (y:=y) a b (by omega) (by omega) hs) (OL _ hl)) h
theorem So.oh:∀(f:Nat) (t:So) (s:Pl),(t.rounds f s).2.1.wrong=t.wrong/\(t.rounds f s).2.1.closed=t.closed
 |0,t,s=>⟨rfl,rfl⟩
 |f+1,t,s=>by
   simp only[So.rounds];split
   ·split
    ·exact⟨rfl,rfl⟩
    ·exact So.oh f _ _
   ·exact⟨rfl,rfl⟩
theorem So.Ax (t:So)(s:Pl):(So.goes (t.first s)).2.1.wrong=t.wrong:=by
 have h1:(t.first s).2.1.wrong=t.wrong:=by
  unfold So.first;split<;>rfl
 unfold So.goes;split
 ·exact h1
 ·have a:=(So.oh (t.first s).2.1.side.length (t.first s).2.1 (t.first s).1).1;unfold So.last;split
  ·exact a.trans h1
  ·exact a.trans h1
section
variable {H:aa}{k p dp:Nat}{t:So}{sw ss:Sl}{rs:List Sl}{F:Nat->Prop}{s:Pl}
theorem xP {a:Sl}{n b:Nat}(h:cg k sw rs a b)(hs:∀b,ag a b->ag ss b\/n<=b):cg k sw rs ss b\/n<=b:=by
 rcases h with q|q|q|q
 ·exact .inl (.inl q)
 ·exact .inl (.inr (.inl q))
 ·exact .inl (.inr (.inr (.inl q)))
 ·exact(hs b q).imp (λu=>.inr (.inr (.inr u))) id
set_option maxRecDepth 100000 in
set_option maxHeartbeats 4000000 in
theorem Ig {K:(Int×Int)->aa->Prop}{x y N R:Nat}(h:nf H k p t sw rs ss)(hp:ao F H p dp s)(dis:∀b,F b->¬cg k sw rs ss b)(hz:vI t)(hw:t.wait.length<=900)(b7:t.wrong=0)(dk:t.next+t.side.length+2<=100)(dn:3<=t.frames)(b:Bd s x y)(hR:t.side.length+2<=R)(dD:N<=1000000000)(hx:x+400010+R*(2*N+3000)<=600000000000)(hy:y+805000+R*(3*N+9000)<=39000000000)
  (hle:Ay p dp t.width (t.side.length+1) N)
  (V:∀F' t' o z j H',ao F' H' p dp (So.goes (t.first s)).1->nf H' k p t' o z j->((So.goes (t.first s)).2.2.2=0->t'.wrong=0)->(∀b,F' b->¬cg k o z j b)->Step (λb=>F b\/cg k sw rs ss b) (λb=>F' b\/cg k o z j b) H H'->K ((if (So.goes (t.first s)).2.2.2=0 then ((So.goes (t.first s)).2.2.1:Int) else 0),(So.goes (t.first s)).2.2.2) H'):JX.sp (aE k) H K:=by
 refine JX.of ?_;unfold JX.vc;unfold aE;simp only[al];have b9:=h.wait.n;refine⟨λ_ B=>(t.first s).2.2=0/\∃F' o z j,ao F' B p dp (t.first s).1/\nf B k p (t.first s).2.1 o z j/\(∀b,F' b->¬cg k o z j b)/\Step (λb=>F b\/cg k sw rs ss b) (λb=>F' b\/cg k o z j b) H B/\Bd (t.first s).1 (x+400010) (y+805000)/\vI (t.first s).2.1/\(t.first s).2.1.next+(t.first s).2.1.side.length<=100/\(t.first s).2.1.frames=t.frames/\(t.first s).2.1.side.length<=t.side.length+1/\(t.first s).2.1.width=t.width/\(t.first s).2.1.wrong=0,?_,?_⟩
 ·have aside:∀(Kb:Int->aa->Prop),(t.wait≠[]\/t.side=[])->(∀e B,e≠0->K (0,e) B->Kb e B)->(∀B,((t.first s).2.2=0/\∃F' o z j,ao F' B p dp (t.first s).1/\nf B k p (t.first s).2.1 o z j/\(∀b,F' b->¬cg k o z j b)/\Step (λb=>F b\/cg k sw rs ss b) (λb=>F' b\/cg k o z j b) H B/\Bd (t.first s).1 (x+400010) (y+805000)/\vI (t.first s).2.1/\(t.first s).2.1.next+(t.first s).2.1.side.length<=100/\(t.first s).2.1.frames=t.frames/\(t.first s).2.1.side.length<=t.side.length+1/\(t.first s).2.1.width=t.width/\(t.first s).2.1.wrong=0)->Kb 0 B)->
    Gg.sp (some ⟨k,0,none⟩) H Kb:=λKb L k1 k2=>by
   have ef:t.first s=t.aside s:=if_pos L;rw[ef] at V k2;refine vk h hp dis hz hw b (by omega) (by omega) λF' j B pB g dB SB=>?_;have dT:=jJ t.wait;have bd:Bd (t.aside s).1 (x+400010) (y+805000):=(se b (by omega) pB.frames).mono (by omega) (by omega);by_cases e0:(t.aside s).2.2=0
   ·rw[if_pos e0] at g;have g:nf B k p (t.aside s).2.1 bf [] j:=g;rw[e0];refine k2 B ⟨e0,F',bf,[],j,pB,g,dB,SB,bd,⟨hz.name,Oz _,?_,λn hn=>?_,?_,hz.frames⟩,?_,rfl,?_,rfl,b7⟩
    ·show (t.side++[_]).length<=1000;simp;omega
    ·rcases Oe.1 (show n∈t.side++[bU t.name t.next] from hn) with u|u
     ·exact hz.sizes n u
     ·rw[Ow] at u;subst u;have:=cJ hz.next;have:=hz.name;rw[dR];omega
    ·show t.next+1<100;omega
    ·show t.next+1+(t.side++[_]).length<=100;simp;omega
    ·show (t.side++[_]).length<=t.side.length+1;simp
   ·have eg:So.goes (t.aside s)=((t.aside s).1,(t.aside s).2.1,0,(t.aside s).2.2):=by unfold So.goes;rw[if_pos e0]
    rw[eg] at V;have q:=V F' _ bf [] j B pB g (λu=>absurd u e0) dB SB;rw[if_neg e0] at q;exact k1 _ B e0 q
  refine h.row.ld (c:=ak) (i:=4) (x:=sw) rfl ?_;refine ah (λL=>?_) (λL=>?_)
  ·have hw:t.wait≠[]:=λq=>by rw[q] at b9;rw[b9] at L;simp at L
   exact aside _ (.inl hw) (λe B e0 q=>aP (by simpa using e0) q) λB q=>aC rfl q
  ·have hw:t.wait=[]:=by
    have:¬(sw.n:Int)>0:=by simpa using L
    exact Oy (by omega)
   refine h.row.ld (c:=ak) (i:=5) (x:=ss) rfl ?_;have hn:=h.side.n;refine ah (λL=>?_) (λL=>?_)
   ·have hs:t.side=[]:=by
     have:(ss.n:Int)=0:=by simpa using L
     exact Oy (by omega)
    exact aside _ (.inr hs) (λe B e0 q=>aP (by simpa using e0) q) λB q=>aC rfl q
   ·have hs:t.side≠[]:=λq=>by rw[q] at hn;rw[hn] at L;simp at L
    have ef:t.first s=(s,t,0):=if_neg (by rintro(q|q);exact q hw;exact hs q);rw[ef];exact⟨rfl,F,sw,rs,ss,hp,h,dis,.refl _ _,b.mono (by omega) (by omega),hz,by show t.next+t.side.length<=100;omega,rfl,OZ _,rfl,b7⟩
 ·rintro _ A ⟨e0,F1,cx,cy,cz,pA,sA,dA,SA,bA,zA,nA,fA,lA,wA,vA⟩;have eg:So.goes (t.first s)=So.last ((t.first s).2.1.rounds (t.first s).2.1.side.length (t.first s).1):=if_neg (by rw[e0];simp);rw[eg] at V;generalize hl:(t.first s).2.1.side.length=f0 at*;have cB:(t.first s).2.1.side.length<=f0:=Um hl;have cb:f0+1<=R:=by omega
  generalize (t.first s).2.1=t1 at*;generalize (t.first s).1=s1 at*;have hmul:(f0+1)*(2*N+3000)<=R*(2*N+3000):=OL _ cb;have b1:(f0+1)*(3*N+9000)<=R*(3*N+9000):=OL _ cb;rw[Pf] at hmul b1;refine⟨Nat,λf _ B=>∃F' o z j t' s' xx yy,ao F' B p dp s'/\nf B k p t' o z j/\(∀b,F' b->¬cg k o z j b)/\Step (λb=>F b\/cg k sw rs ss b) (λb=>F' b\/cg k o z j b) H B/\Bd s' xx yy/\xx+f*(2*N+3000)<=x+400010+f0*(2*N+3000)/\yy+f*(3*N+9000)<=y+805000+f0*(3*N+9000)/\vI t'/\t'.next+t'.side.length<=100/\t'.frames=t.frames/\t'.side.length<=f/\f<=f0/\t'.width=t.width/\t'.wrong=0/\t1.rounds f0 s1=t'.rounds f s',λf=>f,
   ⟨f0,F1,cx,cy,cz,t1,s1,x+400010,y+805000,pA,sA,dA,SA,bA,Ob _,Ob _,zA,by rw[hl];exact nA,fA,cB,Ob _,wA,vA,rfl⟩,?_⟩
  rintro f _ B ⟨X,M,O,a,t2,s2,xx,yy,pB,g,dB,SB,bB,bx,c0,Y,nB,fB,lB,ff,wB,vB,eB⟩;have ck:=g.side.n;have ea:=g.side.cap;have hf:=Y.frames;have eb:=aA g.row;have a1:=g.jG;have S:=g.nO;have ee:=SB.mod.size;have P:¬X k:=λq=>dB k q (.inl rfl);refine g.row.ld (c:=ak) (i:=5) (x:=a) rfl ?_;refine g.row.ld (c:=ab .i64) (i:=3) (x:=t2.frames) rfl ?_;refine ah (λL=>?_) (λL=>?_)
  ·have c3:t2.frames<=(t2.side.length:Int):=by
    have:(a.n:Int)>=t2.frames:=by simpa using L
    omega
   cases f with
   |zero=>exact absurd lB (by omega)
   |succ f=>
   rw[Pf] at bx c0;have er:t2.rounds (f+1) s2=if (t2.round s2).2.2.2≠0 then ((t2.round s2).1,(t2.round s2).2.1,(t2.round s2).2.2.2) else So.rounds f {(t2.round s2).2.1 with side:=t2.side.drop (t2.frames - 1).toNat++[bU t2.name t2.next]} (t2.round s2).1:=if_pos c3
   have ei:t2.next<98:=by omega
   have ec:N6.wrap (t2.frames - 1)=(((t2.frames - 1).toNat:Nat):Int):=by rw[wrap64 (by omega) (by omega)];omega
   obtain⟨c,bn⟩:∃c,c=(t2.frames - 1).toNat:=⟨_,rfl⟩;rw[<-bn] at er;have ej:c<t2.side.length:=by omega
   have c4:(t2.side.take c).length=c:=by rw[OW];omega
   have bD:∀n∈t2.side.take c,n.size<=9223372036854775807:=λn hn=>Y.sizes n (Pm hn);have a6:bN (aV t2.width (t2.side.take c) s2).2.1<=N:=by
    rw[wB];exact hle X B s2 xx yy _ pB bB (by omega) (by omega) (by omega) bD
   refine g.row.ld (c:=ak) (i:=5) (x:=a) rfl ?_;refine g.row.ld (c:=ab .i64) (i:=3) (x:=t2.frames) rfl ?_;rw[ec,<-bn];refine⟨⟨by omega,by omega⟩,?_⟩;simp only[Od,Tz,Ba];refine az.append (E:=kS) (s:=Sl.mk none 0 0) (x:=⟨a.a,c,a.c⟩) (l:=[]) (r:=t2.side.take c) CH (az.nil _ _ _) g.side.rd.take c4.symm (by simp;omega) (by simp;omega) λfirst C oC gC _=>?_
   have eC:Ext B C:=gC.1.ext (by rintro b ⟨ad,h,_⟩;cases h);have oC:az kS dI C first (t2.side.take c):=oC
   have nC:∀b,ag first b->B.size<=b:=λb d=>(gC.2 b d).resolve_left (aS b)
   have zC:=eC.size;have fn:first.n=(t2.side.take c).length:=az.n oC (by decide);refine xb (g.row.ext eC) (by omega) Y.name λD rD mD=>?_;have zD:=mD.size;have cm:∀b,ag first b->b≠k:=λb d q=>by have:=nC b d;omega
   have oD:az kS dI D first (t2.side.take c):=oC.mod mD λb d=>cm b d
   have pD:ao X D p dp s2:=(pB.ext eC).keep λb d a7=>mD.same b a7 λq=>P (q▸d);refine rD.ld (c:=av) (i:=0) (x:=aE p) rfl ?_;refine rD.ld (c:=ab .i64) (i:=2) (x:=t2.width) rfl ?_;have a8:∀b,ag first b->¬X b:=λb d q=>by have:=nC b d;have:=pB.lt b q;omega
   have c5:∀A,Mod X D A->bP kS A first.a (t2.side.take c):=λA m=>az.rd (E:=kS) (oD.mod m a8);have bO:(bU t2.name t2.next).size<=9223372036854775807:=by have:=cJ Y.next;have:=Y.name;rw[dR];omega
   refine uQ pD fn c5 bD bO bB (by omega) (by omega) (by omega) a6 (by omega) (by omega) (by omega) λF3 E pE SE=>?_;have bM:=pt (to:=bU t2.name t2.next) (W:=t2.width) bB (by omega) (by omega) a6 pE.frames;have ed:t2.round s2=((fT (t2.side.take c) (cM s2 (t2.side.take c) (bU t2.name t2.next) t2.width)).1,{t2.to (t2.next+1) with side:=t2.side.drop c},(cM s2 (t2.side.take c) (bU t2.name t2.next) t2.width).2.1,(fT (t2.side.take c) (cM s2 (t2.side.take c) (bU t2.name t2.next) t2.width)).2):=by
    rw[bn];rfl
   rw[ed] at er;generalize cM s2 (t2.side.take c) (bU t2.name t2.next) t2.width=m at*;refine⟨λe I=>e=(fT (t2.side.take c) m).2/\∃U,ao U I p dp (fT (t2.side.take c) m).1/\Step X U D I/\Bd (fT (t2.side.take c) m).1 (xx+2*N+3000) (yy+3*N+9000),?_,?_⟩
   ·refine ah (λL=>?_) λL=>?_
    ·have T:m.2.2=0:=by simpa using L
     have ed:fT (t2.side.take c) m=jg (t2.side.take c) m.1:=if_neg (by rw[T];simp);rw[ed];have Z:¬F3 k:=λq=>(SE.own k q).elim P λu=>by omega
     refine xU (rD.mod SE.mod P) Z pE fn (λA m2=>az.rd (E:=kS) ((oD.mod SE.mod a8).mod m2 λb d q=>(SE.own b q).elim (a8 b d) λu=>by have:=oD.lt b d;omega)) (by omega) bM (by omega) λU I p4 S4=>⟨rfl,U,p4,SE.trans S4,yr bM⟩
    ·have T:m.2.2≠0:=by simpa using L
     have ed:fT (t2.side.take c) m=(m.1,m.2.2):=if_pos T;rw[ed];exact⟨rfl,F3,pE,SE,bM⟩
   ·rintro e I ⟨he,U,p4,S4,b4⟩;have zI:=S4.mod.size;have rI:=rD.mod S4.mod P;have b2:∀b,ag a b->b≠k/\¬X b:=λb d=>⟨λq=>S (q▸d),λq=>dB b q (.inr (.inr (.inr d)))⟩;have b3:Mod (λb=>X b\/b=k) B I:=((Ext.mod eC).trans' mD λb _ q=>.inr q).trans' S4.mod λb _ q=>.inl q;have b0:∀b,U b->X b\/B.size<=b:=λb d=>(S4.own b d).imp id λu=>by omega
    have d4:∀b,U b->¬cg k M O a b:=λb d q=>(b0 b d).elim (λu=>dB b u q) λu=>by have:=g.lt b q;omega
    have af:∀b,cg k M O a b->b≠k->¬(X b\/b=k):=λb d hn q=>q.elim (λu=>dB b u d) hn;have qI:nf I k p (t2.to (t2.next+1)) M O a:=⟨rI,g.wait.mod b3 (λb d=>af b (.inr (.inl d)) λq=>a1 (q▸d)) λx hx b d=>af b (.inr (.inr (.inl ⟨x,hx,d⟩))) λq=>g.jv x hx (q▸d),g.side.mod b3 λb d=>af b (.inr (.inr (.inr d))) λq=>S (q▸d),g.iD⟩;have SI:Step (λb=>F b\/cg k sw rs ss b) (λb=>U b\/cg k M O a b) H I:=by
     refine⟨SB.mod.trans' b3 λb d q=>?_,λb d=>?_⟩
     ·have:X b\/cg k M O a b:=q.elim .inl λu=>.inr (.inl u);exact(SB.own b this).resolve_right (by omega)
     ·rcases d with u|u
      ·rcases b0 b u with v|v
       ·exact SB.own b (.inl v)
       ·exact .inr (by omega)
      ·exact SB.own b (.inr u)
    refine ah (λL=>?_) λL=>?_
    ·have T:e≠0:=by simpa using L
     rw[if_pos (by simp only;rw[<-he];exact T)] at er;rw[eB,er] at V;unfold So.last at V;rw[if_pos (by simp only;rw[<-he];exact T)] at V;simp only at V;rw[<-he] at V;have q:=V U _ M O a I p4 qI (λu=>absurd u T) d4 SI;rw[if_neg T] at q;exact q
    ·have T:e=0:=by simpa using L
     rw[if_neg (by simp only;rw[<-he,T];simp)] at er;refine rI.ld (c:=ak) (i:=5) (x:=a) rfl ?_;refine rI.ld (c:=ab .i64) (i:=3) (x:=t2.frames) rfl ?_;rw[ec,<-bn];refine⟨⟨by omega,by omega⟩,?_⟩;simp only[Od];refine aj.st rI (i:=5) (by simp[im]) rfl λI1 r1 m1 z1=>?_;have dc:nM I1 ⟨cA a.a a.c c 1,a.n - c,a.c - c⟩ (t2.side.drop c):=(qI.side.mod m1 λb d=>(b2 b d).1).cut (by show c<=t2.side.length;omega);refine r1.ld (c:=ak) (i:=5) (x:=⟨cA a.a a.c c 1,a.n - c,a.c - c⟩) rfl ?_;refine nM.push (x:=bU t2.name t2.next) dc (by rw[Pr];have:=Y.side;omega) λbs G oG mG gG=>?_;have an:∀b,ag (⟨cA a.a a.c c 1,a.n - c,a.c - c⟩:Sl) b->ag a b:=λb d=>Be d;have zG:=mG.size;have bb:∀b,ag bs b->ag a b\/B.size<=b:=λb d=>(gG b d).imp (an b) λu=>by omega
     have k5:¬ag bs k:=λq=>(bb k q).elim S λu=>by omega
     have rG:aj G k yN (im p {t2.to (t2.next+1) with side:=t2.side.drop c} M ⟨cA a.a a.c c 1,a.n - c,a.c - c⟩):=r1.mod mG λq=>S (an k q);refine aj.st rG (i:=5) (by simp[im]) rfl λJ rJ mJ zJ=>?_;have bC:Mod (λb=>b=k\/ag a b) I J:=((m1.mono λb _ q=>.inl q).trans' mG λb _ q=>.inr (an b q)).trans' mJ λb _ q=>.inl q;have ek:=bC.size;have b5:∀b,ag M b->¬(b=k\/ag a b):=λb d q=>q.elim (λu=>a1 (u▸d)) λu=>g.side.apart g.wait.out (by decide) b u d;have b6:∀x∈O,∀b,ag x b->¬(b=k\/ag a b):=λx hx b d q=>q.elim (λu=>g.jv x hx (u▸d)) λu=>by
      obtain⟨l,hl⟩:=g.wait.rowAt hx;exact g.side.apart hl (by decide) b u d
     have sJ:nf J k p {t2.to (t2.next+1) with side:=t2.side.drop c++[bU t2.name t2.next]} M O bs:=⟨rJ,qI.wait.mod bC b5 b6,oG.mod mJ λb d q=>k5 (q▸d),g.iD⟩;refine⟨f,⟨U,M,O,bs,_,(fT (t2.side.take c) m).1,xx+2*N+3000,yy+3*N+9000,p4.keep λb d a7=>bC.same b a7 λq=>?_,sJ,λb d q=>?_,⟨SI.mod.trans' bC λb d q=>?_,λb d=>?_⟩,b4,by omega,by omega,⟨Y.name,Y.wait,?_,λn hn=>?_,by show t2.next+1<100;omega,Y.frames⟩,?_,fB,?_,by omega,wB,vB,?_⟩,Rv _⟩
     ·exact d4 b d (q.elim .inl λu=>.inr (.inr (.inr u)))
     ·rcases xP q bb with u|u
      ·exact d4 b d u
      ·have:=p4.lt b d;rcases q with v|v|v|v
       ·have:=g.lt b (.inl v);omega
       ·have:=g.lt b (.inr (.inl v));omega
       ·have:=g.lt b (.inr (.inr (.inl v)));omega
       ·rcases gG b v with w|w
        ·exact d4 b d (.inr (.inr (.inr (an b w))))
        ·omega
     ·have:X b\/cg k M O a b:=.inr (q.elim .inl λu=>.inr (.inr (.inr u)));exact(SB.own b this).resolve_right (by omega)
     ·rcases d with u|u
      ·exact SI.own b (.inl u)
      ·rcases xP u bb with v|v
       ·exact SI.own b (.inr v)
       ·exact .inr (by omega)
     ·show (t2.side.drop _++[_]).length<=1000;have:=Y.side;simp;omega
     ·rcases Oe.1 (show n∈t2.side.drop c++[bU t2.name t2.next] from hn) with u|u
      ·exact Y.sizes n (QN u)
      ·rw[Ow] at u;subst u;exact bO
     ·show t2.next+1+(t2.side.drop _++[_]).length<=100;simp;omega
     ·show (t2.side.drop _++[_]).length<=f;simp;omega
     ·rw[eB,er]
  ·have a7:¬t2.frames<=(t2.side.length:Int):=by
    have:¬(a.n:Int)>=t2.frames:=by simpa using L
    omega
   have er:t2.rounds f s2=(s2,t2,0):=by
    cases f with
    |zero=>rfl
    |succ f=>exact if_neg a7
   rw[eB,er] at V;have a6:bN (aV t2.width t2.side s2).2.1<=N:=by
    rw[wB];exact hle X B s2 xx yy _ pB bB (by omega) (by omega) (by omega) Y.sizes
   have ed:So.last (s2,t2,0)=((fT t2.side (cM s2 t2.side t2.name t2.width)).1,{t2 with side:=t2.side.drop t2.side.length},(cM s2 t2.side t2.name t2.width).2.1,(fT t2.side (cM s2 t2.side t2.name t2.width)).2):=by
    unfold So.last;rw[if_neg (by simp)];show t2.merge s2 t2.side.length t2.name=_;unfold So.merge;rw[List.take_length]
   rw[ed] at V;simp only at V;refine g.row.ld (c:=av) (i:=0) (x:=aE p) rfl ?_;refine g.row.ld (c:=ak) (i:=5) (x:=a) rfl ?_;refine g.row.ld (c:=aK) (i:=1) (x:=t2.name) rfl ?_;refine g.row.ld (c:=ab .i64) (i:=2) (x:=t2.width) rfl ?_;have:0<=f*(2*N+3000):=Oz _;have:0<=f*(3*N+9000):=Oz _;have bl:∀b,ag a b->¬X b:=λb d q=>dB b q (.inr (.inr (.inr d)));have en:=Y.side;refine uQ pB ck (λA m=>(g.side.mod m bl).rd) Y.sizes (by have:=Y.name;omega) bB (by omega) (by omega) (by omega) a6 (by omega) (by omega) (by omega) λF3 E pE SE=>?_;have bM:=pt (to:=t2.name) (W:=t2.width) bB (by omega) (by omega) a6 pE.frames;generalize cM s2 t2.side t2.name t2.width=m at*;have Z:¬F3 k:=λq=>(SE.own k q).elim P λu=>by omega
   refine⟨λe I=>e=(fT t2.side m).2/\∃U,ao U I p dp (fT t2.side m).1/\Step X U B I,?_,?_⟩
   ·refine ah (λL=>?_) λL=>?_
    ·have T:m.2.2=0:=by simpa using L
     have ed:fT t2.side m=jg t2.side m.1:=if_neg (by rw[T];simp);rw[ed];have rE:=g.row.mod SE.mod P;refine rE.ld (c:=ak) (i:=5) (x:=a) rfl ?_;refine xU rE Z pE ck (λA m2=>((g.side.mod SE.mod bl).mod m2 λb d q=>(SE.own b q).elim (bl b d) λu=>by have:=g.side.lt b d;omega).rd) (by omega) bM (by omega) λU I p4 S4=>⟨rfl,U,p4,SE.trans S4⟩
    ·have T:m.2.2≠0:=by simpa using L
     have ed:fT t2.side m=(m.1,m.2.2):=if_pos T;rw[ed];exact⟨rfl,F3,pE,SE⟩
   ·rintro e I ⟨he,U,p4,S4⟩;rw[<-he] at V;have q:=V U t2 M O a I p4 (g.mod S4.mod λb d q=>dB b q d) (λ_=>vB) (λb d q=>(S4.own b d).elim (λu=>dB b u q) λu=>by have:=g.lt b q;omega) ⟨SB.mod.trans' S4.mod λb d q=>(SB.own b (.inl q)).resolve_right (by omega),λb d=>?_⟩
    ·refine ah (λL=>?_) λL=>?_
     ·have T:e≠0:=by simpa using L
      rw[if_neg T] at q;exact q
     ·have T:e=0:=by simpa using L
      rw[if_pos T] at q;rw[T] at q;exact q
    ·rcases d with u|u
     ·rcases S4.own b u with v|v
      ·exact SB.own b (.inl v)
      ·exact .inr (by omega)
     ·exact SB.own b (.inr u)
set_option maxRecDepth 100000 in
theorem Fa {K:(Int×Int)->aa->Prop}{x y N R:Nat}(h:nf H k p t sw rs ss)(hp:ao F H p dp s)(dis:∀b,F b->¬cg k sw rs ss b)(hz:vI t)(hw:t.wait.length<=900)(S:t.next+t.side.length+2<=100)(X:3<=t.frames)(b:Bd s x y)(hR:t.side.length+2<=R)(Y:N<=1000000000)(Z:x+400010+R*(2*N+3000)<=600000000000)(hy:y+805000+R*(3*N+9000)<=39000000000)
  (hle:Ay p dp t.width (t.side.length+1) N)
  (e:∀F' j G I J H',ao F' H' p dp (t.done s).1->nf H' k p j G I J->j.ready=(t.done s).2.1.ready->(t.done s).2.1.ready≠0->(∀b,F' b->¬cg k G I J b)->Step (λb=>F b\/cg k sw rs ss b) (λb=>F' b\/cg k G I J b) H H'->K (((t.done s).2.2.1:Int),(t.done s).2.2.2) H'):DI.sp (aE k) H K:=by
 refine DI.of ?_;unfold DI.vc;refine ji h.row ?_;unfold So.done at e;refine ah (λL=>?_) (λL=>?_)
 ·have M:t.ready≠0:=by simpa using L
  rw[if_pos M] at e;exact e F t sw rs ss H hp h rfl M dis (.refl _ _)
 have M:¬t.ready≠0:=by simpa using L
 rw[if_neg M] at e;have T:t.wrong=0:=by
  unfold So.ready at M;by_cases q:t.wrong=0
  ·exact q
  ·rw[if_pos q] at M;exact absurd q M
 have gw:=So.Ax t s;refine Ig h hp dis hz hw T S X b hR Y Z hy hle λV j a o c A pA C vA dA SA=>?_;unfold aE;simp only[al];unfold So.ends at e;have O:=C.jG;have P:=C.nO;have go:∀(B:aa) (d:So),d.wait=j.wait->d.side=j.side->aj B k yN (im p d a c)->Mod (λb=>b=k) A B->B.size=A.size->nf B k p d a o c/\ao V B p dp (So.goes (t.first s)).1/\Step (λb=>F b\/cg k sw rs ss b) (λb=>V b\/cg k a o c b) H B:=λB d ew es U m z=>
  ⟨⟨U,by rw[ew];exact C.wait.mod m (λb D q=>O (q▸D)) λx Z b D q=>C.jv x Z (q▸D),by rw[es];exact C.side.mod m λb D q=>P (q▸D),by rw[ew];exact C.iD⟩,pA.keep λb D af=>m.same b af λq=>dA b D (.inl q),⟨SA.mod.trans' m λb D q=>(SA.own b (.inr (.inl q))).resolve_right (by omega),SA.own⟩⟩
 generalize So.goes (t.first s)=g at*;refine ah (λL=>?_) (λL=>?_)
 ·have E:g.2.2.2≠0:=by simpa using L
  rw[if_pos E] at e;refine aj.st C.row (i:=7) (by simp[im]) rfl λB U mB zB=>?_;obtain⟨q0,q1,q2⟩:=go B {j with wrong:=g.2.2.2} rfl rfl U mB zB;have r1:({j with wrong:=g.2.2.2}:So).ready=g.2.2.2:=by unfold So.ready;exact if_pos E
  have r2:({g.2.1 with wrong:=g.2.2.2}:So).ready=g.2.2.2:=by unfold So.ready;exact if_pos E
  exact e V _ a o c B q1 q0 (r1.trans r2.symm) (by rw[r2];exact E) dA q2
 ·have E:g.2.2.2=0:=by simpa using L
  rw[if_neg (by rw[E];simp)] at e;rw[if_pos E];refine aj.st C.row (i:=8) (by simp[im]) rfl λB U mB zB=>?_;obtain⟨q0,q1,q2⟩:=go B {j with closed:=true} rfl rfl U mB zB;have v1:=vA E;have r1:({j with closed:=true}:So).ready=2:=by unfold So.ready;rw[if_neg (by simp only;rw[v1];simp)];rfl
  have r2:({g.2.1 with closed:=true}:So).ready=2:=by unfold So.ready;rw[if_neg (by simp only;rw[gw,T];simp)];rfl
  exact e V _ a o c B q1 q0 (r1.trans r2.symm) (by rw[r2];decide) dA q2
end
abbrev Lx:=Int×ByteArray×Int×Int×Int
section
variable {H A:aa}{script:Sl}{xs:List Lx}{R:Bool->aa->Prop}
end
structure cU (V:aa)(Kp:Nat->Prop)(H0 A:aa)(X1 X2:Nat->Prop):Prop where
 ext:Ext H0 A
 n1:∀b,X1 b->H0.size<=b
 n2:∀b,X2 b->H0.size<=b
 dis:∀b,X1 b->¬X2 b
 kept:∀b,Kp b->b<A.size/\A[b]?=V[b]?/\¬X1 b/\¬X2 b
section
variable {V H0 A B:aa}{Kp X1 X2 X':Nat->Prop}
theorem cU.qz (h:cU V Kp H0 A X1 X2)(S:Step X1 X' A B)(e:∀b,X2 b->b<A.size):cU V Kp H0 B X' X2:=by
 have z:=h.ext.size;refine⟨⟨Oo z S.mod.size,λb a _=>(S.mod.same b (by omega) λq=>by have:=h.n1 b q;omega).trans (h.ext.same b a id)⟩,λb a=>?_,h.n2,λb a q=>?_,λb a=>?_⟩
 ·rcases S.own b a with u|u
  ·exact h.n1 b u
  ·omega
 ·rcases S.own b a with u|u
  ·exact h.dis b u q
  ·have:=e b q;omega
 ·obtain⟨c,g,d,i⟩:=h.kept b a;exact⟨P0 c S.mod.size,(S.mod.same b c d).trans g,λq=>(S.own b q).elim d λu=>by omega,i⟩
theorem cU.nk (h:cU V Kp H0 A X1 X2)(S:Step X2 X' A B)(e:∀b,X1 b->b<A.size):cU V Kp H0 B X1 X':=by
 have z:=h.ext.size;refine⟨⟨Oo z S.mod.size,λb a _=>(S.mod.same b (by omega) λq=>by have:=h.n2 b q;omega).trans (h.ext.same b a id)⟩,h.n1,λb a=>?_,λb a q=>?_,λb a=>?_⟩
 ·rcases S.own b a with u|u
  ·exact h.n2 b u
  ·omega
 ·rcases S.own b q with u|u
  ·exact h.dis b a u
  ·have:=e b a;omega
 ·obtain⟨c,g,i,d⟩:=h.kept b a;exact⟨P0 c S.mod.size,(S.mod.same b c d).trans g,i,λq=>(S.own b q).elim d λu=>by omega⟩
theorem cU.other {G:Nat->Prop}(h:cU V Kp H0 A X1 X2)(m:Mod G A B)(d:∀b,b<H0.size->¬G b)(hk:∀b,Kp b->¬G b):cU V Kp H0 B X1 X2:=
 ⟨⟨Oo h.ext.size m.size,λb a _=>(m.same b (P0 a h.ext.size) (d b a)).trans (h.ext.same b a id)⟩,h.n1,h.n2,h.dis,λb a=>by
   obtain⟨c,e,g,i⟩:=h.kept b a;exact⟨P0 c m.size,(m.same b c (hk b a)).trans e,g,i⟩⟩
theorem cU.go (h:cU V Kp H0 A X1 X2)(e:Ext A B):cU V Kp H0 B X1 X2:=h.other e (λ_ _=>id) λ_ _=>id
theorem cU.sub {Y1 Y2:Nat->Prop}(h:cU V Kp H0 A X1 X2)(s1:∀b,Y1 b->X1 b)(s2:∀b,Y2 b->X2 b):cU V Kp H0 A Y1 Y2:=⟨h.ext,λb a=>h.n1 b (s1 b a),λb a=>h.n2 b (s2 b a),λb a q=>h.dis b (s1 b a) (s2 b q),λb a=>by
 obtain⟨c,d,e,g⟩:=h.kept b a;exact⟨c,d,λq=>e (s1 b q),λq=>g (s2 b q)⟩⟩
end
section
variable {H A:aa}{R:Bool->aa->Prop}
set_option maxHeartbeats 2000000 in
theorem Dp {quota pool fr wd q keep:Int}{K:(Option Addr×Option Addr×Option Addr×Option Addr)->aa->Prop}(hg:Gl H)(hq:quota<=9223372036854775807)(hp:q<=9223372036854775807)
  (hK:∀B dp dm p m o z h j,j<12->cU H (λ_=>False) H B o z->au o B p dp (rL h (8+j))->ao z B m dm (rL h (8+j))->h.aB=0->K (aE dp,aE dm,aE p,aE m) B):Kc.sp quota pool fr wd q keep H K:=by
 refine Kc.of ?_;unfold Kc.vc;refine ax λA z0 y I=>?_;obtain⟨E,J⟩:∃E,E=H.size:=⟨_,rfl⟩;rw[<-J] at y ⊢;refine⟨λB=>aj B E DT #[(.int .i64 quota),(.int .i64 pool),(.int .i64 fr),(.int .i64 wd),(.int .i64 q),(.int .u64 keep)],y,?_⟩;refine y.ld (c:=ab .i64) (i:=0) (x:=quota) rfl ?_;refine Gi hq λL d H1 a1 M f1=>?_;have r1:=y.ext M;refine⟨r1,?_⟩;refine aj.dw (c:=ab .i64) (i:=0) (x:=quota) (cs:=λ_=>_) (λ_ q=>q) (λ_ _=>rfl) ?_;refine IJ hq λN n H2 a2 e2 f2=>?_;have r2:=r1.ext e2;have an:=aA y;have C:=I.size;have z1:=M.size;have z2:=e2.size;have D:bo L H2 d (re quota):=a1.keep λb e a=>e2.same b a id;have l1:=a1.lt;refine⟨λ_ B=>∃h O G,bo O B d h/\cp G B n h/\cU A (λ_=>False) A B O G/\h.aB=0,?_,?_⟩
 ·have g0:cU A (λ_=>False) A H2 L N:=⟨M.trans e2,f1,λb e=>Oo z1 (f2 b e),λb e P=>by have:=l1 b e;have:=f2 b P;omega,λ_ q=>q.elim⟩;refine r2.ld (c:=ab .i64) (i:=4) (x:=q) rfl ?_;refine ah (λS=>?_) (λS=>⟨_,L,N,D,a2,g0,rfl⟩);refine r2.ld (c:=ab .i64) (i:=4) (x:=q) rfl ?_;refine r2.ld (c:=ab .u64) (i:=5) (x:=keep) rfl ?_;refine Gr D hp λT A1 c1 U=>?_;have g1:=g0.qz U a2.lt;have k2:cp N A1 n (re quota):=a2.keep λb e a=>U.mod.same b a λu=>g0.dis b u e;have r3:=r2.mod U.mod λu=>by have:=g0.n1 E u;omega
  refine r3.ld (c:=ab .i64) (i:=4) (x:=q) rfl ?_;refine r3.ld (c:=ab .u64) (i:=5) (x:=keep) rfl ?_;refine Dn k2 hp λX A2 c2 S2=>?_;exact⟨_,T,X,c1.keep λb e a=>S2.mod.same b a λu=>g1.dis b e u,c2,g1.nk S2 c1.lt,by rw[Dk.tJ];rfl⟩
 rintro _ B ⟨h,O,G,b1,b2,g,Y⟩;have gB:Gl B:=hg.mod (I.trans g.ext) id;have a6:=hg.lt;have rB:=y.ext g.ext;refine rB.ld (c:=ab .i64) (i:=1) (x:=pool) rfl ?_;refine Fu (by omega) ?_;rw[if_neg (by omega)];obtain⟨j,hj⟩:∃j:Nat,pool.emod 12=(j:Int):=⟨(pool.emod 12).toNat,(Int.toNat_of_nonneg (Int.emod_nonneg pool (by decide))).symm⟩;have af:(j:Int)<12:=hj▸Int.emod_lt_of_pos pool (by decide);rw[hj,wrap64 (by omega) (by omega)];have hm:(8:Int)+(j:Int)=((8+j:Nat):Int):=by omega
 rw[hm];refine tt gB b1 (λu=>by have:=g.n1 _ u;omega) (by omega) (by omega) λo p B1 h1 x1 w1=>?_;have Z:=b2.lt;have g2:cU A (λ_=>False) A B1 o G:=g.qz ⟨x1.mono λ_ _ u=>u.elim,w1⟩ Z;refine Fq (b2.keep λb e a=>x1.same b a id) (by omega) (by omega) λz m B2 h2 x2 w2=>?_;have g3:cU A (λ_=>False) A B2 o z:=g2.nk ⟨x2.mono λ_ _ u=>u.elim,w2⟩ h1.lt;exact hK B2 d n p m o z h j (by omega) ⟨I.trans g3.ext,λb e=>Oo C (g3.n1 b e),λb e=>Oo C (g3.n2 b e),g3.dis,λ_ q=>q.elim⟩ (h1.ext x2) h2 Y
set_option maxHeartbeats 2000000 in
theorem uE {V H0:aa}{Kp:Nat->Prop}{dp dm p m:Nat}{F1 F2:Nat->Prop}{s:Pl}{K:Bool->aa->Prop}(h:cU V Kp H0 A F1 F2)(c1:au F1 A p dp s)(c2:ao F2 A m dm s)(hg:Gl H0)(a7:s.next<1099511627776)(hl:s.d.aB<68719476736)
  (hK:∀B,Ext H0 B->K true B):GU.sp (aE dp) (aE dm) (aE p) (aE m) A K:=by
 refine GU.of ?_;unfold GU.vc;have gA:Gl A:=hg.mod h.ext id;obtain⟨D1,P,i1,_⟩:=c1.cv gA;obtain⟨D2,a2,i2,_⟩:=c2.cv;obtain⟨ll,G,I,a8⟩:=c2.head;have U:=a2;obtain⟨fl,gs,cin,kp,g,bb⟩:=U;refine⟨λB=>aj B dm wP (db fl s.d.most s.d.quota s.d.ops s.d.next s.d.crash.isSome cin kp s.d.down)/\aj B m ry (dH dm ll s),⟨g.head,G⟩,?_⟩;refine Ln P ⟨⟨g.head,G⟩,?_⟩;refine aX ⟨dm,0,none⟩ rfl ?_;refine aj.dw (c:=ab .i64) (i:=3) (x:=(s.d.ops:Int)) (cs:=λ_=>db fl s.d.most s.d.quota s.d.ops s.d.next s.d.crash.isSome cin kp s.d.down) (λB q=>q.1) (λ_ _=>rfl) ?_;refine aC (by simp) ?_;refine IS P ⟨⟨g.head,G⟩,?_⟩;refine aX ⟨dm,0,none⟩ rfl ?_;refine aj.dw (c:=ay) (i:=8) (x:=s.d.down) (cs:=λ_=>db fl s.d.most s.d.quota s.d.ops s.d.next s.d.crash.isSome cin kp s.d.down) (λB q=>q.1) (λ_ _=>rfl) ?_;refine aC (by simp) ?_;refine Ib P ⟨⟨g.head,G⟩,?_⟩;refine aX ⟨dm,0,none⟩ rfl ?_;refine aj.dw (c:=ab .i64) (i:=1) (x:=(s.d.most:Int)) (cs:=λ_=>db fl s.d.most s.d.quota s.d.ops s.d.next s.d.crash.isSome cin kp s.d.down) (λB q=>q.1) (λ_ _=>rfl) ?_;refine aC (by simp) ?_;refine yD c1 ⟨⟨g.head,G⟩,?_⟩;refine aX ⟨m,0,none⟩ rfl ?_;refine aj.dw (c:=ak) (i:=2) (x:=ll) (cs:=λ_=>dH dm ll s) (λB q=>q.2) (λ_ _=>rfl) ?_;refine aC (by rw[I];simp) ?_;refine BV c1 (by omega) λA1 S=>?_;refine xZ (c2.ext S) (aC (by simp) ?_);have b1:=P.keep λb o d=>S.same b d id;have b2:=a2.keep λb o d=>S.same b d id;have g1:cU V Kp H0 A1 D1 D2:=(h.sub i1 i2).go S;refine Ak b1 (by omega) λJ B1 q1 S1=>?_;have g2:=g1.qz S1 b2.lt;have X:cp D2 B1 dm s.d:=b2.keep λb o d=>S1.mod.same b d λq=>g1.dis b q o;refine xe X (by omega) λY B2 Z S2=>?_;have g3:=g2.nk S2 q1.lt;have L:bo J B2 dp s.d.cS:=q1.keep λb o d=>S2.mod.same b d λq=>g2.dis b o q;have e2:=g3.ext;have bd:=s.d.vU;generalize s.d.cS=t at*;have I:t.list.length<=4096:=by
  unfold Dk.list;split
  ·simp
  ·rw[(O6 _ _).length_eq];simp;exact Z.wf.files
 refine AQ L λl B3 o3 m3 g3=>?_;refine Gc (Z.keep λb o d=>m3.same b d id) λl2 z o4 m4 g4=>?_;refine wE (o3.ext m4) o4 (by omega) ?_;refine aC rfl ?_;have m24:Ext B2 z:=m3.trans m4;have d1:bo J z dp t:=L.keep λb o d=>m24.same b d id;have d2:cp Y z dm t:=Z.keep λb o d=>m24.same b d id;have o5:az EN dI z l t.list:=o3.ext m4;have hn:=az.n o5 (by decide);have e5:Ext H0 z:=e2.trans m24;refine ar t.list.length (λk x B=>x=(k:Int)/\Ext z B) ⟨rfl,.refl _ _⟩ ?_;rintro k _ B6 next hk ⟨rfl,T⟩ C
 refine ah (λhc=>?_) (λhc=>hK B6 (e5.trans T));have M:k<t.list.length:=by rw[hn] at hc;simpa using hc
 have D:∀{B:aa} {K:ByteArray->Prop},Ext z B->K (cD t.list[k])->ae l.a λa=>(0<=(k:Int)/\(k:Int)<(l.n:Int))/\Go.Proofs.YtmkbhnholcaghaaGreatDoor.ld aK B (a.add ((k:Int).toNat*1)) K:=λe h=>rf (o5.ext e) M h;refine D T ?_;generalize cD t.list[k]=nm at*;refine mZ (d2.keep λb o d=>T.same b d id) (by omega) λB7 e7=>?_;have hlen:=Dk.jX d2.wf nm;refine ar ((t.len nm).1+1) (λj x B=>x=(j:Int)/\Ext z B) ⟨rfl,T.trans e7⟩ ?_;rintro j _ B8 af hj ⟨rfl,E⟩ y;refine ah (λN=>?_) (λN=>C M _ _ ⟨aD k (by omega),E⟩);have an:j<(t.len nm).1+1:=by simp at N;omega
 refine D E ?_;refine AY (d1.keep λb o d=>E.same b d id) λr9 B9 o9 e9 g9=>?_;refine D (E.trans e9) ?_;refine FR (d2.keep λb o d=>(E.trans e9).same b d id) (by omega) λbl bn a6 O g10=>?_;refine aC (by simp) ?_;refine kF (bV (o9.ext O)) ?_;refine kF a6 ?_;refine aC (by simp) ?_;exact y an _ _ ⟨aD j (by omega),(E.trans e9).trans O⟩
end
theorem gW.Mv {H:aa}{base:Nat}{r:Sl}{l:List Int}(h:gW H base r l):aM H base gS 1 r (l.map (On .u64)):=by
 have b:=h.len;obtain⟨h1,o⟩:=h.own;refine⟨by simp[b],.inr ?_⟩;rcases o with ⟨_,d⟩|⟨g,cap,cur,i,q,x,d,y,z,j⟩
 ·simp at d
 ·cases r with
  |mk a n c=>
    simp only[Sl.v,Ov] at i;obtain⟨C,_,D⟩:=i;simp only at b d j;refine⟨g,cap,cur,by simp[Sl.v,C,D],q,x,by show n<=cap;omega,y,z,?_⟩;have e:=congrArg (List.take n) j;rw[List.take_take,OO,We (by simp[b])] at e;have E:min n ((n+1)*1)=n:=by omega
    rw[E] at e;show cur.toList.take (n*1)=_;rw[O7];exact e
theorem Rows.go {H0:aa}{s:Sl}{ls:List (List Int)}(h:Rows H0 s ls){i:Nat}(hi:i<ls.length):∃r,Ints .u64 H0 r (ls[i]'hi)/\∀(B:aa) (K:Sl->Prop),Ext H0 B->K r->ae s.a λa=>(0<=(i:Int)/\(i:Int)<(s.n:Int))/\Go.Proofs.YtmkbhnholcaghaaGreatDoor.ld ak B (a.add ((i:Int).toNat*1)) K:=by
 obtain⟨ad,r,e,b,c⟩:=h.at' i hi;refine⟨r,c,λB K e2 d=>aX ad e ⟨⟨by omega,by rw[h.len];omega⟩,r,?_,d⟩⟩;rw[Od,O7];exact Mod.cell e2 b id
def yS:ByteArray:=Pe #[102]
theorem So.KT {t:So}{s:Pl}{l:List Int}{x y:Nat}(h:Bd s x y)(d:x<800000000000)(hw:t.wait.length<400000)(a:(t.add s l).1.fs.length<=4096):Bd (t.add s l).1 (x+400010) (y+805000):=by
 unfold So.add at a ⊢;split at a
 ·rename_i e;rw[if_pos e];exact h.mono (by omega) (by omega)
 ·rename_i e;rw[if_neg e];split at a
  ·rename_i b;rw[if_pos b];exact h.mono (by omega) (by omega)
  ·rename_i b;rw[if_neg b];split at a
   ·rename_i e2;rw[if_pos e2];exact h.mono (by omega) (by omega)
   ·rename_i e2;rw[if_neg e2];have c:=jJ (t.wait++[l]);have hl:(t.wait++[l]).length<=400000:=by simp;omega
    exact(se h (by show _+(eP (jN (t.wait++[l]))).length<_;omega) a).mono (by show _+(eP (jN (t.wait++[l]))).length+10<=_;omega) (by show _+2*(eP (jN (t.wait++[l]))).length+5000<=_;omega)
theorem So.kZ {t:So}:t.ready=0↔t.wrong=0/\t.closed=false:=by
 unfold So.ready;constructor
 ·intro h;by_cases q:t.wrong=0
  ·rw[if_neg (by rw[q];simp)] at h;refine⟨q,?_⟩;cases e:t.closed with
   |true=>rw[e] at h;simp at h
   |false=>rfl
  ·rw[if_pos q] at h;exact absurd h q
 ·rintro⟨h1,a⟩;rw[h1,a];rfl
theorem zo {x:Int}(h:aH x≠0):0<=x/\x<=16:=by
 rcases Decidable.em (x<0\/x>16) with q|q
 ·refine absurd ?_ h;unfold aH bz;rw[if_pos q];rfl
 ·omega
structure uy (t:So)(w fr i:Nat):Prop where
 name:t.name.size<=100
 width:t.width=(w:Int)
 frames:t.frames=(fr:Int)
 cnt:t.side.length*(fr*xT w)+t.wait.length<=i
 next:t.next=t.side.length
 sizes:∀n∈t.side,n.size<=9223372036854775807
 ready:t.ready=0
section
variable {t:So}{w fr i:Nat}
theorem uy.iD (h:uy t w fr i)(hw:w<=16)(a:3<=fr):9*t.side.length<=i/\t.wait.length<=i/\3*(t.side.length*xT w)<=i/\xT w<=504:=by
 obtain⟨b,r2,_,d⟩:=lf (Oz w) hw;have c:=h.cnt;have h1:t.side.length*(3*xT w)<=t.side.length*(fr*xT w):=Vz _ (OL _ a);rw[UR] at h1;have e:t.side.length*3<=t.side.length*xT w:=Vz _ r2;omega
theorem uy.Ma (h:uy t w fr i)(hw:w<=16)(c:3<=fr)(d:fr<=100)(hi:i<=400):vI t:=by
 obtain⟨a,b,_,_⟩:=h.iD hw c;refine⟨by have:=h.name;omega,by omega,by omega,h.sizes,by rw[h.next];omega,by rw[h.frames];omega⟩
theorem uy.add (h:uy t w fr i)(hw:w<=16)(b:3<=fr)(hi:i<=400)(s:Pl)(l:List Int):uy (t.add s l).2.1 w fr (i+1)\/(t.add s l).2.1.ready≠0:=by
 obtain⟨d,r2,_,o⟩:=lf (Oz w) hw;obtain⟨f1,_⟩:=h.iD hw b;have c:=h.cnt;obtain⟨g,a⟩:=So.kZ.1 h.ready;unfold So.add;rw[if_neg (by rw[h.ready];simp)];split
 ·exact .inl ⟨h.name,h.width,h.frames,Nat.le_succ_of_le c,h.next,h.sizes,h.ready⟩
 ·split
  ·refine .inl ⟨h.name,h.width,h.frames,?_,h.next,h.sizes,So.kZ.2 ⟨g,a⟩⟩;show t.side.length*(fr*xT w)+(t.wait++[l]).length<=i+1;rw[OG,P7];omega
  ·rename_i _ q;rw[h.frames,h.width,d] at q;have q:fr*xT w<=t.wait.length+1:=by
    have:((fr*xT w:Nat):Int)=(fr:Int)*(xT w:Int):=by simp
    omega
   by_cases e:({t with wait:=t.wait++[l]}.aside s).2.2=0
   ·left;refine⟨h.name,h.width,h.frames,?_,?_,λn j=>?_,So.kZ.2 ⟨e,a⟩⟩
    ·show (t.side++[_]).length*(fr*xT w)+0<=i+1;rw[OG,P7,Pf];omega
    ·show t.next+1=(t.side++[_]).length;rw[OG,P7,h.next]
    ·rcases Oe.1 (show n∈t.side++[bU t.name t.next] from j) with u|u
     ·exact h.sizes n u
     ·rw[Ow] at u;subst u;have:=cJ (n:=t.next) (by rw[h.next];omega);have:=h.name;rw[dR];omega
   ·exact .inr λq=>e (So.kZ.1 q).1
theorem My {S r a b T:Nat}(h1:S<=a)(c:S*r<=b)(e:r<=504)(g:a*b+3*b+1008<=T):(S+1)*(r*1048576)<=(b+504)*1048576/\(S+2)*(2*((S+1)*(r*1048576))+3000)<=2097152*T+3000*(a+2)/\(S+2)*(3*((S+1)*(r*1048576))+9000)<=3145728*T+9000*(a+2):=by
 have d:(S+1)*(r*1048576)=(S*r+r)*1048576:=by rw[<-WC,Pf]
 have e2:(S+2)*(S*r+r)<=T:=by
  have q:S*(S*r)<=a*b:=Nat.mul_le_mul h1 c;rw[Nat.add_mul,VV];omega
 have h:(S+2)*((S*r+r)*1048576)<=T*1048576:=by
  rw[<-WC];exact OL _ e2
 rw[d];refine⟨by omega,?_,?_⟩
 ·rw[VV,UR];omega
 ·rw[VV,UR];omega
def y7 (t:So)(X Y:Nat):Prop:=∃N,(t.side.length+1)*((aH t.width).toNat*1048576)<=N/\N<=1000000000/\(t.side.length+2)*(2*N+3000)<=X/\(t.side.length+2)*(3*N+9000)<=Y/\t.next+t.side.length+2<=100
theorem uy.cost {a b T X Y:Nat}(c:uy t w fr i)(hw:w<=16)(o:3<=fr)(J:i<=9*a+8)(L:i<=3*b+2)(q:a<=44)(g:b<=133)(d:a*b+3*b+1008<=T)(x:2097152*T+3000*(a+2)<=X)(y:3145728*T+9000*(a+2)<=Y):y7 t X Y:=by
 obtain⟨f1,f2,f3,f4⟩:=c.iD hw o;obtain⟨z,_⟩:=lf (Oz w) hw;have h:=c.next;have j:=c.width;clear c;generalize xT w=r at*;have e:(b+504)*1048576<=1000000000:=Oo (OL 1048576 (Nat.add_le_add_right g 504)) (by decide);have C:t.next+t.side.length+2<=100:=by clear d e;rw[h];omega
 have s1:t.side.length<=a:=by clear d e;omega
 have s2:t.side.length*r<=b:=by clear d e;omega
 obtain⟨D,E,G⟩:=My (S:=t.side.length) (r:=r) (a:=a) (b:=b) s1 s2 f4 d;have I:(aH t.width).toNat=r:=by rw[j,z,Od]
 unfold y7;rw[I];exact⟨(t.side.length+1)*(r*1048576),Ob _,Oo D e,Oo E x,Oo G y,C⟩
theorem uy.wM (c:uy t w fr i)(hw:w<=16)(d:3<=fr)(hi:i<=400):y7 t 16000000000 23000000000:=c.cost (a:=44) (b:=133) (T:=7259) hw d (by omega) (by omega) (by decide) (by decide) (by decide) (by decide) (by decide)
theorem uy.IE (c:uy t w fr i)(hw:w<=16)(d:3<=fr)(hi:i<=200):y7 t 5600000000 8400000000:=c.cost (a:=22) (b:=66) (T:=2658) hw d (by omega) (by omega) (by decide) (by decide) (by decide) (by decide) (by decide)
end
def gX (A:aa)(d p k:Nat)(X:Nat->Prop)(s:Pl)(t:So):Prop:=∃F sw rs ss,X=(λb=>F b\/cg k sw rs ss b)/\au F A p d s/\qg A k p t sw rs ss/\∀b,F b->¬cg k sw rs ss b
def jI (A:aa)(d p k:Nat)(X:Nat->Prop)(s:Pl)(t:So):Prop:=∃F sw rs ss,X=(λb=>F b\/cg k sw rs ss b)/\ao F A p d s/\nf A k p t sw rs ss/\∀b,F b->¬cg k sw rs ss b
def kO (A:aa)(d p k:Nat)(X:Nat->Prop)(s:Pl)(t:So):Prop:=∃F sw ss,X=(λb=>F b\/b=k)/\au F A p d s/\aj A k vT (im p t sw ss)/\¬F k
def kK (A:aa)(d p k:Nat)(X:Nat->Prop)(s:Pl)(t:So):Prop:=∃F sw ss,X=(λb=>F b\/b=k)/\ao F A p d s/\aj A k yN (im p t sw ss)/\¬F k
section
variable {A B:aa}{d p k:Nat}{X G:Nat->Prop}{s:Pl}{t:So}
theorem gX.lt (h:gX A d p k X s t):∀b,X b->b<A.size:=by
 obtain⟨F,sw,rs,ss,rfl,h1,a,_⟩:=h;exact λb c=>c.elim (h1.lt b) (a.lt b)
theorem jI.lt (h:jI A d p k X s t):∀b,X b->b<A.size:=by
 obtain⟨F,sw,rs,ss,rfl,h1,a,_⟩:=h;exact λb c=>c.elim (h1.lt b) (a.lt b)
theorem kO.lt (h:kO A d p k X s t):∀b,X b->b<A.size:=by
 obtain⟨F,sw,ss,rfl,h1,a,_⟩:=h;exact λb c=>c.elim (h1.lt b) λu=>u▸aA a
theorem kK.lt (h:kK A d p k X s t):∀b,X b->b<A.size:=by
 obtain⟨F,sw,ss,rfl,h1,a,_⟩:=h;exact λb c=>c.elim (h1.lt b) λu=>u▸aA a
theorem gX.mod (h:gX A d p k X s t)(m:Mod G A B)(c:∀b,X b->¬G b):gX B d p k X s t:=by
 obtain⟨F,sw,rs,ss,rfl,h1,e,g⟩:=h;exact⟨F,sw,rs,ss,rfl,h1.keep λb a hl=>m.same b hl (c b (.inl a)),e.mod m λb a=>c b (.inr a),g⟩
theorem jI.mod (h:jI A d p k X s t)(m:Mod G A B)(c:∀b,X b->¬G b):jI B d p k X s t:=by
 obtain⟨F,sw,rs,ss,rfl,h1,e,g⟩:=h;exact⟨F,sw,rs,ss,rfl,h1.keep λb a hl=>m.same b hl (c b (.inl a)),e.mod m λb a=>c b (.inr a),g⟩
theorem kO.mod (h:kO A d p k X s t)(m:Mod G A B)(a:∀b,X b->¬G b):kO B d p k X s t:=by
 obtain⟨F,sw,ss,rfl,h1,c,e⟩:=h;exact⟨F,sw,ss,rfl,h1.keep λb g hl=>m.same b hl (a b (.inl g)),c.mod m (a k (.inr rfl)),e⟩
theorem kK.mod (h:kK A d p k X s t)(m:Mod G A B)(a:∀b,X b->¬G b):kK B d p k X s t:=by
 obtain⟨F,sw,ss,rfl,h1,c,e⟩:=h;exact⟨F,sw,ss,rfl,h1.keep λb g hl=>m.same b hl (a b (.inl g)),c.mod m (a k (.inr rfl)),e⟩
theorem gX.die (h:gX A d p k X s t):∃Y,kO A d p k Y s t/\∀b,Y b->X b:=by
 obtain⟨F,sw,rs,ss,rfl,h1,a,c⟩:=h;exact⟨_,⟨F,sw,ss,rfl,h1,a.rd.row,λq=>c k q (.inl rfl)⟩,λb e=>e.imp id λu=>.inl u⟩
theorem jI.die (h:jI A d p k X s t):∃Y,kK A d p k Y s t/\∀b,Y b->X b:=by
 obtain⟨F,sw,rs,ss,rfl,h1,a,c⟩:=h;exact⟨_,⟨F,sw,ss,rfl,h1,a.row,λq=>c k q (.inl rfl)⟩,λb e=>e.imp id λu=>.inl u⟩
variable {w fr i:Nat}{l:Sl}{ll:List Int}
theorem gX.add {K:Int->aa->Prop}{x y:Nat}(h:gX A d p k X s t)(z:Gl A)(C:¬X bh)(a:uy t w fr i)(hw:w<=16)(j:3<=fr)(D:fr<=100)(hi:i<=400)(hl:Ints .u64 A l ll)(b:Bd s x y)(o:x<800000000000)(E:y<50000000000)
  (I:∀X' B,gX B d p k X' (t.add s ll).1 (t.add s ll).2.1->Step X X' A B->Bd (t.add s ll).1 (x+400010) (y+805000)->K (t.add s ll).2.2 B):xi.sp (aE k) l A K:=by
 obtain⟨F,sw,rs,ss,rfl,h1,J,L⟩:=h;obtain⟨f1,f2,_⟩:=a.iD hw j;exact IL z (λq=>C (.inr q)) J h1 L (a.Ma hw j D hi) (by omega) (by rw[a.width];omega) hl b o E λF' c e g B p1 s1 d1 M=>I _ B ⟨F',c,e,g,rfl,p1,s1,d1⟩ M (So.KT b o (by omega) p1.frames)
theorem jI.add {K:Int->aa->Prop}{x y:Nat}(h:jI A d p k X s t)(a:uy t w fr i)(hw:w<=16)(j:3<=fr)(o:fr<=100)(hi:i<=400)(hl:Ints .u64 A l ll)(b:Bd s x y)(q:x<800000000000)(z:y<50000000000)
  (C:∀X' B,jI B d p k X' (t.add s ll).1 (t.add s ll).2.1->Step X X' A B->K (t.add s ll).2.2 B):CF.sp (aE k) l A K:=by
 obtain⟨F,sw,rs,ss,rfl,h1,D,E⟩:=h;obtain⟨f1,f2,_⟩:=a.iD hw j;exact Hz D h1 E (a.Ma hw j o hi) (by omega) (by rw[a.width];omega) hl b q z λF' c e g B p1 s1 d1 I=>C _ B ⟨F',c,e,g,rfl,p1,s1,d1⟩ I
theorem kO.add {K:Int->aa->Prop}(h:kO A d p k X s t)(a:t.ready≠0)(b:K t.ready A):xi.sp (aE k) l A K:=by
 obtain⟨F,sw,ss,rfl,h1,c,_⟩:=h;refine xi.of ?_;unfold xi.vc;exact ki c (aP (by simpa using a) b)
theorem kK.add {K:Int->aa->Prop}(h:kK A d p k X s t)(a:t.ready≠0)(b:K t.ready A):CF.sp (aE k) l A K:=by
 obtain⟨F,sw,ss,rfl,h1,c,_⟩:=h;refine CF.of ?_;unfold CF.vc;exact ji c (aP (by simpa using a) b)
theorem kO.done {K:(Int×Int)->aa->Prop}(h:kO A d p k X s t)(a:t.ready≠0)(b:K (0,t.ready) A):Df.sp (aE k) A K:=by
 obtain⟨F,sw,ss,rfl,h1,c,_⟩:=h;refine Df.of ?_;unfold Df.vc;exact ki c (aP (by simpa using a) b)
theorem kK.done {K:(Int×Int)->aa->Prop}(h:kK A d p k X s t)(a:t.ready≠0)(b:K (0,t.ready) A):DI.sp (aE k) A K:=by
 obtain⟨F,sw,ss,rfl,h1,c,_⟩:=h;refine DI.of ?_;unfold DI.vc;exact ji c (aP (by simpa using a) b)
theorem gX.done {K:(Int×Int)->aa->Prop}{x y a c:Nat}(h:gX A d p k X s t)(C:Gl A)(D:¬X bh)(e:uy t w fr i)(hw:w<=16)(o:3<=fr)(E:fr<=100)(hi:i<=400)(b:Bd s x y)(I:y7 t a c)(U:x+400010+a<=600000000000)(Y:y+805000+c<=39000000000)
  (J:∀X' B,kO B d p k X' (t.done s).1 (t.done s).2.1->Step X X' A B->Bd (t.done s).1 (x+400010+a) (y+805000+c)->K (((t.done s).2.2.1:Int),(t.done s).2.2.2) B):Df.sp (aE k) A K:=by
 obtain⟨F,sw,rs,ss,rfl,h1,L,M⟩:=h;obtain⟨f1,f2,_⟩:=e.iD hw o;obtain⟨N,n1,n2,Z,n4,n5⟩:=I;refine Ef (N:=N) (R:=t.side.length+2) C (λq=>D (.inr q)) L h1 M (e.Ma hw o E hi) n5 (by rw[e.frames];omega) b (Ob _) n2 (by omega) (by omega) (λ_=>.inr (LO (by omega) n1)) λF' g O j B p1 P d1 z S=>?_;exact J _ B ⟨F',g,j,rfl,p1,P,λq=>d1 k q (.inl rfl)⟩ ⟨z.mod,λb T=>z.own b (T.imp id .inl)⟩ (S.mono (by omega) (by omega))
theorem jI.done {K:(Int×Int)->aa->Prop}{x y j o:Nat}(h:jI A d p k X s t)(c:uy t w fr i)(hw:w<=16)(z:3<=fr)(D:fr<=100)(hi:i<=400)(b:Bd s x y)(E:y7 t j o)(S:x+400010+j<=600000000000)(T:y+805000+o<=39000000000)
  (I:∀X' a B,kK B d p k X' (t.done s).1 a->a.ready=(t.done s).2.1.ready->(t.done s).2.1.ready≠0->Step X X' A B->K (((t.done s).2.2.1:Int),(t.done s).2.2.2) B):DI.sp (aE k) A K:=by
 obtain⟨F,sw,rs,ss,rfl,h1,J,L⟩:=h;obtain⟨f1,f2,_⟩:=c.iD hw z;obtain⟨N,n1,n2,U,Y,n5⟩:=E;refine Fa (N:=N) (R:=t.side.length+2) J h1 L (c.Ma hw z D hi) (by omega) n5 (by rw[c.frames];omega) b (Ob _) n2 (by omega) (by omega) (KI (by omega) n1) λF' a e M g B p1 s1 O e2 d1 C=>?_;exact I _ a B ⟨F',e,g,rfl,p1,s1.row,λq=>d1 k q (.inl rfl)⟩ O e2 ⟨C.mod,λb P=>C.own b (P.imp id .inl)⟩
end
def BF:Pl:=rL (re 20) 8
def Dt (l:List (List Int)):So:={GM yS 1 3 with wait:=l}
def MM:Pl:=(ia BF (bU yS 0) 1 [[1],[5]]).1
def yR:Pl×So×Nat×Int:=So.goes (MM,(Dt [[5],[1],[5]]).iK,0)
def Iu:RR:=(rnOpen yR.1 yS 1).2.1.getD default
def IB:Pl:=(rnOpen yR.1 yS 1).1
theorem L5:eP (jN [[5],[1],[5]])=[[1],[5]]:=by
 refine vL (tk _) (by simp[yi,uP,aT]) λy=>?_;rw[mN];simp only[List.mem_cons,List.not_mem_nil,or_false];constructor
 ·rintro(h|h|h)<;>simp[h]
 ·rintro(h|h)<;>simp[h]
set_option maxRecDepth 100000 in
theorem MR:((ia BF (bU yS 0) 1 [[1],[5]]).2==0&&yR.2.2.2==0&&yR.2.2.1==2&&decide (0<=yR.1.next)&&(rnOpen yR.1 yS 1).2.1.isSome&&(rnOpen yR.1 yS 1).2.2==0&&(Iu.next IB).2.2==([1],true,0)&&!(Iu.next IB).1.d.down&&(Iu.next IB).1.d.files.length==1&&decide (0<=IB.next)&&decide (IB.next<1000)&&decide (IB.d.aB<1000))=true:=by decide+kernel
theorem fS (l:List (List Int))(x:Int)(h:l.length<3):(Dt l).add BF [x]=(BF,Dt (l++[[x]]),0):=by
 unfold So.add;rw[if_neg (by show ¬(0:Int)≠0;decide),if_neg (by show ¬(1:Int)≠1;decide),if_pos]
 ·rfl
 ·show ((l.length+1:Nat):Int)<3*aH 1;rw[show aH 1=63 by decide];omega
theorem Lu:(Dt [[5],[1],[5]]).done BF=(yR.1,{yR.2.1 with closed:=true},2,0):=by
 have h:=MR;simp only[Oj,beq_iff_eq,decide_eq_true_eq] at h;obtain⟨⟨⟨⟨⟨⟨⟨⟨⟨⟨⟨h1,a⟩,b⟩,_⟩,_⟩,_⟩,_⟩,_⟩,_⟩,_⟩,_⟩,_⟩:=h;have c:(Dt [[5],[1],[5]]).first BF=(MM,(Dt [[5],[1],[5]]).iK,0):=by
  unfold So.first;rw[if_pos (.inl (by show [[5],[1],[5]]≠[];simp))];show ((ia BF (bU yS 0) 1 (eP (jN [[5],[1],[5]]))).1,(Dt [[5],[1],[5]]).iK,(ia BF (bU yS 0) 1 (eP (jN [[5],[1],[5]]))).2)=_;rw[L5,h1];rfl
 unfold So.done;rw[if_neg (by show ¬(0:Int)≠0;decide),c];show So.ends yR=_;unfold So.ends;rw[if_neg (by rw[a];decide),b]
section
variable {H:aa}
set_option maxHeartbeats 1000000 in
theorem Cn {K:Bool->aa->Prop}(g:Gl H)(hK:∀B,Ext H B->K true B):GQ.sp H K:=by
 have ev:=MR;simp only[Oj,beq_iff_eq,decide_eq_true_eq,Bool.not_eq_true'] at ev;obtain⟨⟨⟨⟨⟨⟨⟨⟨⟨⟨⟨_,_⟩,_⟩,v4⟩,v5⟩,v6⟩,v7⟩,v8⟩,v9⟩,v10⟩,v11⟩,v12⟩:=ev;refine GQ.of ?_;unfold GQ.vc;have a8:=g.lt;refine Gi (by decide) λF1 d H1 a1 y f1=>?_;refine tt (m:=8) (g.mod y id) a1 (λq=>by have:=f1 _ q;omega) (by decide) (by decide) λP p e M x2 w2=>?_;have z1:=y.size;have h:cU H (λ_=>False) H e P (λ_=>False):=⟨y.trans x2,λb a=>(w2 b a).elim (f1 b) λu=>by omega,λ_ q=>q.elim,λ_ _ q=>q,λ_ q=>q.elim⟩;have l2:=M.lt;refine xw M (λn1=>absurd (congrArg T9 n1) (by rw[show (iQ (rL (re 20) 8) (Pe #[102]) 1 3).1.isSome=true by decide+kernel];simp)) λ_ _ N e3 s3=>?_;refine aC rfl (aC rfl ?_);have z2:=h.ext.size;have sO:∀b,cg e.size bf [] bf b->b=e.size:=by
  rintro b (u|u|⟨x,O,_⟩|u)
  ·exact u
  ·exact absurd u (aS b)
  ·cases O
  ·exact absurd u (aS b)
 have S3:gX N d p e.size (λb=>P b\/cg e.size bf [] bf b) BF (Dt []):=⟨P,bf,[],bf,rfl,M.ext e3,s3,λb a u=>by have:=sO b u;have:=l2 b a;omega⟩;have T:cU H (λ_=>False) H N (λb=>P b\/cg e.size bf [] bf b) (λ_=>False):=⟨h.ext.trans e3,λb a=>a.elim (h.n1 b) λu=>by have:=sO b u;omega,λ_ q=>q.elim,λ_ _ q=>q,λ_ q=>q.elim⟩;have b0:Bd BF 1 0:=⟨λf hf=>by simp[BF,rL] at hf,by decide,by decide,by decide⟩;have z:∀l:List (List Int),l.length<=3->uy (Dt l) 1 3 3:=λl hl=>⟨by show yS.size<=100;decide,rfl,rfl,by show 0*_+l.length<=3;omega,rfl,λn U=>(by cases U),rfl⟩
 -- a row
 have row:∀(l:List (List Int)) (x:Int) (A:aa) (X:Nat->Prop) (Y:Int->aa->Prop),l.length<3->cU H (λ_=>False) H A X (λ_=>False)->gX A d p e.size X BF (Dt l)->(∀X' B,cU H (λ_=>False) H B X' (λ_=>False)->gX B d p e.size X' BF (Dt (l++[[x]]))->Y 0 B)->aI A #[(.int .u64 x)] gS λq Z=>xi.sp (aE e.size) (Sl.mk (some q) 1 1) Z Y:=λl x A X Y hl ap S af=>by
  refine uR (k:=.u64) [x] λq B _ _ J eB=>?_;have E:=ap.go eB;refine(S.mod eB λ_ _ u=>u).add (g.mod E.ext id) (λq=>by have:=ap.n1 _ q;omega) (z l (by omega)) (by decide) (by decide) (by decide) (by decide) (J 1) b0 (by decide) (by decide) λX' C q1 S1 _=>?_;rw[fS l x hl] at q1 ⊢;exact af X' C (E.qz S1 λ_ u=>u.elim) q1
 refine row [] 5 N _ _ (by decide) T S3 λX4 Z an S4=>aC rfl ?_;refine row _ 1 Z _ _ (by decide) an S4 λX5 H5 a6 S5=>aC rfl ?_;refine row _ 5 H5 _ _ (by decide) a6 S5 λX6 H6 j S6=>aC rfl ?_;refine S6.done (g.mod j.ext id) (λq=>by have:=j.n1 _ q;omega) (z _ (by decide)) (by decide) (by decide) (by decide) (by decide) b0 ((z _ (by decide)).IE (by decide) (by decide) (by decide)) (by decide) (by decide) λX7 H7 q7 S7 b7=>?_;have ed:(Dt ([]++[[5]]++[[1]]++[[5]])).done BF=(yR.1,{yR.2.1 with closed:=true},2,0):=Lu;rw[ed] at q7 b7 ⊢;have n7:=b7.hi;have l7:=b7.aB;obtain⟨F7,bb,bd,rfl,p7,_,_⟩:=q7;have o:=(j.qz S7 λ_ u=>u.elim).sub (Y1:=F7) (Y2:=λ_=>False) (λb a=>.inl a) λ_ u=>u;have g7:=g.mod o.ext id;refine sV g7 p7 (n:=yS) (by decide) (by omega) (by omega) v4 (λF8 H8 _ _ L=>absurd v5 (by rw[L];simp)) λF8 H8 k r p8 S8 L z k1 k2=>?_;have er:r=Iu:=by
  unfold Iu;rw[L];rfl
 subst er;obtain⟨ok,rb,_,_,_⟩:=mr L;refine aC (by rw[v6];rfl) (aC rfl ?_);have c:=o.qz S8 λ_ u=>u.elim;have g8:=g.mod c.ext id;have z7:=o.ext.size;have rO:∀b,qJ k bf [] b->b=k:=by
  rintro b (u|u|⟨x,O,_⟩)
  ·exact u
  ·exact absurd u (aS b)
  ·cases O
 refine yE (H0:=H8) (F0:=F8) (O0:=qJ k bf []) g8 (λq=>by have:=c.n1 _ q;omega) (by omega) ⟨p8,z,λb a u=>k2 (rO b u▸a),.refl _ _,λb a=>.inl a,λb a=>.inl a⟩ ok (by rw[rb];decide) (by show IB.d.aB<_;omega) (by show IB.next<_;omega) (by show 0<=IB.next;exact v10) λF9 si rs C l hR hO a7=>?_;have hv:(Iu.next (rnOpen yR.1 yS 1).1).2.2=([1],true,0):=v7;rw[hv] at hO ⊢;have J:Ints .u64 C l [1]:=hO.ints;have U:l.n=1:=J.len;refine aP (by simp[U]) ?_;refine J.ld (i:=0) (by decide) (by decide) λad _=>?_;refine aP rfl ?_;have eC:Ext H C:=⟨Oo c.ext.size hR.mod.size,λb a _=>(hR.mod.same b (by have:=c.ext.size;omega) λu=>u.elim (λv=>by have:=c.n1 b v;omega) λv=>by omega).trans (c.ext.same b a id)⟩;obtain⟨D,hD,_,_⟩:=hR.pool.cv (g.mod eC id);refine AQ hD λl2 B o2 e2 _=>?_;have I:=az.n o2 (by decide);have y:(Iu.next (rnOpen yR.1 yS 1).1).1.d.list.length=1:=by
  have d1:(Iu.next (rnOpen yR.1 yS 1).1).1.d.down=false:=v8;have d2:(Iu.next (rnOpen yR.1 yS 1).1).1.d.files.length=1:=v9;unfold Dk.list;rw[d1,if_neg (by simp),(O6 _ _).length_eq,OT];exact d2
 rw[y] at I;rw[I];exact hK B (eC.trans e2)
end
def w7 (V:aa)(Kp:Nat->Prop)(H0 A:aa)(d n p m a b w fr i x y:Nat):Prop:=∃X1 X2 s t,cU V Kp H0 A X1 X2/\gX A d p a X1 s t/\jI A n m b X2 s t/\uy t w fr i/\Bd s (x+400010*i) (y+805000*i)
def sF (V:aa)(Kp:Nat->Prop)(H0 A:aa)(d n p m b c x y:Nat):Prop:=∃X1 X2 s t a,cU V Kp H0 A X1 X2/\kO A d p b X1 s t/\kK A n m c X2 s a/\t.ready≠0/\a.ready=t.ready/\Bd s x y
def Fh (V:aa)(Kp:Nat->Prop)(H0 A:aa)(d n p m x y:Nat):Prop:=∃a b s,cU V Kp H0 A a b/\au a A p d s/\ao b A m n s/\Bd s x y
section
variable {V H0 A:aa}{Kp:Nat->Prop}{d n p m k1 k2 w fr i x0 y0 X Y:Nat}{rows:Sl}{rl:List (List Int)}{R:Bool->aa->Prop}
set_option maxHeartbeats 1000000 in
theorem HV {K:aa->Prop}(h:w7 V Kp H0 A d n p m k1 k2 w fr i x0 y0\/sF V Kp H0 A d n p m k1 k2 X Y)(hg:Gl H0)(hw:w<=16)(h3:3<=fr)(hf:fr<=100)(hi:i<400)(hx:x0+400010*(i+1)<=X/\x0+400010*(i+1)<=700000000000)(hy:y0+805000*(i+1)<=Y/\y0+805000*(i+1)<=49000000000)(hr:Rows H0 rows rl)(hlen:∀l∈rl,l.length<=17592186043904){j:Nat}(hj:j<rl.length)
  (hK:∀B,w7 V Kp H0 B d n p m k1 k2 w fr (i+1) x0 y0\/sF V Kp H0 B d n p m k1 k2 X Y->K B):
  ae rows.a λa=>(0<=(j:Int)/\(j:Int)<(rows.n:Int))/\Go.Proofs.YtmkbhnholcaghaaGreatDoor.ld ak A (a.add ((j:Int).toNat*1)) λ(a1:Sl)=>I6.sp a1 A λ(l:Sl) H8=>xi.sp (aE k1) l H8 λ(bl:Int) H9=>ae rows.a λbn=>(0<=(j:Int)/\(j:Int)<(rows.n:Int))/\Go.Proofs.YtmkbhnholcaghaaGreatDoor.ld ak H9 (bn.add ((j:Int).toNat*1)) λ(a6:Sl)=>CF.sp (aE k2) a6 H9 λ(bs:Int) P=>br (bl !=bs) (R false P) (ae rows.a λS=>(0<=(j:Int)/\(j:Int)<(rows.n:Int))/\Go.Proofs.YtmkbhnholcaghaaGreatDoor.ld ak P (S.add ((j:Int).toNat*1)) λ(g:Sl)=>GP.sp l g P λ(T:Bool) o=>br (!T) (R false o) (GV.sp l o λ(_:Unit) U=>K U)):=by
 obtain⟨r,Z,z⟩:=hr.go hj;have af:=hlen _ (OP hj);have bD:=hg.lt;have eA:Ext H0 A:=h.elim (λ⟨_,_,_,_,a,_⟩=>a.ext) λ⟨_,_,_,_,_,a,_⟩=>a.ext;refine z A _ eA ?_;refine Gq (Z.ext eA) af λl B hL M=>?_;have zB:=M.size;have y:=hL.block
 -- what is lent stays
 have fin:∀C,Ext H0 C->gW C A.size l (rl[j]'hj)->A.size<=C.size->(∀D,Mod (ag l) C D->K D)->ae rows.a λS=>(0<=(j:Int)/\(j:Int)<(rows.n:Int))/\Go.Proofs.YtmkbhnholcaghaaGreatDoor.ld ak C (S.add ((j:Int).toNat*1)) λ(g:Sl)=>GP.sp l g C λ(T:Bool) o=>br (!T) (R false o) (GV.sp l o λ(_:Unit) U=>K U):=λC eC an zC hD=>by
  refine z C _ eC ?_;refine Ev an (Z.ext eC) af ?_;refine aC rfl ?_;exact Dm an.Mv (by rw[an.len];exact af) zC λD mD=>hD D mD
 rcases h with ⟨X1,X2,s,t,ap,s1,s2,h8,bd⟩|⟨X1,X2,s,t,t',ap,s1,s2,e1,e2,e3⟩
 ·have bx:Gl B:=hg.mod (eA.trans M) id;have l1:=s1.lt;have l2:=s2.lt;have e:=ap.go M;have I:=s1.mod M λ_ _=>id;have x:=s2.mod M λ_ _=>id;refine I.add bx (λq=>by have:=ap.n1 _ q;omega) h8 hw h3 hf (by omega) hL.ints bd (by omega) (by omega) λY1 C q1 S1 bC=>?_;have J:=e.qz S1 x.lt;have zC:=S1.mod.size;refine z C _ J.ext ?_;have bA:=x.mod S1.mod λb c q=>e.dis b q c;refine bA.add h8 hw h3 hf (by omega) (Z.ext J.ext) bd (by omega) (by omega) λY2 D q2 S2=>?_;have a7:=J.nk S2 q1.lt;have bB:=q1.mod S2.mod λb c q=>J.dis b c q;refine aC (by simp) ?_;have zD:=S2.mod.size;have N:∀b,ag l b->¬X1 b:=λb c q=>by have:=(y b c).1;have:=l1 b q;omega
  have O:∀b,ag l b->¬X2 b:=λb c q=>by have:=(y b c).1;have:=l2 b q;omega
  refine fin D a7.ext ((hL.mod S1.mod N).mod S2.mod O) (by omega) λE mE=>?_;have o1:∀b,Y1 b->¬ag l b:=λb c q=>by
   have:=y b q;rcases S1.own b c with u|u
   ·exact N b q u
   ·omega
  have o2:∀b,Y2 b->¬ag l b:=λb c q=>by
   have:=y b q;rcases S2.own b c with u|u
   ·exact O b q u
   ·omega
  have z0:=eA.size;have L:=a7.other mE (λb c q=>by have:=(y b q).1;omega) λb c q=>by have:=(ap.kept b c).1;have:=(y b q).1;omega
  have a8:=bB.mod mE o1;have bb:=q2.mod mE o2;refine hK E ?_;rcases h8.add hw h3 (by omega) s (rl[j]'hj) with u|u
  ·exact .inl ⟨Y1,Y2,_,_,L,a8,bb,u,bC.mono (by omega) (by omega)⟩
  ·obtain⟨Z1,v1,w1⟩:=a8.die;obtain⟨Z2,v2,w2⟩:=bb.die;exact .inr ⟨Z1,Z2,_,_,_,L.sub w1 w2,v1,v2,u,rfl,bC.mono (by omega) (by omega)⟩
 ·have l1:=s1.lt;have l2:=s2.lt;have e:=ap.go M;have I:=s1.mod M λ_ _=>id;have x:=s2.mod M λ_ _=>id;refine I.add e1 ?_;refine z B _ e.ext ?_;refine x.add (by rw[e2];exact e1) ?_;refine aC (by rw[e2];simp) ?_;refine fin B e.ext hL (by omega) λE mE=>?_;have o1:∀b,X1 b->¬ag l b:=λb c q=>by have:=(y b q).1;have:=l1 b c;omega
  have o2:∀b,X2 b->¬ag l b:=λb c q=>by have:=(y b q).1;have:=l2 b c;omega
  have z0:=eA.size;have L:=e.other mE (λb c q=>by have:=(y b q).1;omega) λb c q=>by have:=(ap.kept b c).1;have:=(y b q).1;omega
  exact hK E (.inr ⟨X1,X2,s,t,t',L,I.mod mE o1,x.mod mE o2,e1,e2,e3⟩)
theorem rQ {K:Bool->aa->Prop}{o x:Nat}(h:w7 V Kp H0 A d n p m k1 k2 w fr i x0 y0\/sF V Kp H0 A d n p m k1 k2 X Y)(M:Gl H0)(hw:w<=16)(N:3<=fr)(O:fr<=100)(hi:i<=400)(hc:∀t,uy t w fr i->y7 t o x)
  (y:x0+400010*i+400010+o<=X/\x0+400010*i+400010+o<=600000000000) (z:y0+805000*i+805000+x<=Y/\y0+805000*i+805000+x<=39000000000)
  (P:∀B,sF V Kp H0 B d n p m k1 k2 X Y->K true B):GH.sp (aE k1) (aE k2) A K:=by
 refine GH.of ?_;unfold GH.vc;have af:=M.lt;rcases h with ⟨X1,X2,s,t,ap,s1,s2,D,S⟩|⟨X1,X2,s,t,j,ap,s1,s2,c,e2,e3⟩
 ·have e:=hc t D;refine s1.done (M.mod ap.ext id) (λq=>by have:=ap.n1 _ q;omega) D hw N O hi S e y.2 z.2 λY1 B T U b1=>?_;have g:=ap.qz U s2.lt;have E:=s2.mod U.mod λb I q=>ap.dis b q I;refine E.done D hw N O hi S e y.2 z.2 λY2 j C q2 c e2 Z=>?_;have J:=g.nk Z T.lt;have L:=T.mod Z.mod λb I q=>g.dis b I q;have:∀a b:Int,((a==a)&&(b==b))=true:=λa b=>by simp
  rw[this];exact P C ⟨Y1,Y2,_,_,j,J,L,q2,e2,c,b1.mono y.1 z.1⟩
 ·refine s1.done c (s2.done (by rw[e2];exact c) ?_);have:(((0:Int)==(0:Int))&&(t.ready==j.ready))=true:=by rw[e2];simp
  rw[this];exact P A ⟨X1,X2,s,t,j,ap,s1,s2,c,e2,e3⟩
theorem sF.pool (h:sF V Kp H0 A d n p m k1 k2 X Y):Fh V Kp H0 A d n p m X Y:=by
 obtain⟨X1,X2,s,t,x,ap,⟨c,e,g,rfl,c1,_,_⟩,⟨j,o,q,rfl,c2,_,_⟩,_,_,b⟩:=h;exact⟨c,j,s,ap.sub (λb a=>.inl a) λb a=>.inl a,c1,c2,b⟩
theorem Fh.alike {K:Bool->aa->Prop}(h:Fh V Kp H0 A d n p m X Y)(a:Gl H0)(e:X<1000000000000)(g:Y<68000000000)(c:∀B,Ext H0 B->K true B):GU.sp (aE d) (aE n) (aE p) (aE m) A K:=by
 obtain⟨j,o,s,ap,c1,c2,b⟩:=h;have h1:=b.hi;have q:=b.aB;exact uE ap c1 c2 a (by omega) (by omega) c
theorem DQ {B C D:aa}{h j:Nat->Prop}{s:Pl}{nm:ByteArray}(ap:cU V Kp H0 B h j)(c1:au h B p d s)(c2:ao j B m n s)(o:Ext B C)(E:qg C B.size p (GM nm (w:Int) (fr:Int)) bf [] bf)(y:Ext C D)(L:nf D C.size m (GM nm (w:Int) (fr:Int)) bf [] bf)(z:nm.size<=100)(b:Bd s x0 y0):
  w7 V Kp H0 D d n p m B.size C.size w fr 0 x0 y0:=by
 have T:=ap.ext.size;have U:=o.size;have I:=c1.lt;have J:=c2.lt;have c:∀k b,cg k bf [] bf b->b=k:=by
  rintro k b (u|u|⟨x,M,_⟩|u)
  ·exact u
  ·exact absurd u (aS b)
  ·cases M
  ·exact absurd u (aS b)
 have e:=(ap.go o).go y;refine⟨λb=>h b\/cg B.size bf [] bf b,λb=>j b\/cg C.size bf [] bf b,s,GM nm (w:Int) (fr:Int),⟨e.ext,λb a=>?_,λb a=>?_,λb a g=>?_,λb a=>?_⟩,⟨h,bf,[],bf,rfl,(c1.ext o).ext y,E.mod y λ_ _=>id,λb a u=>?_⟩,⟨j,bf,[],bf,rfl,(c2.ext o).ext y,L,λb a u=>?_⟩,⟨z,rfl,rfl,by simp[GM],rfl,λn z=>(by cases z),rfl⟩,b⟩
 ·rcases a with u|u
  ·exact ap.n1 b u
  ·have:=c _ b u;omega
 ·rcases a with u|u
  ·exact ap.n2 b u
  ·have:=c _ b u;omega
 ·rcases a with u|u
  ·rcases g with v|v
   ·exact ap.dis b u v
   ·have:=c _ b v;have:=I b u;omega
  ·have:=c _ b u;rcases g with v|v
   ·have:=J b v;omega
   ·have:=c _ b v;have:=aA E.rd.row;omega
 ·obtain⟨k1,_,N,O⟩:=ap.kept b a;obtain⟨P,S,_,_⟩:=e.kept b a;exact⟨P,S,λq=>q.elim N λu=>by have:=c _ b u;omega,λq=>q.elim O λu=>by have:=c _ b u;omega⟩
 ·have:=c _ b u;have:=I b a;omega
 ·have:=c _ b u;have:=J b a;omega
set_option maxHeartbeats 2000000 in
theorem tv {H:aa}{quota pool frames width q keep at_:Int}(hg:Gl H)(hq:quota<=9223372036854775807)(hp:q<=9223372036854775807)(hr:Rows H rows rl)(hlen:∀l∈rl,l.length<=17592186043904)
  (hK:∀B,Ext H B->R true B):KJ.sp quota pool frames width q keep rows at_ H R:=by
 refine KJ.of ?_;unfold KJ.vc;refine ax λH0 z0 r0 L=>?_;have T:=hr.len;refine ah (λ_=>hK H0 L) λN=>?_;have hl:rl.length<=400:=by
  have:¬(rows.n:Int)>400:=of_decide_eq_false N;omega
 have b:=hg.mod L id;have U:Rows H0 rows rl:=⟨T,λi hi=>by
  obtain⟨ad,r,e,Z,af⟩:=hr.at' i hi;exact⟨ad,r,e,Mod.cell L Z id,af.ext L⟩⟩
 refine aj.c8 (x:=(quota,pool,frames,width,q,keep)) r0 rfl rfl ?_;refine Dp b hq hp λB dp dm p m P1 P2 O j hj ap c1 c2 an=>?_;have M:=r0.ext ap.ext;have g:∀B,Ext H0 B->GQ.sp B λ(a1:Bool) H6=>R a1 H6:=λB e=>Cn (b.mod e id) λC e2=>hK C ((L.trans e).trans e2);refine M.ld (c:=ab .i64) (i:=3) (x:=width) rfl ?_;refine M.ld (c:=ab .i64) (i:=2) (x:=frames) rfl ?_;refine xw c1 (λn1=>?_) λn1 n2 C P sC=>?_
 ·refine M.ld (c:=ab .i64) (i:=3) (x:=width) rfl ?_;refine M.ld (c:=ab .i64) (i:=2) (x:=frames) rfl ?_;refine ug c2 (λ_=>?_) λn3=>absurd n3 (by rw[show (iQ (rL O (8+j)) (Pe #[102]) width frames).1=none from n1];simp);refine aC (by simp) (aC rfl ?_);have ne:(iQ (rL O (8+j)) (Pe #[102]) width frames).2≠0:=by
   unfold iQ at n1 ⊢;split
   ·decide
   ·split
    ·decide
    ·rename_i u v;rw[if_neg u,if_neg v] at n1;cases n1
  refine aP (by simpa using ne) ?_;refine uE ap c1 c2 b (by show (1:Int)<_;decide) (by show O.aB<_;omega) λD eD=>?_;exact aP rfl (g D eD)
 have zC:=P.size;have rC:=M.ext P;refine rC.ld (c:=ab .i64) (i:=3) (x:=width) rfl ?_;refine rC.ld (c:=ab .i64) (i:=2) (x:=frames) rfl ?_;refine ug (c2.ext P) (λn3=>absurd n3 (by rw[n1];simp)) λ_ _ D eD zD sD=>?_;refine aC (by simp) (aC rfl (aC rfl ?_))
 -- what holds of the sizes
 obtain⟨a6,a7,a8⟩:aH width≠0/\3<=frames/\frames<=((8+j:Nat):Int):=by
  unfold iQ at n1;split at n1
  ·cases n1
  ·rename_i u;split at n1
   ·cases n1
   ·rename_i v;have v1:¬frames<3:=λa=>v (.inl a);have v2:¬frames>((8+j:Nat):Int):=λa=>v (.inr a);exact⟨u,by omega,by omega⟩
 obtain⟨w0,bb⟩:=zo a6;obtain⟨w,rfl⟩:∃w:Nat,width=(w:Int):=⟨width.toNat,by omega⟩;obtain⟨fr,rfl⟩:∃fr:Nat,frames=(fr:Int):=⟨frames.toNat,by omega⟩;have hw:w<=16:=by omega
 have y:3<=fr:=by omega
 have J:fr<=100:=by omega
 have live:=DQ (nm:=yS) (w:=w) (fr:=fr) ap c1 c2 P sC eD sD (by decide) (x0:=1) (y0:=0) ⟨λf J=>by simp[rL] at J,by show (0:Int)<=1;decide,by show (1:Int)<=_;omega,by show O.aB<=_;rw[an];omega⟩;refine ar rl.length (λk i A=>i=(k:Int)/\(w7 H0 (λ_=>False) H0 A dp dm p m B.size C.size w fr k 1 0\/sF H0 (λ_=>False) H0 A dp dm p m B.size C.size 500000000000 38000000000)) ⟨rfl,.inl live⟩ ?_;rintro k _ A next hk ⟨rfl,hS⟩ o
 refine ah (λN=>?_) λN=>?_
 ·have z:k<rl.length:=by have:(k:Int)<(rows.n:Int):=of_decide_eq_true N;omega
  refine HV hS b hw y J (by omega) ⟨by omega,by omega⟩ ⟨by omega,by omega⟩ U hlen z λE S=>?_;rw[aD k (by omega)];refine ah (λ_=>?_) λ_=>?_
  ·refine rQ S b hw y J (by omega) (λt h=>h.wM hw y (by omega)) ⟨by omega,by omega⟩ ⟨by omega,by omega⟩ λG hG=>?_;exact aC rfl (o z _ _ ⟨rfl,.inr hG⟩)
  ·exact o z _ _ ⟨rfl,S⟩
 ·refine rQ hS b hw y J (by omega) (λt h=>h.wM hw y (by omega)) ⟨by omega,by omega⟩ ⟨by omega,by omega⟩ λE S=>aP rfl ?_;refine rQ (i:=0) (w:=w) (fr:=fr) (x0:=1) (y0:=0) (.inr S) b hw y J (by omega) (λt h=>h.wM hw y (by omega)) ⟨by omega,by omega⟩ ⟨by omega,by omega⟩ λG hG=>aP rfl ?_;exact hG.pool.alike b (by decide) (by decide) λI eI=>aP rfl (g I eI)
end
end Go.Proofs.YtmkbhnholcaghaaGreatDoor
